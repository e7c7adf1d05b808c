/-
  PARTS, one behind the other: LS.
-/
import Derived.Test.YtdlghljhgbakjaaDoorWi5
import Derived.Shelf.LaysM
import Derived.Shelf.Pu.ParseUintPublic10
import Derived.Shelf.Pu.ErrVarParseUint
import Derived.Shelf.Strings.Search1
import Derived.Shelf.Strings.Search2
import Derived.Shelf.Strings.Search3
import Derived.Shelf.Strings.Shaped
import Derived.Test.YtdlghljhgbakjaaDoorProg
/-
  PART: contracts of the library's functions, laid over this program (written by the kit's lay-plain.mjs, cut by shelfcut.py).
-/
namespace Go.Proofs.YtdlghljhgbakjaaDoor
open Go.Shelf Go.RowKit
def shf_lays144_ren : Go.Shelf.Ren := ⟨fun | 144 => 103 | 143 => 121 | 219 => 135 | 217 => 143 | 225 => 144 | 224 => 145 | 267 => 146 | 266 => 149 | 314 => 150 | n => n, fun | 9 => 9 | 4 => 4 | 3 => 3 | 5 => 5 | 46 => 147 | 146 => 162 | 51 => 161 | n => n, fun | 1 => 5 | n => n⟩
theorem shf_lays144 : Go.Proofs.Lays.n144 Tryd.prog shf_lays144_ren := {
  mixed := by kernel_rfl
  f143 := Tryd.func121.trans (congrArg some (by kernel_rfl))
  f144 := Tryd.func103.trans (congrArg some (by kernel_rfl))
  f217 := Tryd.func143.trans (congrArg some (by kernel_rfl))
  f219 := Tryd.func135.trans (congrArg some (by kernel_rfl))
  f224 := Tryd.func145.trans (congrArg some (by kernel_rfl))
  f225 := Tryd.func144.trans (congrArg some (by kernel_rfl))
  f266 := Tryd.func149.trans (congrArg some (by kernel_rfl))
  f267 := Tryd.func146.trans (congrArg some (by kernel_rfl))
  f314 := Tryd.func150.trans (congrArg some (by kernel_rfl))
  t3 := Tryd.underlying3
  a3 := Tryd.isAgg3
  z3 := Tryd.sizeOf3
  v3 := Tryd.zeroValue3
  t4 := Tryd.underlying4
  a4 := Tryd.isAgg4
  z4 := Tryd.sizeOf4
  v4 := Tryd.zeroValue4
  t5 := Tryd.underlying5
  a5 := Tryd.isAgg5
  z5 := Tryd.sizeOf5
  v5 := Tryd.zeroValue5
  t9 := Tryd.underlying9
  a9 := Tryd.isAgg9
  z9 := Tryd.sizeOf9
  v9 := Tryd.zeroValue9
  t46 := Tryd.underlying147
  a46 := Tryd.isAgg147
  z46 := Tryd.sizeOf147
  v46 := Tryd.zeroValue147
  t51 := Tryd.underlying161
  a51 := Tryd.isAgg161
  z51 := Tryd.sizeOf161
  v51 := Tryd.zeroValue161
  t146 := Tryd.underlying162
  a146 := Tryd.isAgg162
  z146 := Tryd.sizeOf162
  v146 := Tryd.zeroValue162
  g1 := by kernel_rfl }
theorem shf_strings_Contains (s sub : ByteArray) (m : Int) (w : World) (hs : s.size < 4294967281) (hm : w.cell? ⟨5, 0, none⟩ = some (.int .i64 m)) :
    Calls Tryd.prog 103 #[.string s, .string sub] w fun e w' => e = .returned (.bool (Lib.contains s.data.toList sub.data.toList)) ∧ w' = w := Any.strings_Contains shf_lays144 s sub m w hs hm
def shf_laysPu14_ren : Go.Shelf.Ren := ⟨fun | 14 => 63 | 16 => 101 | 17 => 102 | 19 => 115 | 20 => 116 | 21 => 117 | 22 => 118 | 23 => 119 | 24 => 120 | 25 => 133 | 27 => 90 | 26 => 134 | 28 => 113 | 29 => 132 | 30 => 127 | 31 => 128 | 32 => 129 | 33 => 130 | 35 => 138 | 34 => 137 | 36 => 139 | 37 => 140 | 38 => 141 | 39 => 147 | 40 => 148 | n => n, fun | 9 => 9 | 3 => 3 | 22 => 30 | 24 => 101 | 25 => 102 | 4 => 4 | 34 => 153 | 5 => 5 | 36 => 147 | 37 => 70 | 0 => 0 | 39 => 155 | 21 => 21 | 44 => 175 | 47 => 151 | 50 => 186 | 48 => 184 | 2 => 2 | 52 => 166 | 55 => 169 | 59 => 179 | 60 => 161 | 20 => 20 | 61 => 180 | 65 => 190 | 66 => 191 | 67 => 34 | n => n, fun | 0 => 2 | 1 => 3 | 2 => 4 | 3 => 6 | 4 => 7 | n => n⟩
theorem shf_laysPu14 : Go.Proofs.LaysPu.n14 Tryd.prog shf_laysPu14_ren := {
  mixed := by kernel_rfl
  f14 := Tryd.func63.trans (congrArg some (by kernel_rfl))
  f16 := Tryd.func101.trans (congrArg some (by kernel_rfl))
  f17 := Tryd.func102.trans (congrArg some (by kernel_rfl))
  f19 := Tryd.func115.trans (congrArg some (by kernel_rfl))
  f20 := Tryd.func116.trans (congrArg some (by kernel_rfl))
  f21 := Tryd.func117.trans (congrArg some (by kernel_rfl))
  f22 := Tryd.func118.trans (congrArg some (by kernel_rfl))
  f23 := Tryd.func119.trans (congrArg some (by kernel_rfl))
  f24 := Tryd.func120.trans (congrArg some (by kernel_rfl))
  f25 := Tryd.func133.trans (congrArg some (by kernel_rfl))
  f26 := Tryd.func134.trans (congrArg some (by kernel_rfl))
  f27 := Tryd.func90.trans (congrArg some (by kernel_rfl))
  f28 := Tryd.func113.trans (congrArg some (by kernel_rfl))
  f29 := Tryd.func132.trans (congrArg some (by kernel_rfl))
  f30 := Tryd.func127.trans (congrArg some (by kernel_rfl))
  f31 := Tryd.func128.trans (congrArg some (by kernel_rfl))
  f32 := Tryd.func129.trans (congrArg some (by kernel_rfl))
  f33 := Tryd.func130.trans (congrArg some (by kernel_rfl))
  f34 := Tryd.func137.trans (congrArg some (by kernel_rfl))
  f35 := Tryd.func138.trans (congrArg some (by kernel_rfl))
  f36 := Tryd.func139.trans (congrArg some (by kernel_rfl))
  f37 := Tryd.func140.trans (congrArg some (by kernel_rfl))
  f38 := Tryd.func141.trans (congrArg some (by kernel_rfl))
  f39 := Tryd.func147.trans (congrArg some (by kernel_rfl))
  f40 := Tryd.func148.trans (congrArg some (by kernel_rfl))
  t0 := Tryd.underlying0
  a0 := Tryd.isAgg0
  z0 := Tryd.sizeOf0
  v0 := Tryd.zeroValue0
  i0 := by kernel_rfl
  t2 := Tryd.underlying2
  a2 := Tryd.isAgg2
  z2 := Tryd.sizeOf2
  v2 := Tryd.zeroValue2
  i2 := by kernel_rfl
  t3 := Tryd.underlying3
  a3 := Tryd.isAgg3
  z3 := Tryd.sizeOf3
  v3 := Tryd.zeroValue3
  i3 := by kernel_rfl
  t4 := Tryd.underlying4
  a4 := Tryd.isAgg4
  z4 := Tryd.sizeOf4
  v4 := Tryd.zeroValue4
  i4 := by kernel_rfl
  t5 := Tryd.underlying5
  a5 := Tryd.isAgg5
  z5 := Tryd.sizeOf5
  v5 := Tryd.zeroValue5
  i5 := by kernel_rfl
  t9 := Tryd.underlying9
  a9 := Tryd.isAgg9
  z9 := Tryd.sizeOf9
  v9 := Tryd.zeroValue9
  i9 := by kernel_rfl
  t20 := Tryd.underlying20
  a20 := Tryd.isAgg20
  z20 := Tryd.sizeOf20
  v20 := Tryd.zeroValue20
  i20 := by kernel_rfl
  t21 := Tryd.underlying21
  a21 := Tryd.isAgg21
  z21 := Tryd.sizeOf21
  v21 := Tryd.zeroValue21
  i21 := by kernel_rfl
  t22 := Tryd.underlying30
  a22 := Tryd.isAgg30
  z22 := Tryd.sizeOf30
  v22 := Tryd.zeroValue30
  i22 := by kernel_rfl
  t24 := Tryd.underlying101
  a24 := Tryd.isAgg101
  z24 := Tryd.sizeOf101
  v24 := Tryd.zeroValue101
  i24 := by kernel_rfl
  t25 := Tryd.underlying102
  a25 := Tryd.isAgg102
  z25 := Tryd.sizeOf102
  v25 := Tryd.zeroValue102
  i25 := by kernel_rfl
  t34 := Tryd.underlying153
  a34 := Tryd.isAgg153
  z34 := Tryd.sizeOf153
  v34 := Tryd.zeroValue153
  i34 := by kernel_rfl
  c34 := by kernel_rfl
  t36 := Tryd.underlying147
  a36 := Tryd.isAgg147
  z36 := Tryd.sizeOf147
  v36 := Tryd.zeroValue147
  i36 := by kernel_rfl
  t37 := Tryd.underlying70
  a37 := Tryd.isAgg70
  z37 := Tryd.sizeOf70
  v37 := Tryd.zeroValue70
  i37 := by kernel_rfl
  t39 := Tryd.underlying155
  a39 := Tryd.isAgg155
  z39 := Tryd.sizeOf155
  v39 := Tryd.zeroValue155
  i39 := by kernel_rfl
  t44 := Tryd.underlying175
  a44 := Tryd.isAgg175
  z44 := Tryd.sizeOf175
  v44 := Tryd.zeroValue175
  i44 := by kernel_rfl
  t47 := Tryd.underlying151
  a47 := Tryd.isAgg151
  z47 := Tryd.sizeOf151
  v47 := Tryd.zeroValue151
  i47 := by kernel_rfl
  t48 := Tryd.underlying184
  a48 := Tryd.isAgg184
  z48 := Tryd.sizeOf184
  v48 := Tryd.zeroValue184
  i48 := by kernel_rfl
  t50 := Tryd.underlying186
  a50 := Tryd.isAgg186
  z50 := Tryd.sizeOf186
  v50 := Tryd.zeroValue186
  i50 := by kernel_rfl
  t52 := Tryd.underlying166
  a52 := Tryd.isAgg166
  z52 := Tryd.sizeOf166
  v52 := Tryd.zeroValue166
  i52 := by kernel_rfl
  t55 := Tryd.underlying169
  a55 := Tryd.isAgg169
  z55 := Tryd.sizeOf169
  v55 := Tryd.zeroValue169
  i55 := by kernel_rfl
  t59 := Tryd.underlying179
  a59 := Tryd.isAgg179
  z59 := Tryd.sizeOf179
  v59 := Tryd.zeroValue179
  i59 := by kernel_rfl
  t60 := Tryd.underlying161
  a60 := Tryd.isAgg161
  z60 := Tryd.sizeOf161
  v60 := Tryd.zeroValue161
  i60 := by kernel_rfl
  t61 := Tryd.underlying180
  a61 := Tryd.isAgg180
  z61 := Tryd.sizeOf180
  t65 := Tryd.underlying190
  a65 := Tryd.isAgg190
  z65 := Tryd.sizeOf190
  v65 := Tryd.zeroValue190
  i65 := by kernel_rfl
  t66 := Tryd.underlying191
  a66 := Tryd.isAgg191
  z66 := Tryd.sizeOf191
  v66 := Tryd.zeroValue191
  i66 := by kernel_rfl
  t67 := Tryd.underlying34
  a67 := Tryd.isAgg34
  z67 := Tryd.sizeOf34
  v67 := Tryd.zeroValue34
  i67 := by kernel_rfl
  g0 := by kernel_rfl
  m0 := by kernel_rfl
  g1 := by kernel_rfl
  m1 := by kernel_rfl
  g2 := by kernel_rfl
  m2 := by kernel_rfl
  g3 := by kernel_rfl
  m3 := by kernel_rfl
  g4 := by kernel_rfl
  m4 := by kernel_rfl }
theorem shf_strconv_ParseUint_10_at64_ok (s : ByteArray) (hmax : s.size ≤ 9223372036854775806) (u : Nat) (h : Lib.parseUintB 64 s.data.toList = .ok u) (w : World) :
    Calls Tryd.prog 63 #[.string s, .int .i64 10, .int .i64 64] w fun e w' => e = .returned (.tuple #[.int .u64 u, .nilIface]) ∧ (w' = w ∨ w' = Lib.bytesWorld w 5 s) := Any.strconv_ParseUint_10_at64_ok shf_laysPu14 s hmax u h w
theorem shf_strconv_ParseUint_10_at64_range (s : ByteArray) (hlim : s.size ≤ 281474976710656) (h : Lib.parseUintB 64 s.data.toList = .range) (ev : Value) (w : World) (hv : w.cell? ⟨3, 0, none⟩ = some ev) (hev : ev = .nilIface ∨ ∃ te pe, ev = .iface te pe) :
    Calls Tryd.prog 63 #[.string s, .int .i64 10, .int .i64 64] w fun e w' => ∃ N, e = .returned (.tuple #[.int .u64 18446744073709551615, .iface 155 (.pointer (some ⟨N, 0, none⟩))]) ∧ w.heap.size ≤ N ∧ w'.heap[N]? = some (.cells #[.string ⟨#[80, 97, 114, 115, 101, 85, 105, 110, 116]⟩, .string s, ev] 175 (0, 0)) ∧ Below w.heap.size w w' := Any.strconv_ParseUint_10_at64_range shf_laysPu14 s hlim h ev w hv hev
end Go.Proofs.YtdlghljhgbakjaaDoor
