/- The node behind all that is below a node. The shelf contracts of library functions that this seat calls, laid at its numbers. What print tells of a tree, plainly: expressions, types, lines. -/
import Derived.Test.YtoophdcagpfmpaaGreatDoorTreeU
import Derived.Shelf.Strings.OnBuilder
import Derived.Shelf.Small.Wraps
import Derived.Shelf.Strings.BuilderF
import Derived.Shelf.LaysM
import Derived.Shelf.Strconv.Itoa4
import Derived.Shelf.Strings.Prefix
import Derived.Shelf.Strings.Repeat
import Derived.Test.YtoophdcagpfmpaaGreatDoorProg
namespace Go.Proofs.YtoophdcagpfmpaaGreatDoor
open Go.RowKit

/-- The number behind a node and all below it. -/
def En (ts : List Nd) (n : Nat) : Nat := (Wt ts n).getD 0
theorem En_spec {ts : List Nd} (hg : Good ts) {n : Nat} (hn : n < ts.length) : Wt ts n = some (En ts n) ∧ n < En ts n ∧ En ts n ≤ ts.length := by
  obtain ⟨e, he, h1, h2⟩ := good_wt hg hn
  unfold En
  rw [he]
  exact ⟨rfl, h1, h2⟩
end Go.Proofs.YtoophdcagpfmpaaGreatDoor

namespace Go.Proofs
open Go.Shelf
def Tryz.lays169_ren : Go.Shelf.Ren := ⟨fun | 169 => 39 | n => n, fun | 70 => 63 | 9 => 9 | 0 => 0 | 72 => 66 | 37 => 64 | 127 => 98 | 3 => 3 | 5 => 5 | n => n, fun | n => n⟩
theorem Tryz.lays169 : Go.Proofs.Lays.n169 Tryz.prog Tryz.lays169_ren := {
  mixed := by kernel_rfl
  f169 := Tryz.func39.trans (congrArg some (by kernel_rfl))
  t0 := Tryz.underlying0
  a0 := Tryz.isAgg0
  z0 := Tryz.sizeOf0
  v0 := Tryz.zeroValue0
  t3 := Tryz.underlying3
  a3 := Tryz.isAgg3
  z3 := Tryz.sizeOf3
  v3 := Tryz.zeroValue3
  t9 := Tryz.underlying9
  a9 := Tryz.isAgg9
  z9 := Tryz.sizeOf9
  v9 := Tryz.zeroValue9
  t37 := Tryz.underlying64
  a37 := Tryz.isAgg64
  z37 := Tryz.sizeOf64
  v37 := Tryz.zeroValue64
  t70 := Tryz.underlying63
  a70 := Tryz.isAgg63
  z70 := Tryz.sizeOf63
  v70 := Tryz.zeroValue63
  t72 := Tryz.underlying66
  a72 := Tryz.isAgg66
  z72 := Tryz.sizeOf66
  v72 := Tryz.zeroValue66
  t127 := Tryz.underlying98
  a127 := Tryz.isAgg98
  z127 := Tryz.sizeOf98
  v127 := Tryz.zeroValue98 }
theorem Tryz.Builder_Extra_169 : Builder.Extra Tryz.prog Tryz.lays169_ren := {
  sizeBuilder := by kernel_rfl
  liesBuilder := by kernel_rfl
  t5 := Tryz.underlying5
  a5 := Tryz.isAgg5
  z5 := Tryz.sizeOf5
  v5 := Tryz.zeroValue5
  infoByte := by kernel_rfl
  cellsByte := by kernel_rfl
  sizeByte := by kernel_rfl
  neB5 := by decide }
def Tryz.lays156_ren : Go.Shelf.Ren := ⟨fun | 156 => 52 | 165 => 73 | 166 => 38 | 169 => 39 | 240 => 69 | 241 => 108 | 276 => 102 | 277 => 144 | n => n, fun | 31 => 33 | 9 => 9 | 3 => 3 | 4 => 4 | 0 => 0 | 20 => 20 | 72 => 66 | 76 => 70 | 70 => 63 | 37 => 64 | 75 => 69 | 127 => 98 | 164 => 136 | 5 => 5 | 80 => 72 | n => n, fun | n => n⟩
theorem Tryz.lays156 : Go.Proofs.Lays.n156 Tryz.prog Tryz.lays156_ren := {
  mixed := by kernel_rfl
  f156 := Tryz.func52.trans (congrArg some (by kernel_rfl))
  f165 := Tryz.func73.trans (congrArg some (by kernel_rfl))
  f166 := Tryz.func38.trans (congrArg some (by kernel_rfl))
  f169 := Tryz.func39.trans (congrArg some (by kernel_rfl))
  f240 := Tryz.func69.trans (congrArg some (by kernel_rfl))
  f241 := Tryz.func108.trans (congrArg some (by kernel_rfl))
  f276 := Tryz.func102.trans (congrArg some (by kernel_rfl))
  f277 := Tryz.func144.trans (congrArg some (by kernel_rfl))
  t0 := Tryz.underlying0
  a0 := Tryz.isAgg0
  z0 := Tryz.sizeOf0
  v0 := Tryz.zeroValue0
  t3 := Tryz.underlying3
  a3 := Tryz.isAgg3
  z3 := Tryz.sizeOf3
  v3 := Tryz.zeroValue3
  t4 := Tryz.underlying4
  a4 := Tryz.isAgg4
  z4 := Tryz.sizeOf4
  v4 := Tryz.zeroValue4
  t9 := Tryz.underlying9
  a9 := Tryz.isAgg9
  z9 := Tryz.sizeOf9
  v9 := Tryz.zeroValue9
  t20 := Tryz.underlying20
  a20 := Tryz.isAgg20
  z20 := Tryz.sizeOf20
  v20 := Tryz.zeroValue20
  t31 := Tryz.underlying33
  a31 := Tryz.isAgg33
  z31 := Tryz.sizeOf33
  v31 := Tryz.zeroValue33
  t37 := Tryz.underlying64
  a37 := Tryz.isAgg64
  z37 := Tryz.sizeOf64
  v37 := Tryz.zeroValue64
  t70 := Tryz.underlying63
  a70 := Tryz.isAgg63
  z70 := Tryz.sizeOf63
  v70 := Tryz.zeroValue63
  t72 := Tryz.underlying66
  a72 := Tryz.isAgg66
  z72 := Tryz.sizeOf66
  v72 := Tryz.zeroValue66
  t75 := Tryz.underlying69
  a75 := Tryz.isAgg69
  z75 := Tryz.sizeOf69
  v75 := Tryz.zeroValue69
  t76 := Tryz.underlying70
  a76 := Tryz.isAgg70
  z76 := Tryz.sizeOf70
  v76 := Tryz.zeroValue70
  t127 := Tryz.underlying98
  a127 := Tryz.isAgg98
  z127 := Tryz.sizeOf98
  v127 := Tryz.zeroValue98
  t164 := Tryz.underlying136
  a164 := Tryz.isAgg136
  z164 := Tryz.sizeOf136
  v164 := Tryz.zeroValue136 }
theorem Tryz.Builder_Extra_156 : Builder.Extra Tryz.prog Tryz.lays156_ren := {
  sizeBuilder := by kernel_rfl
  liesBuilder := by kernel_rfl
  t5 := Tryz.underlying5
  a5 := Tryz.isAgg5
  z5 := Tryz.sizeOf5
  v5 := Tryz.zeroValue5
  infoByte := by kernel_rfl
  cellsByte := by kernel_rfl
  sizeByte := by kernel_rfl
  neB5 := by decide }
open Go.RowKit in
theorem Tryz.strings_Join_none (a : Option Addr) (c : Nat) (sep : ByteArray) (w : World) :
    Calls Tryz.prog 52 #[.slice a 0 c, .string sep] w fun e w' => e = .returned (.string ⟨#[]⟩) ∧ w' = w := Any.strings_Join_none Tryz.lays156 Tryz.Builder_Extra_156 a c sep w
open Go.RowKit in
theorem Tryz.strings_Join (bk o c : Nat) (xs : List ByteArray) (sep : ByteArray) (w : World) (hcells : ∀ (j : Nat) x, xs[j]? = some x → w.cell? ⟨bk, o + j, none⟩ = some (.string x)) (hbk : bk < w.heap.size) (hN : xs.length ≤ 140737488355328) (hcap : xs.length ≤ c) (hlen : (Lib.join (xs.map (·.data.toList)) sep.data.toList).length ≤ 140737488355328) :
    Calls Tryz.prog 52 #[.slice (some ⟨bk, o, none⟩) xs.length c, .string sep] w fun e w' => e = .returned (.string ⟨(Lib.join (xs.map (·.data.toList)) sep.data.toList).toArray⟩) ∧ Below w.heap.size w w' := Any.strings_Join Tryz.lays156 Tryz.Builder_Extra_156 bk o c xs sep w hcells hbk hN hcap hlen
def Tryz.lays121_ren : Go.Shelf.Ren := ⟨fun | 121 => 105 | 214 => 143 | n => n, fun | 4 => 4 | 9 => 9 | n => n, fun | n => n⟩
theorem Tryz.lays121 : Go.Proofs.Lays.n121 Tryz.prog Tryz.lays121_ren := {
  mixed := by kernel_rfl
  f121 := Tryz.func105.trans (congrArg some (by kernel_rfl))
  f214 := Tryz.func143.trans (congrArg some (by kernel_rfl))
  t4 := Tryz.underlying4
  a4 := Tryz.isAgg4
  z4 := Tryz.sizeOf4
  v4 := Tryz.zeroValue4
  t9 := Tryz.underlying9
  a9 := Tryz.isAgg9
  z9 := Tryz.sizeOf9
  v9 := Tryz.zeroValue9 }
open Go.RowKit in
theorem Tryz.strconv_FormatBool (b : Bool) (w : World) :
    Calls Tryz.prog 105 #[.bool b] w fun e w' => e = .returned (.string ⟨(Lib.formatBool b).toArray⟩) ∧ w' = w := Any.strconv_FormatBool Tryz.lays121 b w
open Go.RowKit in
theorem Tryz.Builder_String_any_f (B b : Nat) (l : List UInt8) (w : World) (h : Lib.IsBuilderF 66 5 B b (Lib.byteCells l) w) (hBw : B ≤ w.heap.size) :
    Calls Tryz.prog 39 #[.pointer (some ⟨b, 0, none⟩)] w fun e w' => e = .returned (.string ⟨l.toArray⟩) ∧ (Lib.IsBuilderF 66 5 B b (Lib.byteCells l) w' ∧ Below B w w') := Any.Builder_String_any_f Tryz.lays169 Tryz.Builder_Extra_169 B b l w h hBw
def Tryz.laysM173_ren : Go.Shelf.Ren := ⟨fun | 173 => 104 | 246 => 142 | 283 => 172 | 284 => 173 | 285 => 174 | 286 => 175 | 129 => 209 | 317 => 208 | 318 => 210 | 319 => 211 | 320 => 212 | 337 => 225 | 338 => 226 | n => n, fun | 2 => 2 | 3 => 3 | 9 => 9 | 4 => 4 | 171 => 190 | 0 => 0 | 53 => 143 | 37 => 64 | 5 => 5 | 173 => 193 | 212 => 218 | 51 => 140 | 20 => 20 | 213 => 219 | 46 => 101 | 232 => 231 | 233 => 232 | n => n, fun | 17 => 3 | 18 => 4 | 19 => 5 | n => n⟩
theorem Tryz.laysM173 : Go.Proofs.LaysM.n173 Tryz.prog Tryz.laysM173_ren := {
  mixed := by kernel_rfl
  f129 := Tryz.func209.trans (congrArg some (by kernel_rfl))
  f173 := Tryz.func104.trans (congrArg some (by kernel_rfl))
  f246 := Tryz.func142.trans (congrArg some (by kernel_rfl))
  f283 := Tryz.func172.trans (congrArg some (by kernel_rfl))
  f284 := Tryz.func173.trans (congrArg some (by kernel_rfl))
  f285 := Tryz.func174.trans (congrArg some (by kernel_rfl))
  f286 := Tryz.func175.trans (congrArg some (by kernel_rfl))
  f317 := Tryz.func208.trans (congrArg some (by kernel_rfl))
  f318 := Tryz.func210.trans (congrArg some (by kernel_rfl))
  f319 := Tryz.func211.trans (congrArg some (by kernel_rfl))
  f320 := Tryz.func212.trans (congrArg some (by kernel_rfl))
  f337 := Tryz.func225.trans (congrArg some (by kernel_rfl))
  f338 := Tryz.func226.trans (congrArg some (by kernel_rfl))
  t0 := Tryz.underlying0
  a0 := Tryz.isAgg0
  z0 := Tryz.sizeOf0
  v0 := Tryz.zeroValue0
  t2 := Tryz.underlying2
  a2 := Tryz.isAgg2
  z2 := Tryz.sizeOf2
  v2 := Tryz.zeroValue2
  t3 := Tryz.underlying3
  a3 := Tryz.isAgg3
  z3 := Tryz.sizeOf3
  v3 := Tryz.zeroValue3
  t4 := Tryz.underlying4
  a4 := Tryz.isAgg4
  z4 := Tryz.sizeOf4
  v4 := Tryz.zeroValue4
  t5 := Tryz.underlying5
  a5 := Tryz.isAgg5
  z5 := Tryz.sizeOf5
  v5 := Tryz.zeroValue5
  t9 := Tryz.underlying9
  a9 := Tryz.isAgg9
  z9 := Tryz.sizeOf9
  v9 := Tryz.zeroValue9
  t20 := Tryz.underlying20
  a20 := Tryz.isAgg20
  z20 := Tryz.sizeOf20
  v20 := Tryz.zeroValue20
  t37 := Tryz.underlying64
  a37 := Tryz.isAgg64
  z37 := Tryz.sizeOf64
  v37 := Tryz.zeroValue64
  t46 := Tryz.underlying101
  a46 := Tryz.isAgg101
  z46 := Tryz.sizeOf101
  v46 := Tryz.zeroValue101
  t51 := Tryz.underlying140
  a51 := Tryz.isAgg140
  z51 := Tryz.sizeOf140
  v51 := Tryz.zeroValue140
  t53 := Tryz.underlying143
  a53 := Tryz.isAgg143
  z53 := Tryz.sizeOf143
  v53 := Tryz.zeroValue143
  t171 := Tryz.underlying190
  a171 := Tryz.isAgg190
  z171 := Tryz.sizeOf190
  v171 := Tryz.zeroValue190
  t173 := Tryz.underlying193
  a173 := Tryz.isAgg193
  z173 := Tryz.sizeOf193
  v173 := Tryz.zeroValue193
  t212 := Tryz.underlying218
  a212 := Tryz.isAgg218
  z212 := Tryz.sizeOf218
  v212 := Tryz.zeroValue218
  t213 := Tryz.underlying219
  a213 := Tryz.isAgg219
  z213 := Tryz.sizeOf219
  t232 := Tryz.underlying231
  a232 := Tryz.isAgg231
  z232 := Tryz.sizeOf231
  v232 := Tryz.zeroValue231
  t233 := Tryz.underlying232
  a233 := Tryz.isAgg232
  z233 := Tryz.sizeOf232
  v233 := Tryz.zeroValue232
  g17 := by kernel_rfl
  g18 := by kernel_rfl
  g19 := by kernel_rfl
  i0 := by kernel_rfl
  i2 := by kernel_rfl
  i3 := by kernel_rfl
  i4 := by kernel_rfl
  i5 := by kernel_rfl
  i9 := by kernel_rfl
  i20 := by kernel_rfl
  i37 := by kernel_rfl
  i46 := by kernel_rfl
  i51 := by kernel_rfl
  i53 := by kernel_rfl
  i171 := by kernel_rfl
  i173 := by kernel_rfl
  i212 := by kernel_rfl
  i232 := by kernel_rfl
  i233 := by kernel_rfl
  m17 := by kernel_rfl
  m18 := by kernel_rfl
  m19 := by kernel_rfl }
open Go.RowKit Go.Sort Go.Lib in
theorem Tryz.strconv_FormatInt_10 (n : Int) (h0 : -9223372036854775808 ≤ n) (h1 : n ≤ 9223372036854775807) (w : World) (htab : Lib.TabIs Tryz.prog w "internal/strconv.uint64pow10" .u64 Lib.pow10Tab) :
    Calls Tryz.prog 104 #[.int .i64 n, .int .i64 10] w fun e w' => e = .returned (.string ⟨(Lib.itoa n).toArray⟩) ∧ ∃ k os, w' = grow (w.drewN k) os := Any.strconv_FormatInt_10 Tryz.laysM173 n h0 h1 w htab
def Tryz.lays99_ren : Go.Shelf.Ren := ⟨fun | 99 => 75 | 206 => 111 | n => n, fun | 9 => 9 | 4 => 4 | 3 => 3 | n => n, fun | n => n⟩
theorem Tryz.lays99 : Go.Proofs.Lays.n99 Tryz.prog Tryz.lays99_ren := {
  mixed := by kernel_rfl
  f99 := Tryz.func75.trans (congrArg some (by kernel_rfl))
  f206 := Tryz.func111.trans (congrArg some (by kernel_rfl))
  t3 := Tryz.underlying3
  a3 := Tryz.isAgg3
  z3 := Tryz.sizeOf3
  v3 := Tryz.zeroValue3
  t4 := Tryz.underlying4
  a4 := Tryz.isAgg4
  z4 := Tryz.sizeOf4
  v4 := Tryz.zeroValue4
  t9 := Tryz.underlying9
  a9 := Tryz.isAgg9
  z9 := Tryz.sizeOf9
  v9 := Tryz.zeroValue9 }
open Go.RowKit Go.Lib in
theorem Tryz.strings_HasPrefix (s p : ByteArray) (w : World) :
    Calls Tryz.prog 75 #[.string s, .string p] w fun e w' => e = .returned (.bool (Lib.hasPrefix s.data.toList p.data.toList)) ∧ w' = w := Any.strings_HasPrefix Tryz.lays99 s p w
def Tryz.lays105_ren : Go.Shelf.Ren := ⟨fun | 105 => 53 | 212 => 74 | 99 => 75 | 165 => 73 | 166 => 38 | 170 => 76 | 169 => 39 | 263 => 109 | 264 => 110 | 206 => 111 | 240 => 69 | 241 => 108 | 276 => 102 | 277 => 144 | n => n, fun | 9 => 9 | 3 => 3 | 4 => 4 | 20 => 20 | 0 => 0 | 46 => 101 | 109 => 102 | 5 => 5 | 72 => 66 | 76 => 70 | 51 => 140 | 146 => 141 | 53 => 143 | 148 => 144 | 70 => 63 | 37 => 64 | 75 => 69 | 127 => 98 | 164 => 136 | 80 => 72 | n => n, fun | n => n⟩
theorem Tryz.lays105 : Go.Proofs.Lays.n105 Tryz.prog Tryz.lays105_ren := {
  mixed := by kernel_rfl
  f99 := Tryz.func75.trans (congrArg some (by kernel_rfl))
  f105 := Tryz.func53.trans (congrArg some (by kernel_rfl))
  f165 := Tryz.func73.trans (congrArg some (by kernel_rfl))
  f166 := Tryz.func38.trans (congrArg some (by kernel_rfl))
  f169 := Tryz.func39.trans (congrArg some (by kernel_rfl))
  f170 := Tryz.func76.trans (congrArg some (by kernel_rfl))
  f206 := Tryz.func111.trans (congrArg some (by kernel_rfl))
  f212 := Tryz.func74.trans (congrArg some (by kernel_rfl))
  f240 := Tryz.func69.trans (congrArg some (by kernel_rfl))
  f241 := Tryz.func108.trans (congrArg some (by kernel_rfl))
  f263 := Tryz.func109.trans (congrArg some (by kernel_rfl))
  f264 := Tryz.func110.trans (congrArg some (by kernel_rfl))
  f276 := Tryz.func102.trans (congrArg some (by kernel_rfl))
  f277 := Tryz.func144.trans (congrArg some (by kernel_rfl))
  t0 := Tryz.underlying0
  a0 := Tryz.isAgg0
  z0 := Tryz.sizeOf0
  v0 := Tryz.zeroValue0
  t3 := Tryz.underlying3
  a3 := Tryz.isAgg3
  z3 := Tryz.sizeOf3
  v3 := Tryz.zeroValue3
  t4 := Tryz.underlying4
  a4 := Tryz.isAgg4
  z4 := Tryz.sizeOf4
  v4 := Tryz.zeroValue4
  t5 := Tryz.underlying5
  a5 := Tryz.isAgg5
  z5 := Tryz.sizeOf5
  v5 := Tryz.zeroValue5
  t9 := Tryz.underlying9
  a9 := Tryz.isAgg9
  z9 := Tryz.sizeOf9
  v9 := Tryz.zeroValue9
  t20 := Tryz.underlying20
  a20 := Tryz.isAgg20
  z20 := Tryz.sizeOf20
  v20 := Tryz.zeroValue20
  t37 := Tryz.underlying64
  a37 := Tryz.isAgg64
  z37 := Tryz.sizeOf64
  v37 := Tryz.zeroValue64
  t46 := Tryz.underlying101
  a46 := Tryz.isAgg101
  z46 := Tryz.sizeOf101
  v46 := Tryz.zeroValue101
  t51 := Tryz.underlying140
  a51 := Tryz.isAgg140
  z51 := Tryz.sizeOf140
  v51 := Tryz.zeroValue140
  t53 := Tryz.underlying143
  a53 := Tryz.isAgg143
  z53 := Tryz.sizeOf143
  v53 := Tryz.zeroValue143
  t70 := Tryz.underlying63
  a70 := Tryz.isAgg63
  z70 := Tryz.sizeOf63
  v70 := Tryz.zeroValue63
  t72 := Tryz.underlying66
  a72 := Tryz.isAgg66
  z72 := Tryz.sizeOf66
  v72 := Tryz.zeroValue66
  t75 := Tryz.underlying69
  a75 := Tryz.isAgg69
  z75 := Tryz.sizeOf69
  v75 := Tryz.zeroValue69
  t76 := Tryz.underlying70
  a76 := Tryz.isAgg70
  z76 := Tryz.sizeOf70
  v76 := Tryz.zeroValue70
  t109 := Tryz.underlying102
  a109 := Tryz.isAgg102
  z109 := Tryz.sizeOf102
  v109 := Tryz.zeroValue102
  t127 := Tryz.underlying98
  a127 := Tryz.isAgg98
  z127 := Tryz.sizeOf98
  v127 := Tryz.zeroValue98
  t146 := Tryz.underlying141
  a146 := Tryz.isAgg141
  z146 := Tryz.sizeOf141
  v146 := Tryz.zeroValue141
  t148 := Tryz.underlying144
  a148 := Tryz.isAgg144
  z148 := Tryz.sizeOf144
  v148 := Tryz.zeroValue144
  t164 := Tryz.underlying136
  a164 := Tryz.isAgg136
  z164 := Tryz.sizeOf136
  v164 := Tryz.zeroValue136 }
theorem Tryz.Builder_Extra_105 : Builder.Extra Tryz.prog Tryz.lays105_ren := {
  sizeBuilder := by kernel_rfl
  liesBuilder := by kernel_rfl
  t5 := Tryz.underlying5
  a5 := Tryz.isAgg5
  z5 := Tryz.sizeOf5
  v5 := Tryz.zeroValue5
  infoByte := by kernel_rfl
  cellsByte := by kernel_rfl
  sizeByte := by kernel_rfl
  neB5 := by decide }
open Go.RowKit Go.Lib in
theorem Tryz.strings_Repeat (s : ByteArray) (c : Nat) (w : World) (hc : c ≤ 9223372036854775807) (hlen : s.size * c ≤ 140737488355328) :
    Calls Tryz.prog 53 #[.string s, .int .i64 c] w fun e w' => e = .returned (.string ⟨(Lib.repeatL s.data.toList c).toArray⟩) ∧ Below w.heap.size w w' := Any.strings_Repeat Tryz.lays105 Tryz.Builder_Extra_105 s c w hc hlen
end Go.Proofs

namespace Go.Proofs.YtoophdcagpfmpaaGreatDoor
open Go.RowKit

/-- Texts with something between each two. -/
def jnK (sep : ByteArray) (g : Nat → ByteArray) : Nat → ByteArray
  | 0 => ByteArray.empty
  | k + 1 => if k = 0 then g 0 else jnK sep g k ++ sep ++ g k
def catK (g : Nat → List ByteArray) : Nat → List ByteArray
  | 0 => []
  | k + 1 => catK g k ++ g k
/-- An expression's level. -/
def lvP (k : Nat) (s : ByteArray) : Nat :=
  if k = 32 then
    if s = ⟨#[124, 124]⟩ then 1 else if s = ⟨#[38, 38]⟩ then 2 else if s = ⟨#[43]⟩ ∨ s = ⟨#[45]⟩ then 4 else if s = ⟨#[42]⟩ ∨ s = ⟨#[47]⟩ ∨ s = ⟨#[37]⟩ then 5 else 3
  else if 28 ≤ k ∧ k ≤ 31 then 6 else if k = 27 then 7 else 8
def hasAmp (s : ByteArray) : Bool := Lib.hasPrefix s.data.toList [38]
def ampB (life : ByteArray) (m : Bool) (s : ByteArray) : ByteArray :=
  if life.size = 0 then
    if m = true then ⟨#[38, 109, 117, 116, 32]⟩ ++ s else if hasAmp s = true then ⟨#[38, 32]⟩ ++ s else ⟨#[38]⟩ ++ s
  else if m = true then ⟨#[38, 39]⟩ ++ life ++ ⟨#[32, 109, 117, 116, 32]⟩ ++ s else ⟨#[38, 39]⟩ ++ life ++ ⟨#[32]⟩ ++ s
abbrev kid (x : Nd) (i : Nat) : Nat := (x.l.getD i 0).toNat
/-- An expression without brackets around it; ch: its children at a level; ini: its children as fields. -/
def bareN (x : Nd) (ch : Nat → Nat → ByteArray) (ini : Nat → ByteArray) : ByteArray :=
  match x.k with
  | 24 => ⟨(Lib.itoa x.n).toArray⟩
  | 25 => if x.n = 1 then ⟨#[116, 114, 117, 101]⟩ else ⟨#[102, 97, 108, 115, 101]⟩
  | 26 => x.s
  | 27 => ch 0 7 ++ ⟨#[46]⟩ ++ x.s
  | 28 => ⟨#[42]⟩ ++ ch 0 6
  | 29 => ampB ByteArray.empty (x.n == 1) (ch 0 6)
  | 30 => ⟨#[45]⟩ ++ ch 0 6
  | 31 => ⟨#[33]⟩ ++ ch 0 6
  | 32 => ch 0 (if lvP 32 x.s = 3 then 4 else lvP 32 x.s) ++ ⟨#[32]⟩ ++ x.s ++ ⟨#[32]⟩ ++ ch 1 (lvP 32 x.s + 1)
  | 33 => x.s ++ ⟨#[40]⟩ ++ jnK ⟨#[44, 32]⟩ (fun i => ch i 1) x.l.length ++ ⟨#[41]⟩
  | 34 => x.s ++ ⟨#[32, 123, 32]⟩ ++ jnK ⟨#[44, 32]⟩ ini x.l.length ++ ⟨#[32, 125]⟩
  | 36 => ⟨#[98, 111, 120, 40]⟩ ++ ch 0 1 ++ ⟨#[41]⟩
  | _ => ⟨#[114, 101, 97, 100, 40, 41]⟩
def wrapN (x : Nd) (least : Nat) (b : ByteArray) : ByteArray := if lvP x.k x.s < least then ⟨#[40]⟩ ++ b ++ ⟨#[41]⟩ else b
def chE (rec : Nat → Nat → ByteArray) (x : Nd) : Nat → Nat → ByteArray := fun i least => if i < x.l.length then rec (kid x i) least else ByteArray.empty
def iniE (ts : List Nd) (rec : Nat → Nat → ByteArray) (x : Nd) : Nat → ByteArray := fun i =>
  if i < x.l.length then (ts.getD (kid x i) nd0).s ++ ⟨#[58, 32]⟩ ++ chE rec (ts.getD (kid x i) nd0) 0 1 else ByteArray.empty
def exF (ts : List Nd) : Nat → Nat → Nat → ByteArray
  | 0, _, _ => ByteArray.empty
  | f + 1, n, least => wrapN (ts.getD n nd0) least (bareN (ts.getD n nd0) (chE (exF ts f) (ts.getD n nd0)) (iniE ts (exF ts f) (ts.getD n nd0)))
def Ex (ts : List Nd) (n least : Nat) : ByteArray := exF ts ts.length n least
/-- A type. -/
def tyN (x : Nd) (ch : Nat → ByteArray) : ByteArray :=
  match x.k with
  | 8 => ⟨#[105, 54, 52]⟩
  | 9 => ⟨#[98, 111, 111, 108]⟩
  | 10 => ⟨#[66, 111, 120, 60]⟩ ++ ch 0 ++ ⟨#[62]⟩
  | 11 => ampB x.s (x.n == 1) (ch 0)
  | _ => x.s
def tyF (ts : List Nd) : Nat → Nat → ByteArray
  | 0, _ => ByteArray.empty
  | f + 1, n => tyN (ts.getD n nd0) (fun i => if i < (ts.getD n nd0).l.length then tyF ts f (kid (ts.getD n nd0) i) else ByteArray.empty)
def Ty (ts : List Nd) (n : Nat) : ByteArray := tyF ts ts.length n
def blB : Nat → ByteArray
  | 0 => ByteArray.empty
  | n + 1 => blB n ++ ⟨#[32, 32, 32, 32]⟩

section
variable (ts : List Nd)
def exK (x : Nd) (i : Nat) : ByteArray := if i < x.l.length then Ex ts (kid x i) 1 else ByteArray.empty
def tyK (x : Nd) (i : Nat) : ByteArray := if i < x.l.length then Ty ts (kid x i) else ByteArray.empty
def nmK (x : Nd) (i : Nat) : ByteArray := if i < x.l.length then (ts.getD (kid x i) nd0).s else ByteArray.empty
def typedB (n : Nat) : ByteArray := (ts.getD n nd0).s ++ ⟨#[58, 32]⟩ ++ tyK ts (ts.getD n nd0) 0
def tdK (x : Nd) (i : Nat) : ByteArray := if i < x.l.length then typedB ts (kid x i) else ByteArray.empty
def bndB (y : Nd) (j : Nat) : ByteArray := ⟨#[39]⟩ ++ nmK ts y j
def lifeB (n : Nat) : ByteArray :=
  if 0 < (ts.getD n nd0).l.length then (⟨#[39]⟩ ++ (ts.getD n nd0).s) ++ (⟨#[58, 32]⟩ ++ jnK ⟨#[32, 43, 32]⟩ (bndB ts (ts.getD n nd0)) (ts.getD n nd0).l.length) else ⟨#[39]⟩ ++ (ts.getD n nd0).s
def lfK (x : Nd) (i : Nat) : ByteArray := if i < x.l.length then lifeB ts (kid x i) else ByteArray.empty
def livesB (x : Nd) (k : Nat) : ByteArray := if 0 < k then ⟨#[60]⟩ ++ jnK ⟨#[44, 32]⟩ (lfK ts x) k ++ ⟨#[62]⟩ else ByteArray.empty
def parB (x : Nd) (k : Nat) : ByteArray := jnK ⟨#[44, 32]⟩ (fun i => tdK ts x (k + i)) (x.l.length - 2 - k)
def fnHead (x : Nd) : ByteArray :=
  ⟨#[102, 110, 32]⟩ ++ x.s ++ livesB ts x x.n.toNat ++ ⟨#[40]⟩ ++ parB ts x x.n.toNat ++ ⟨#[41, 32, 45, 62, 32]⟩ ++ tyK ts x (x.l.length - 2) ++ ⟨#[32]⟩
def structB (x : Nd) : ByteArray := ⟨#[115, 116, 114, 117, 99, 116, 32]⟩ ++ x.s ++ ⟨#[32, 123, 32]⟩ ++ jnK ⟨#[44, 32]⟩ (tdK ts x) x.l.length ++ ⟨#[32, 125]⟩
def letA (x : Nd) : ByteArray := if x.n = 1 ∨ x.n = 3 then (⟨#[108, 101, 116, 32]⟩ ++ x.s) ++ (⟨#[58, 32]⟩ ++ tyK ts x 0) else ⟨#[108, 101, 116, 32]⟩ ++ x.s
def letB (x : Nd) : ByteArray := if x.n = 2 ∨ x.n = 3 then letA ts x ++ (⟨#[32, 61, 32]⟩ ++ exK ts x (x.l.length - 1)) else letA ts x
/-- The lines of a statement whose first line begins with P, so far in. -/
def stN (rec : Nat → Nat → ByteArray → List ByteArray) (x : Nd) (inn : Nat) (P : ByteArray) : List ByteArray :=
  let ch := fun i inn P => if i < x.l.length then rec (kid x i) inn P else []
  match x.k with
  | 2 => [P ++ structB ts x]
  | 4 => ch (x.l.length - 1) inn (P ++ fnHead ts x)
  | 13 => [P ++ ⟨#[123]⟩] ++ catK (fun i => ch i (inn + 1) (blB (inn + 1))) x.l.length ++ [blB inn ++ ⟨#[125]⟩]
  | 14 => [P ++ (letB ts x ++ ⟨#[59]⟩)]
  | 15 => [P ++ (exK ts x 0 ++ ⟨#[32, 61, 32]⟩ ++ exK ts x 1 ++ ⟨#[59]⟩)]
  | 16 => if x.n = 0 then ch 1 inn (P ++ (⟨#[105, 102, 32]⟩ ++ exK ts x 0 ++ ⟨#[32]⟩))
          else (ch 1 inn (P ++ (⟨#[105, 102, 32]⟩ ++ exK ts x 0 ++ ⟨#[32]⟩))).dropLast ++ ch 2 inn (blB inn ++ ⟨#[125, 32, 101, 108, 115, 101, 32]⟩)
  | 17 => ch 1 inn (P ++ (⟨#[119, 104, 105, 108, 101, 32]⟩ ++ exK ts x 0 ++ ⟨#[32]⟩))
  | 18 => ch 0 inn (P ++ ⟨#[108, 111, 111, 112, 32]⟩)
  | 19 => [P ++ ⟨#[98, 114, 101, 97, 107, 59]⟩]
  | 20 => [P ++ ⟨#[99, 111, 110, 116, 105, 110, 117, 101, 59]⟩]
  | 21 => [P ++ (⟨#[114, 101, 116, 117, 114, 110, 32]⟩ ++ exK ts x 0 ++ ⟨#[59]⟩)]
  | 22 => [P ++ (⟨#[112, 114, 105, 110, 116, 40]⟩ ++ exK ts x 0 ++ ⟨#[41, 59]⟩)]
  | 23 => [P ++ (exK ts x 0 ++ ⟨#[59]⟩)]
  | _ => []
def stF : Nat → Nat → Nat → ByteArray → List ByteArray
  | 0, _, _, _ => []
  | f + 1, n, inn, P => stN ts (stF f) (ts.getD n nd0) inn P
def St5 (n inn : Nat) (P : ByteArray) : List ByteArray := stF ts ts.length n inn P
/-- The lines of a node. -/
def linesN : List ByteArray :=
  if (ts.getD 0 nd0).k = 1 then catK (fun i => if i < (ts.getD 0 nd0).l.length then St5 ts (kid (ts.getD 0 nd0) i) 0 ByteArray.empty else []) (ts.getD 0 nd0).l.length else St5 ts 0 0 ByteArray.empty
end

/-! The equations, of a tree whose children stand behind their parents. -/
section
variable {ts : List Nd}
theorem down_kid (hd : Down ts) {n : Nat} (hn : n < ts.length) {i : Nat} (hi : i < (ts.getD n nd0).l.length) : n < kid (ts.getD n nd0) i ∧ kid (ts.getD n nd0) i < ts.length := by
  have h := hd n hn _ (getD_memI hi)
  unfold kid; omega
theorem exF_fuel (hd : Down ts) (f : Nat) : ∀ f' n, n < ts.length → ts.length ≤ n + f → ts.length ≤ n + f' → exF ts f n = exF ts f' n := by
  induction f with
  | zero => intro f' n h1 h2; omega
  | succ f ih =>
    intro f' n h1 h2 h3
    obtain ⟨f', rfl⟩ : ∃ g, f' = g + 1 := ⟨f' - 1, by omega⟩
    have hk : ∀ m, n < m → m < ts.length → exF ts f m = exF ts f' m := fun m a b => ih f' m b (by omega) (by omega)
    have hc : chE (exF ts f) (ts.getD n nd0) = chE (exF ts f') (ts.getD n nd0) := by
      funext i least
      unfold chE
      by_cases hi : i < (ts.getD n nd0).l.length
      · have := down_kid hd h1 hi
        rw [if_pos hi, if_pos hi, hk _ this.1 this.2]
      · rw [if_neg hi, if_neg hi]
    have hi : iniE ts (exF ts f) (ts.getD n nd0) = iniE ts (exF ts f') (ts.getD n nd0) := by
      funext i
      unfold iniE
      by_cases hi : i < (ts.getD n nd0).l.length
      · have q := down_kid hd h1 hi
        rw [if_pos hi, if_pos hi]
        congr 1
        unfold chE
        by_cases hj : 0 < (ts.getD (kid (ts.getD n nd0) i) nd0).l.length
        · have := down_kid hd q.2 hj
          rw [if_pos hj, if_pos hj, hk _ (by omega) this.2]
        · rw [if_neg hj, if_neg hj]
      · rw [if_neg hi, if_neg hi]
    funext least
    unfold exF
    rw [hc, hi]
theorem Ex_eq (hd : Down ts) {n : Nat} (hn : n < ts.length) (least : Nat) : Ex ts n least = wrapN (ts.getD n nd0) least (bareN (ts.getD n nd0) (chE (Ex ts) (ts.getD n nd0)) (iniE ts (Ex ts) (ts.getD n nd0))) := by
  unfold Ex
  rw [exF_fuel hd ts.length (ts.length + 1) n hn (by omega) (by omega)]
  rfl
theorem tyF_fuel (hd : Down ts) (f : Nat) : ∀ f' n, n < ts.length → ts.length ≤ n + f → ts.length ≤ n + f' → tyF ts f n = tyF ts f' n := by
  induction f with
  | zero => intro f' n h1 h2; omega
  | succ f ih =>
    intro f' n h1 h2 h3
    obtain ⟨f', rfl⟩ : ∃ g, f' = g + 1 := ⟨f' - 1, by omega⟩
    unfold tyF
    congr 1
    funext i
    by_cases hi : i < (ts.getD n nd0).l.length
    · have := down_kid hd h1 hi
      rw [if_pos hi, if_pos hi, ih f' _ this.2 (by omega) (by omega)]
    · rw [if_neg hi, if_neg hi]
theorem Ty_eq (hd : Down ts) {n : Nat} (hn : n < ts.length) : Ty ts n = tyN (ts.getD n nd0) (tyK ts (ts.getD n nd0)) := by
  unfold Ty
  rw [tyF_fuel hd ts.length (ts.length + 1) n hn (by omega) (by omega)]
  rfl
theorem stF_fuel (hd : Down ts) (f : Nat) : ∀ f' n, n < ts.length → ts.length ≤ n + f → ts.length ≤ n + f' → stF ts f n = stF ts f' n := by
  induction f with
  | zero => intro f' n h1 h2; omega
  | succ f ih =>
    intro f' n h1 h2 h3
    obtain ⟨f', rfl⟩ : ∃ g, f' = g + 1 := ⟨f' - 1, by omega⟩
    funext inn P
    unfold stF stN
    have hk : (fun i inn P => if i < (ts.getD n nd0).l.length then stF ts f (kid (ts.getD n nd0) i) inn P else []) = fun i inn P => if i < (ts.getD n nd0).l.length then stF ts f' (kid (ts.getD n nd0) i) inn P else [] := by
      funext i inn P
      by_cases hi : i < (ts.getD n nd0).l.length
      · have := down_kid hd h1 hi
        rw [if_pos hi, if_pos hi, ih f' _ this.2 (by omega) (by omega)]
      · rw [if_neg hi, if_neg hi]
    rw [hk]
theorem St_eq (hd : Down ts) {n : Nat} (hn : n < ts.length) (inn : Nat) (P : ByteArray) : St5 ts n inn P = stN ts (St5 ts) (ts.getD n nd0) inn P := by
  unfold St5
  rw [stF_fuel hd ts.length (ts.length + 1) n hn (by omega) (by omega)]
  rfl
end
end Go.Proofs.YtoophdcagpfmpaaGreatDoor
