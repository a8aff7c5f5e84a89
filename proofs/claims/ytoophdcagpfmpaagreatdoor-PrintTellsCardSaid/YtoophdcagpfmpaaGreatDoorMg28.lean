/- From a law's walk to its row: arguments opened, handed back. What the rows of the print seat share: the listed tables' condition. Trees in memory of their own; tree.shifted. -/
import Derived.Test.YtoophdcagpfmpaaGreatDoorRows
import Derived.Test.YtoophdcagpfmpaaGreatDoorLib
import Derived.ProofKit
import Derived.Test.YtoophdcagpfmpaaGreatDoorPrS
import Derived.Test.YtoophdcagpfmpaaGreatDoorTie
import Derived.Test.YtoophdcagpfmpaaGreatDoorCards
import Derived.LaidMore
import Derived.OpenShut
import Derived.Stop.Joined
import Derived.Stop.LaidErr
import Derived.SevenTiedAt
import Derived.Test.YtoophdcagpfmpaaGreatDoorMg25
namespace Go.Proofs.YtoophdcagpfmpaaGreatDoor
open Go.ChangeShapes Go.WideShapes Go.ChangeAt Go.RowKit

theorem Tryz.own : ownKnob Tryz.prog.godebug = none := by kernel_rfl
theorem Tryz.laidOut : laidOutB Tryz.prog = true := by kernel_rfl
theorem Tryz.cellsInt : Tryz.prog.cellsOf 3 = 1 := by kernel_rfl

theorem wf_i64 {n : Int} (h : (Lit.int .i64 n).wf = true) : -9223372036854775808 ≤ n ∧ n < 9223372036854775808 := by
  simp [Lit.wf] at h
  have e1 : IntKind.i64.min = -9223372036854775808 := rfl
  have e2 : IntKind.i64.max = 9223372036854775807 := rfl
  omega

set_option maxRecDepth 100000 in
/-- A slice of integers among the arguments. -/
theorem arg_ints {H : Type} {enc : TypeId × Value → H} {W : World} {v : Value} {d : DataW H} {p : List MemPlace} {base : Nat} (hok : Value.okWide Tryz.prog W .any base 42 v)
    (h : DataW.Trod enc Tryz.prog W 0 (fun _ => true) true 42 v d p) :
    ∃ (a : Option Addr) (xs : List Int) (cap : Nat), v = .slice a xs.length cap ∧ IntsAt W a xs ∧ ∀ x ∈ xs, -9223372036854775808 ≤ x ∧ x < 9223372036854775808 := by
  obtain ⟨a0, len, cap, rfl⟩ := okWide_slice Tryz.underlying42 hok
  obtain ⟨fuel, hf⟩ := h
  rcases open_ints Tryz.underlying42 Tryz.underlying3 Tryz.cellsInt hf with ⟨hcs, hx⟩ | ⟨a, len', cap', zs, hcs, _, hl, hm, hz, hx, hcell, hwz⟩
  · simp [Value.cells] at hcs
    obtain ⟨rfl, rfl, rfl⟩ := hcs
    exact ⟨none, [], 0, rfl, fun k hk => by simp at hk, fun x hx => by cases hx⟩
  · simp [Value.cells] at hcs
    obtain ⟨rfl, rfl, rfl⟩ := hcs
    simp only [if_true] at hz
    refine ⟨some a, zs.take len, cap, by rw [List.length_take, Nat.min_eq_left (by omega)], ?_, fun x hx => wf_i64 (hwz x (List.mem_of_mem_take hx))⟩
    intro k hk
    rw [List.length_take, Nat.min_eq_left (by omega)] at hk
    obtain ⟨b, off, spot⟩ := a
    have hspot : spot = none := by simpa [Addr.add] using World.cell?_spot (hcell 0 (by omega))
    subst hspot
    refine ⟨b, off, rfl, ?_⟩
    have := hcell k (by omega)
    rw [add_plain] at this
    rw [this]
    congr 2
    simp [List.getD_eq_getElem?_getD, hk]
end Go.Proofs.YtoophdcagpfmpaaGreatDoor

namespace Go.Proofs.YtoophdcagpfmpaaGreatDoor
open Go.ChangeShapes Go.WideShapes Go.ChangeAt Go.RowKit

/-- The row's listed variables. -/
def laidL : List (String × DataW Unit) := [("math/bits.deBruijn32tab", Rows.laid_math_bits_deBruijn32tab), ("math/bits.deBruijn64tab", Rows.laid_math_bits_deBruijn64tab), ("internal/strconv.uint64pow10", Rows.laid_internal_strconv_uint64pow10), ("unicode.White_Space", Rows.laid_unicode_White_Space), ("strings.asciiSpace", Rows.laid_strings_asciiSpace)]
set_option maxRecDepth 100000 in
theorem door_met (os : Os) (args : Array Value) : laidMetH Tryz.prog laidL ((World.doorLaid Tryz.prog 400 os).forCall (fun _ _ => 0) ⟨#[], args, []⟩).memory :=
  laidMetH_of_parts3 (fuel := 8) (laidMet_of_run' 8 (by kernel_rfl) (by kernel_rfl)) (by kernel_rfl) (by kernel_rfl)
set_option maxRecDepth 100000 in
theorem tabs_of_laid {W : World} (h : laidMetH Tryz.prog laidL W) : PT W := by
  rw [MakeChecks.laidMetH_plain _ _ _ (by kernel_rfl)] at h
  have h2 := laidMet.tail (laidMet.tail h)
  have h3 := laidMet.tail (laidMet.tail h2)
  exact ⟨Lib.tabIs_of_head (P := Tryz.prog) (g := 0) (by kernel_rfl) (by kernel_rfl) Tryz.underlying147 Tryz.underlying5 (by kernel_rfl) (by kernel_rfl) (show laidMet Tryz.prog (("strings.asciiSpace", Lib.tabData .u8 Lib.asciiSpaceTab) :: []) W from h3),
    Lib.tabIs_of_head (P := Tryz.prog) (g := 3) (by kernel_rfl) (by kernel_rfl) Tryz.underlying218 Tryz.underlying143 (by kernel_rfl) (by kernel_rfl) (show laidMet Tryz.prog (("internal/strconv.uint64pow10", Lib.tabData .u64 Lib.pow10Tab) :: _) W from h2)⟩
end Go.Proofs.YtoophdcagpfmpaaGreatDoor

namespace Go.Proofs.YtoophdcagpfmpaaGreatDoor
open Go.RowKit

def ints (l : List Int) : List Value := l.map (Value.int .i64)
theorem ints_len (l : List Int) : (ints l).length = l.length := by simp [ints]
theorem ints_get {l : List Int} {i : Nat} (h : i < l.length) : (ints l)[i]? = some (.int .i64 (l.getD i 0)) := by
  simp [ints, List.getD_eq_getElem?_getD, h]
def ndCells (x : Nd) (lv : Value) : List Value := [.int .u8 (x.k : Nat), .int .i64 x.at_, .int .i64 x.n, .string x.s, lv]
def rowCells : List Nd → List Value → List Value
  | x :: xs, l :: ls => ndCells x l ++ rowCells xs ls
  | _, _ => []
theorem rowCells_len : ∀ (ts : List Nd) (ls : List Value), ls.length = ts.length → (rowCells ts ls).length = ts.length * 5
  | [], [], _ => rfl
  | x :: xs, l :: ls, h => by
    rw [rowCells, List.length_append, rowCells_len xs ls (by simpa using h), List.length_cons]
    simp [ndCells]; omega
theorem rowCells_app : ∀ (ts : List Nd) (ls : List Value) (x : Nd) (l : Value), ls.length = ts.length → rowCells (ts ++ [x]) (ls ++ [l]) = rowCells ts ls ++ ndCells x l
  | [], [], _, _, _ => by simp [rowCells]
  | y :: ys, m :: ms, x, l, h => by
    simp only [List.cons_append, rowCells, rowCells_app ys ms x l (by simpa using h), List.append_assoc]
theorem rowCells_get : ∀ (ts : List Nd) (ls : List Value), ls.length = ts.length → ∀ k i, k < ts.length → i < 5 → (rowCells ts ls)[k * 5 + i]? = (ndCells (ts.getD k nd0) (ls.getD k undef))[i]?
  | x :: xs, l :: ls, h, k, i, hk, hi => by
    rw [rowCells]
    cases k with
    | zero =>
      rw [List.getElem?_append_left (by simp [ndCells]; omega)]
      simp
    | succ k =>
      rw [List.getElem?_append_right (by simp [ndCells]; omega)]
      have e : (k + 1) * 5 + i - (ndCells x l).length = k * 5 + i := by simp [ndCells]; omega
      rw [e, rowCells_get xs ls (by simpa using h) k i (by simpa using hk) hi]
      simp
  | [], _, _, k, _, hk, _ => by simp at hk

/-- A tree in memory of its own, from block B on. -/
structure OwnTs (w : World) (B : Nat) (v : Value) (ts : List Nd) (ls : List Value) : Prop where
  len : ls.length = ts.length
  row : w.ownsRow B 44 5 v ts.length (rowCells ts ls)
  lists : ∀ k, k < ts.length → w.ownsRow B 3 1 (ls.getD k undef) (ts.getD k nd0).l.length (ints (ts.getD k nd0).l)
theorem ownTs_nil (w : World) (B : Nat) : OwnTs w B (.slice none 0 0) [] [] := ⟨rfl, World.ownsRow_nil _ _ _ _, fun k hk => by simp at hk⟩
theorem own_grown {w w' : World} {B : Nat} {e : TypeId} {size : Nat} {v : Value} {n : Nat} {xs : List Value} (h : w.ownsRow B e size v n xs) {row : Option Nat} (hg : w.grownBy w' row) (hr : ∀ g, v.ownBlock = some g → row ≠ some g) : w'.ownsRow B e size v n xs := by
  obtain ⟨h1, h2⟩ := h
  refine ⟨h1, ?_⟩
  rcases h2 with h2 | ⟨g, cap, cur, hv, hb, hh, r⟩
  · exact Or.inl h2
  · refine Or.inr ⟨g, cap, cur, hv, hb, ?_, r⟩
    rw [hg.block g (heap_lt hh) (fun e => hr g (by rw [hv]; rfl) e.symm)]
    exact hh
theorem OwnTs.push {w w' : World} {B : Nat} {v v' : Value} {ts : List Nd} {ls : List Value} {x : Nd} {lv : Value} (h : OwnTs w B v ts ls) (hl : w.ownsRow B 3 1 lv x.l.length (ints x.l))
    (h' : w'.ownsRow B 44 5 v' (ts.length + 1) (rowCells ts ls ++ ndCells x lv)) (hg : w.grownBy w' v.ownBlock) : OwnTs w' B v' (ts ++ [x]) (ls ++ [lv]) := by
  have hne : ∀ {u : Value} {n : Nat} {xs : List Value}, w.ownsRow B 3 1 u n xs → w'.ownsRow B 3 1 u n xs := fun hu => own_grown hu hg (fun g e1 e2 => by
    obtain ⟨c1, h1, -⟩ := own_block hu e1
    obtain ⟨c2, h2, -⟩ := own_block h.row e2
    rw [h1] at h2; cases h2)
  refine ⟨by simp [h.len], ?_, ?_⟩
  · rw [rowCells_app _ _ _ _ h.len, List.length_append]; exact h'
  · intro k hk
    rw [List.length_append, List.length_singleton] at hk
    by_cases hlt : k < ts.length
    · have e1 : (ls ++ [lv]).getD k undef = ls.getD k undef := by simp [List.getD_eq_getElem?_getD, List.getElem?_append_left (show k < ls.length by rw [h.len]; exact hlt)]
      have e2 : (ts ++ [x]).getD k nd0 = ts.getD k nd0 := by simp [List.getD_eq_getElem?_getD, List.getElem?_append_left hlt]
      rw [e1, e2]
      exact hne (h.lists k hlt)
    · obtain rfl : k = ts.length := by omega
      have e1 : (ls ++ [lv]).getD ts.length undef = lv := by simp [List.getD_eq_getElem?_getD, ← h.len]
      have e2 : (ts ++ [x]).getD ts.length nd0 = x := by simp [List.getD_eq_getElem?_getD]
      rw [e1, e2]
      exact hne hl
theorem OwnTs.kb {w w' : World} {B : Nat} {v : Value} {ts : List Nd} {ls : List Value} (h : OwnTs w B v ts ls) {S : Nat → Prop} (hk : KB S w w') (hS : ∀ g, B ≤ g → g < w.heap.size → ¬ S g) : OwnTs w' B v ts ls := by
  have hne : ∀ {u : Value} {e : TypeId} {z n : Nat} {xs : List Value}, w.ownsRow B e z u n xs → w'.ownsRow B e z u n xs := fun hu => own_kb hu hk (fun g e1 => by
    obtain ⟨c1, h1, hb⟩ := own_block hu e1
    exact hS g hb (heap_lt h1))
  exact ⟨h.len, hne h.row, fun k hk => hne (h.lists k hk)⟩
theorem OwnTs.kbF {w w' : World} {B : Nat} {v : Value} {ts : List Nd} {ls : List Value} (h : OwnTs w B v ts ls) (hk : KB F0 w w') : OwnTs w' B v ts ls := h.kb hk (fun _ _ _ x => x)
theorem OwnTs.base {w : World} {B B' : Nat} {v : Value} {ts : List Nd} {ls : List Value} (h : OwnTs w B v ts ls) (hb : B' ≤ B) : OwnTs w B' v ts ls :=
  ⟨h.len, own_base h.row hb, fun k hk => own_base (h.lists k hk) hb⟩
theorem own_ints {w : World} {B : Nat} {v : Value} {l : List Int} (h : w.ownsRow B 3 1 v l.length (ints l)) : ∃ la lc, v = .slice la l.length lc ∧ IntsAt w la l ∧ l.length ≤ lc ∧ lc ≤ maxLen := by
  obtain ⟨a, cap, rfl, h1, h2, hc, -⟩ := own_shape h
  refine ⟨a, cap, rfl, fun k hk => ?_, h1, h2⟩
  obtain ⟨g, rfl, -, hcl⟩ := hc k (by omega)
  refine ⟨g, 0, rfl, ?_⟩
  rw [Nat.zero_add, hcl, ints_get hk]
/-- An own tree lies as trees lie. -/
theorem OwnTs.nodes {w : World} {B : Nat} {v : Value} {ts : List Nd} {ls : List Value} (h : OwnTs w B v ts ls) : ∃ a cap, v = .slice a ts.length cap ∧ NodesAt w a ts ∧ ts.length ≤ cap ∧ cap ≤ maxLen ∧ (a = none ∨ ∃ g, a = some ⟨g, 0, none⟩ ∧ B ≤ g) := by
  obtain ⟨a, cap, rfl, h1, h2, hc, ha⟩ := own_shape h.row
  refine ⟨a, cap, rfl, fun k hk => ?_, h1, h2, ha⟩
  have hc5 : ∀ i, i < 5 → ∃ g, a = some ⟨g, 0, none⟩ ∧ w.cell? ⟨g, k * 5 + i, none⟩ = (ndCells (ts.getD k nd0) (ls.getD k undef))[i]? := fun i hi => by
    obtain ⟨g, e, -, hcl⟩ := hc (k * 5 + i) (by omega)
    exact ⟨g, e, by rw [hcl, rowCells_get _ _ h.len k i hk hi]⟩
  obtain ⟨g, rfl, c0⟩ := hc5 0 (by omega)
  have hg : ∀ i, i < 5 → w.cell? ⟨g, k * 5 + i, none⟩ = (ndCells (ts.getD k nd0) (ls.getD k undef))[i]? := fun i hi => by
    obtain ⟨g', e, hcl⟩ := hc5 i hi
    simp only [Option.some.injEq, Addr.mk.injEq, and_true] at e
    subst e; exact hcl
  refine ⟨g, 0, rfl, ?_⟩
  obtain ⟨la, lc, hlv, hin, hlc, hlm⟩ := own_ints (h.lists k hk)
  rw [Nat.zero_add]
  exact ⟨hg 0 (by omega), hg 1 (by omega), hg 2 (by omega), hg 3 (by omega), la, lc, by rw [hg 4 (by omega), ← hlv]; rfl, hin, hlc, hlm⟩

theorem clone_any (la : Option Addr) (l : List Int) (lc : Nat) (w : World) (_hl : l.length ≤ 20000) (h : IntsAt w la l) :
    Calls Tryz.prog 90 #[.slice la l.length lc] w fun e w' => ∃ v, e = .returned v ∧ w'.ownsRow w.heap.size 3 1 v l.length (ints l) ∧ KB F0 w w' := by
  by_cases h0 : l.length = 0
  · rw [h0]
    have hl0 : l = [] := List.eq_nil_of_length_eq_zero h0
    subst hl0
    cases la with
    | none =>
      refine (Tryz.slices_Clone_int_nil 0 lc w).mono ?_
      rintro e w' ⟨rfl, rfl⟩
      exact ⟨_, rfl, World.ownsRow_nil _ _ _ _, KB.refl _ _⟩
    | some p =>
      refine (Tryz.slices_Clone_int_zero p lc w).mono ?_
      rintro e w' ⟨v, rfl, h1, -, h2⟩
      exact ⟨_, rfl, h1, KB.of_below h2⟩
  · obtain ⟨b, off, rfl, -⟩ := h 0 (by omega)
    refine (Tryz.slices_Clone_int b off l.length lc l w (Nat.le_refl _) (by omega) (fun j hj => ?_)).mono ?_
    · obtain ⟨b', off', e, hc⟩ := h j hj
      simp only [Option.some.injEq, Addr.mk.injEq, and_true] at e
      obtain ⟨rfl, rfl⟩ := e
      exact hc
    · rintro e w' ⟨v, rfl, h1, -, h2⟩
      rw [List.take_of_length_le (Nat.le_refl _)] at h1
      exact ⟨_, rfl, h1, KB.of_below h2⟩
/-- A node with so much more in its list. -/
def shN (d : Int) (x : Nd) : Nd := { x with l := x.l.map (· + d) }
theorem hown3' {X : Nat} {w W3 wr : World} (h : KB (fun k => X + 1 ≤ k) W3 wr) (h3 : KB (fun k => X ≤ k) w W3) : KB (fun k => X ≤ k) w wr := h3.trans (h.mono (fun k _ e => by omega))
def shTo (d : Int) (l : List Int) (j : Nat) : List Int := (l.take j).map (· + d) ++ l.drop j
theorem shTo_len (d : Int) (l : List Int) (j : Nat) : (shTo d l j).length = l.length := by
  simp [shTo]; omega
theorem shTo_get {d : Int} {l : List Int} {j : Nat} (h : j < l.length) : (shTo d l j).getD j 0 = l.getD j 0 := by
  unfold shTo
  rw [List.getD_eq_getElem?_getD, List.getElem?_append_right (by simp; omega), List.getD_eq_getElem?_getD]
  simp [Nat.min_eq_left (Nat.le_of_lt h)]
theorem shTo_step {d : Int} {l : List Int} {j : Nat} (h : j < l.length) : (ints (shTo d l j)).set j (.int .i64 (l.getD j 0 + d)) = ints (shTo d l (j + 1)) := by
  have e : l.getD j 0 = l[j] := by simp [List.getD_eq_getElem?_getD, h]
  unfold shTo ints
  rw [drop_getD h, List.take_succ_eq_append_getElem h, e]
  simp only [List.map_append, List.map_cons, List.map_nil]
  rw [List.set_append_right _ _ (by simp; omega)]
  simp only [List.length_map, List.length_take, Nat.min_eq_left (Nat.le_of_lt h), Nat.sub_self, List.set_cons_zero, List.append_assoc, List.singleton_append]
theorem shTo_all (d : Int) (l : List Int) {j : Nat} (h : l.length ≤ j) : shTo d l j = l.map (· + d) := by
  unfold shTo; rw [List.take_of_length_le h, List.drop_of_length_le h, List.append_nil]
theorem Tryz.infoNode : (Tryz.prog.info? 44).map (fun i => (i.zero, i.size, i.bytes)) = some (some (.agg #[.int .u8 0, .int .i64 0, .int .i64 0, .string ByteArray.empty, .slice none 0 0]), 5, 64) := by kernel_rfl

set_option maxRecDepth 100000 in
set_option maxHeartbeats 8000000 in
theorem shifted_any (ts : List Nd) (hlen : ts.length ≤ 100000) (hok : ∀ x ∈ ts, NdOk x) (hlens : ∀ x ∈ ts, x.l.length ≤ 20000) (a : Option Addr) (cap : Nat) (d : Int)
    (hby : ∀ x ∈ ts, ∀ c ∈ x.l, -9223372036854775808 ≤ c + d ∧ c + d ≤ 9223372036854775807) (w : World) (hts : NodesAt w a ts) :
    Calls Tryz.prog 61 #[.slice a ts.length cap, .int .i64 d] w fun e w' => ∃ v ls, e = .returned v ∧ OwnTs w' w.heap.size v (ts.map (shN d)) ls ∧ KB F0 w w' := by
  obtain ⟨w0, rfl⟩ : ∃ w0, w0 = w := ⟨_, rfl⟩
  obtain ⟨N, hN⟩ : ∃ N, N = ts.length := ⟨_, rfl⟩
  rw [← hN] at hlen ⊢
  have HN := Lib.hid hN
  have HTS := Lib.hid (And.intro hts (And.intro hok (And.intro hlens hby)))
  obtain ⟨R, hR⟩ : ∃ R, R = ts.map (shN d) := ⟨_, rfl⟩
  rw [← hR]
  have HR := Lib.hid hR
  clear hts hok hlens hby hN hR
  go_enter Tryz.func61, Tryz.ntmps61
  go_wp2_with fail
  go_loopw [11, 5] (fun kv v wr => ∃ (k : Nat) (ls : List Value), k ≤ N ∧ kv = .int .i64 k ∧ OwnTs wr w0.heap.size v ((ts.take k).map (shN d)) ls ∧ KB F0 w0 wr) (fun kv _ _ => N - (intOf kv).toNat)
  case atStart => exact ⟨0, [], by omega, rfl, ownTs_nil _ _, KB.refl _ _⟩
  case round =>
    obtain ⟨k, ls, hk, rfl, hown, hkb⟩ := hrel
    by_cases hlt : k < N
    · obtain ⟨b, off, rfl, hnd0⟩ := HTS.out.1 k (by rw [← HN.out]; exact hlt)
      have hmem := getD_memN (ts := ts) (k := k) (by rw [← HN.out]; exact hlt)
      have hxo := HTS.out.2.1 _ hmem
      have hxl := HTS.out.2.2.1 _ hmem
      have hxb := HTS.out.2.2.2 _ hmem
      have htake : Hid ((ts.take (k + 1)).map (shN d) = (ts.take k).map (shN d) ++ [shN d (ts.getD k nd0)]) := Lib.hid (by
        rw [List.take_succ_eq_append_getElem (by rw [← HN.out]; exact hlt), List.map_append, show ts.getD k nd0 = ts[k]'(by rw [← HN.out]; exact hlt) by rw [List.getD_eq_getElem?_getD, List.getElem?_eq_getElem (by rw [← HN.out]; exact hlt)]; rfl]; rfl)
      generalize ts.getD k nd0 = x at hnd0 hxo hxl hxb htake
      have hnd := hnd0.kbF hkb
      have c0 := hnd.k
      have c1 := hnd.at_
      have c2 := hnd.n
      have c3 := hnd.s
      obtain ⟨la, lc, hl4, hints, hlc, hlm⟩ := hnd.l
      have hcl := Lib.hid (fun (W : World) (h : KB F0 wr W) => clone_any la x.l lc W hxl (hints.kbF h))
      have hon := hown.len
      have hrl : ((ts.take k).map (shN d)).length = k := by rw [List.length_map, List.length_take, ← HN.out, Nat.min_eq_left hk]
      generalize (ts.take k).map (shN d) = done at hown htake hrl hon
      obtain ⟨M, hM⟩ : ∃ M, M = x.l.length := ⟨_, rfl⟩
      rw [← hM] at hl4 hlc hcl hxl
      have HM := Lib.hid hM
      unfold maxLen at hlm
      have HK := Lib.hid (And.intro hown (And.intro hkb (And.intro hxb hon)))
      clear hown hkb hnd hnd0 hints hM hmem hxb hon
      go_wp2_with fail
      obtain ⟨W1, hW1⟩ : ∃ W1, W1 = (wr.alloc (.cells #[.int .u8 (x.k : Nat), .int .i64 x.at_, .int .i64 x.n, .string x.s, .slice la M lc] 44)) := ⟨_, rfl⟩
      rw [← hW1]
      have kA : KB F0 wr W1 := by rw [hW1]; exact (KB.refl _ _).alloc _
      have hs1 : W1.heap.size = wr.heap.size + 1 := by rw [hW1]; simp
      have bx : ∀ q, W1.cell? ⟨wr.heap.size, q, none⟩ = (#[.int .u8 (x.k : Nat), .int .i64 x.at_, .int .i64 x.n, .string x.s, .slice la M lc] : Array Value)[q]? := fun q => by
        rw [hW1]; exact new_cell _ _ _ q
      have bfz : ∀ q, W1.frozen? ⟨wr.heap.size, q, none⟩ = false := fun q => by
        have := alloc_new wr (.cells #[.int .u8 (x.k : Nat), .int .i64 x.at_, .int .i64 x.n, .string x.s, .slice la M lc] 44)
        rw [← hW1] at this
        simp [World.frozen?, this]
      clear hW1
      obtain ⟨X, hX⟩ : ∃ X, X = wr.heap.size := ⟨_, rfl⟩
      rw [← hX] at hs1 bx bfz ⊢
      refine (hcl.out W1 kA).mono ?_
      rintro e W2 ⟨lv, rfl, hlv, hk2⟩
      rw [hs1] at hlv
      obtain ⟨la2, lc2, rfl, hl2c, hl2m, -, -⟩ := own_shape hlv
      have x4 : W2.cell? ⟨X, 4, none⟩ = some (.slice la M lc) := hk2.cell (p := ⟨X, 4, none⟩) (fun x => x) (bx 4)
      have xfz : W2.frozen? ⟨X, 4, none⟩ = false := by
        rw [World.frozen?_of_block (w := W1) (hk2.block X (by omega) (fun x => x))]; exact bfz 4
      have kX : KB (fun k => k = X) W2 (W2.setCell ⟨X, 4, none⟩ (.slice la2 M lc2)) := (KB.refl (fun k => k = X) W2).setCell (p := ⟨X, 4, none⟩) (fun _ => rfl) _
      have kwr : KB (fun k => k = X) wr (W2.setCell ⟨X, 4, none⟩ (.slice la2 M lc2)) := ((kA.trans hk2).mono (fun _ _ x => x.elim)).trans kX
      have hown3 : KB (fun k => X ≤ k) wr (W2.setCell ⟨X, 4, none⟩ (.slice la2 M lc2)) := kwr.mono (fun k _ e => by rw [e]; exact Nat.le_refl _)
      have hlv3 := own_kb hlv kX (fun g e1 e2 => by
        obtain ⟨-, -, hb⟩ := own_block hlv e1
        omega)
      have hkb3 : KB F0 w0 (W2.setCell ⟨X, 4, none⟩ (.slice la2 M lc2)) := ((HK.out.2.1.trans kA).trans hk2).setCell (p := ⟨X, 4, none⟩) (fun h => by
        have h1 : X < w0.heap.size := h
        have := HK.out.2.1.size; omega) _
      have hy : ∀ q, q < 4 → (W2.setCell ⟨X, 4, none⟩ (.slice la2 M lc2)).cell? ⟨X, q, none⟩ = (#[.int .u8 (x.k : Nat), .int .i64 x.at_, .int .i64 x.n, .string x.s, .slice la M lc] : Array Value)[q]? := fun q hq => by
        rw [World.cell?_setCell_other _ _ _ _ (by simp <;> omega), World.cell?_of_block (w := W1) (hk2.block X (by omega) (fun x => x))]
        exact bx q
      have hy4 : (W2.setCell ⟨X, 4, none⟩ (.slice la2 M lc2)).cell? ⟨X, 4, none⟩ = some (.slice la2 M lc2) := World.cell?_setCell_same _ _ _ x4
      have H3 := Lib.hid (And.intro hown3 (And.intro hlv3 (And.intro hkb3 (And.intro hy hy4))))
      have HX := Lib.hid hX
      clear hown3 hlv3 hkb3 hy hy4 kwr kX hlv hk2 kA bx bfz hX hcl
      unfold maxLen at hl2m
      go_wp2_with fail
      obtain ⟨W3, hW3⟩ : ∃ W3, W3 = (W2.setCell ⟨X, 4, none⟩ (.slice la2 M lc2)) := ⟨_, rfl⟩
      rw [← hW3] at H3 ⊢
      clear hW3 x4 xfz c0 c1 c2 c3 hl4
      go_loopw [22] (fun jv wr2 => ∃ j : Nat, j ≤ M ∧ jv = .int .i64 j ∧ wr2.ownsRow (X + 1) 3 1 (.slice la2 M lc2) M (ints (shTo d x.l j)) ∧ KB (fun k => X + 1 ≤ k) W3 wr2 ∧ KB F0 w0 wr2) (fun jv _ => M - (intOf jv).toNat)
      case atStart => exact ⟨0, by omega, rfl, H3.out.2.1, KB.refl _ _, H3.out.2.2.1⟩
      case round =>
        obtain ⟨j, hj, rfl, hlv, hkb2, hkb0⟩ := hrel
        have y4 := hkb2.cell (p := ⟨X, 4, none⟩) (fun (h : X + 1 ≤ X) => by omega) H3.out.2.2.2.2
        by_cases hjt : j < M
        · obtain ⟨g, cp, e, hg, hcl, hfz, hset⟩ := own_set hlv hjt
          simp only [Value.slice.injEq, true_and] at e
          obtain ⟨rfl, rfl⟩ := e
          have hj' : j < x.l.length := by rw [← HM.out]; exact hjt
          have hset' := hset (.int .i64 (x.l.getD j 0 + d))
          rw [shTo_step hj'] at hset'
          rw [ints_get (by rw [shTo_len]; exact hj'), shTo_get hj'] at hcl
          have hrg := HK.out.2.2.1 _ (getD_memI hj')
          have hc1 := hxo.l _ (getD_memI hj')
          generalize x.l.getD j 0 = c at hcl hset' hrg hc1
          have hwr : IntKind.i64.wrap (c + d) = c + d := w64 (by omega) (by omega)
          have HS := Lib.hid hset'
          have Hkb := Lib.hid (hkb2.setCell (p := ⟨g, j, none⟩) (fun _ => hg) (.int .i64 (c + d)))
          have Hkb0 := Lib.hid (hkb0.setCell (p := ⟨g, j, none⟩) (fun h => by
            have h1 : g < w0.heap.size := h
            have := HX.out; have := HK.out.2.1.size; omega) (.int .i64 (c + d)))
          clear hlv hkb2 hkb0 hset hset'
          go_wp2
          go_roundw
          case rel => exact ⟨j + 1, by omega, by go_num, HS.out, Hkb.out, Hkb0.out⟩
          case measure => simp [intOf]; omega
        · obtain rfl : j = M := by omega
          have hown4 := HK.out.1.kb (hown3' hkb2 H3.out.1) (fun g _ h2 e => by have := HX.out; omega)
          have hy : ∀ q, q < 4 → wr.cell? ⟨X, q, none⟩ = (#[.int .u8 (x.k : Nat), .int .i64 x.at_, .int .i64 x.n, .string x.s, .slice la j lc] : Array Value)[q]? := fun q hq => by
            rw [World.cell?_of_block (w := W3) (hkb2.block X (heap_ltc H3.out.2.2.2.2) (fun (h : X + 1 ≤ X) => by omega))]; exact H3.out.2.2.2.1 q hq
          have y0 := hy 0 (by omega)
          have y1 := hy 1 (by omega)
          have y2 := hy 2 (by omega)
          have y3 := hy 3 (by omega)
          simp at y0 y1 y2 y3
          have hlv' : wr.ownsRow w0.heap.size 3 1 (.slice la2 j lc2) (shN d x).l.length (ints (shN d x).l) := by
            have e : (shN d x).l.length = j := by rw [HM.out]; simp [shN]
            have e2 : (shN d x).l = shTo d x.l j := by rw [shTo_all d x.l (by rw [HM.out]; exact Nat.le_refl _)]; rfl
            rw [e, e2]
            exact own_base hlv (by have := HX.out; have := HK.out.2.1.size; omega)
          have hw0 := hkb0.size
          have HF := Lib.hid (And.intro hown4 (And.intro hlv' hkb0))
          clear hown4 hlv' hkb0 hkb2 hlv hy
          go_wp2_with (at_builtin; refine Stopped.out ?_)
          refine ⟨?_⟩
          have ka : KB F0 wr (wr.alloc (.cells #[.int .u8 (x.k : Nat), .int .i64 x.at_, .int .i64 x.n, .string x.s, .slice la2 j lc2] 44)) := (KB.refl _ _).alloc _
          have HO := Lib.hid (And.intro (HF.out.1.kbF ka) (own_kb HF.out.2.1 ka (fun _ _ x => x)))
          refine appRow 22 44 w0.heap.size (ndCells (shN d x) (.slice la2 j lc2)) Tryz.infoNode Tryz.underlying22 rfl (by decide) HO.out.1.row rfl rfl rfl rfl (alloc_new _ _) rfl
            (by intro u hu; simp [ndCells] at hu; rcases hu with rfl | rfl | rfl | rfl | rfl <;> rfl) (by unfold maxLen; omega) (by omega) (by simp; omega) ?_
          intro v' w' hown' hgr
          have hpush := HO.out.1.push HO.out.2 hown' hgr
          have hk' := (HF.out.2.2.trans ka).grown hgr (fun g e h => by
            obtain ⟨-, -, hb⟩ := own_block HO.out.1.row e
            omega)
          rw [← htake.out] at hpush
          have HP := Lib.hid (And.intro hpush hk')
          obtain ⟨a', cap', rfl, -⟩ := own_shape hown'
          clear hpush hk' hown' hgr HO ka y0 y1 y2 y3 y4
          go_wp2
          go_roundw
          case rel => exact ⟨k + 1, _, by omega, by go_num, by have := HP.out.1; rw [hrl] at this; exact this, HP.out.2⟩
          case measure => simp [intOf]; omega
    · obtain rfl : k = N := by omega
      have hr : Hid (R = (ts.take k).map (shN d)) := Lib.hid (by rw [HR.out, List.take_of_length_le (by rw [← HN.out]; exact Nat.le_refl _)])
      have HK := Lib.hid (And.intro hown hkb)
      clear hown hkb
      go_wp2
      go_ret
      exact ⟨_, ls, rfl, by rw [hr.out]; exact HK.out.1, HK.out.2⟩
end Go.Proofs.YtoophdcagpfmpaaGreatDoor
