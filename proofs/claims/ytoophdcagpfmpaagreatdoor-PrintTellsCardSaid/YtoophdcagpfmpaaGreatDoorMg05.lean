/- The walks of tree.keywords, Name, TypeName, and of loanwordref03.Keyword, Name, TypeName, sign. The walks of tree's and loanwordref03's classes of kinds. -/
import Derived.Test.YtoophdcagpfmpaaGreatDoorMg04
import Derived.Test.YtoophdcagpfmpaaGreatDoorMg03
namespace Go.Proofs.YtoophdcagpfmpaaGreatDoor
open Go.RowKit

/-- The table that strings.Fields reads. -/
def Tab (w : World) : Prop := Lib.TabIs Tryz.prog w "strings.asciiSpace" .u8 Lib.asciiSpaceTab
theorem var_kb {P : Program} {w w' : World} {n : String} {cs : Array Value} (hk : KB (fun _ => False) w w') (h : w.var? P n = some cs) : w'.var? P n = some cs := by
  unfold World.var? at h ⊢
  cases hg : P.globalNamed n with
  | none => simp [hg] at h
  | some g =>
    simp only [hg, Option.bind_some] at h ⊢
    cases ho : w.heap[g]? with
    | none => simp [ho] at h
    | some o => rw [hk.heap (fun x => x) ho]; simpa [ho] using h
theorem Tab.kb {w w' : World} (h : Tab w) (hk : KB (fun _ => False) w w') : Tab w' := var_kb hk h

def kwl : List (List UInt8) := [[102, 110], [115, 116, 114, 117, 99, 116], [108, 101, 116], [105, 102], [101, 108, 115, 101], [108, 111, 111, 112], [119, 104, 105, 108, 101], [98, 114, 101, 97, 107], [99, 111, 110, 116, 105, 110, 117, 101], [114, 101, 116, 117, 114, 110], [116, 114, 117, 101], [102, 97, 108, 115, 101], [109, 117, 116], [112, 114, 105, 110, 116], [114, 101, 97, 100], [98, 111, 120], [105, 54, 52], [98, 111, 111, 108]]
def sgl : List (List UInt8) := [[43], [45], [42], [47], [37], [61, 61], [33, 61], [60], [60, 61], [62], [62, 61], [38, 38], [124, 124]]
def kwB (s : ByteArray) : Bool := kwl.any fun l => s.toList == l
def sgB (s : ByteArray) : Bool := sgl.any fun l => s.toList == l
def nameB (s : ByteArray) : Bool := lettersB smallB plainB s && !kwB s
def typeNameB (s : ByteArray) : Bool := lettersB greatB wideB s && !(s.toList == [66, 111, 120])

def kwText : ByteArray := ⟨#[102, 110, 32, 115, 116, 114, 117, 99, 116, 32, 108, 101, 116, 32, 105, 102, 32, 101, 108, 115, 101, 32, 108, 111, 111, 112, 32, 119, 104, 105, 108, 101, 32, 98, 114, 101, 97, 107, 32, 99, 111, 110, 116, 105, 110, 117, 101, 32, 114, 101, 116, 117, 114, 110, 32, 116, 114, 117, 101, 32, 102, 97, 108, 115, 101, 32, 109, 117, 116, 32, 112, 114, 105, 110, 116, 32, 114, 101, 97, 100, 32, 98, 111, 120, 32, 105, 54, 52, 32, 98, 111, 111, 108]⟩
def sgText : ByteArray := ⟨#[43, 32, 45, 32, 42, 32, 47, 32, 37, 32, 61, 61, 32, 33, 61, 32, 60, 32, 60, 61, 32, 62, 32, 62, 61, 32, 38, 38, 32, 124, 124]⟩
set_option maxRecDepth 100000 in
theorem kw_fields : Lib.fields kwText.data.toList = kwl := by decide +kernel
set_option maxRecDepth 100000 in
theorem sg_fields : Lib.fields sgText.data.toList = sgl := by decide +kernel
set_option maxRecDepth 100000 in
theorem kw_ascii : ∀ (j : Nat) b, kwText.data.toList[j]? = some b → b.toNat < 128 := fun j b h => by
  have : ∀ b ∈ kwText.data.toList, b.toNat < 128 := by decide +kernel
  exact this b (List.mem_of_getElem? h)
set_option maxRecDepth 100000 in
theorem sg_ascii : ∀ (j : Nat) b, sgText.data.toList[j]? = some b → b.toNat < 128 := fun j b h => by
  have : ∀ b ∈ sgText.data.toList, b.toNat < 128 := by decide +kernel
  exact this b (List.mem_of_getElem? h)

/-- A row of texts. -/
def srow (ls : List (List UInt8)) : Array Value := (ls.map fun l => Value.string ⟨l.toArray⟩).toArray
theorem srow_cell {w : World} {b : Nat} {ls : List (List UInt8)} {t : TypeId} (h : w.heap[b]? = some (.cells (srow ls) t (0, 0))) :
    ∀ j, j < (ls.map fun l => (⟨l.toArray⟩ : ByteArray)).length → w.cell? ⟨b, 0 + j, none⟩ = some (.string ((ls.map fun l => (⟨l.toArray⟩ : ByteArray)).getD j ByteArray.empty)) := by
  intro j hj
  simp only [World.cell?, h, Nat.zero_add]
  simp only [List.length_map] at hj
  simp [srow, hj, List.getD_eq_getElem?_getD]
theorem toList_beq (s : ByteArray) (l : List UInt8) : (s.toList == l) = decide (s = ⟨l.toArray⟩) := by
  rw [ByteArray.toList_eq, Bool.eq_iff_iff, beq_iff_eq, decide_eq_true_iff]
  constructor
  · intro h; subst h; simp
  · rintro rfl; simp
theorem contains_any (ls : List (List UInt8)) (s : ByteArray) : Lib.containsS (ls.map fun l => (⟨l.toArray⟩ : ByteArray)) s = ls.any fun l => s.toList == l := by
  rw [Bool.eq_iff_iff, Lib.containsS_iff, List.any_eq_true, List.mem_map]
  constructor
  · rintro ⟨l, hl, rfl⟩; exact ⟨l, hl, by rw [toList_beq]; simp⟩
  · rintro ⟨l, hl, he⟩; rw [toList_beq] at he; exact ⟨l, hl, (of_decide_eq_true he).symm⟩

/-- strings.Fields at one of the two texts, and slices.Contains behind it. -/
theorem fields_kw (w : World) (hT : Tab w) : Calls Tryz.prog 83 #[.string kwText] w fun e w' => e = .returned (.slice (some ⟨w.heap.size, 0, none⟩) 18 18) ∧ w' = w.alloc (.cells (srow kwl) 9) := by
  have h := Tryz.strings_Fields kwText w (by decide +kernel) kw_ascii hT
  rw [kw_fields] at h
  exact h
theorem fields_sg (w : World) (hT : Tab w) : Calls Tryz.prog 83 #[.string sgText] w fun e w' => e = .returned (.slice (some ⟨w.heap.size, 0, none⟩) 13 13) ∧ w' = w.alloc (.cells (srow sgl) 9) := by
  have h := Tryz.strings_Fields sgText w (by decide +kernel) sg_ascii hT
  rw [sg_fields] at h
  exact h
theorem contains_kw (b : Nat) (s : ByteArray) (w : World) (h : w.heap[b]? = some (.cells (srow kwl) 9 (0, 0))) :
    Calls Tryz.prog 82 #[.slice (some ⟨b, 0, none⟩) 18 18, .string s] w fun e w' => e = .returned (.bool (kwB s)) ∧ w = w' := by
  refine (Tryz.slices_Contains_string b 0 18 18 (kwl.map fun l => ⟨l.toArray⟩) s w (by simp [kwl]) (by omega) (srow_cell h)).mono ?_
  rintro e w' ⟨rfl, rfl⟩
  rw [List.take_of_length_le (by simp [kwl]), contains_any]
  exact ⟨rfl, rfl⟩
theorem contains_sg (b : Nat) (s : ByteArray) (w : World) (h : w.heap[b]? = some (.cells (srow sgl) 9 (0, 0))) :
    Calls Tryz.prog 82 #[.slice (some ⟨b, 0, none⟩) 13 13, .string s] w fun e w' => e = .returned (.bool (sgB s)) ∧ w = w' := by
  refine (Tryz.slices_Contains_string b 0 13 13 (sgl.map fun l => ⟨l.toArray⟩) s w (by simp [sgl]) (by omega) (srow_cell h)).mono ?_
  rintro e w' ⟨rfl, rfl⟩
  rw [List.take_of_length_le (by simp [sgl]), contains_any]
  exact ⟨rfl, rfl⟩
set_option maxRecDepth 100000 in
theorem keywords_any (w : World) (hT : Tab w) : Calls Tryz.prog 187 #[] w fun e w' => e = .returned (.slice (some ⟨w.heap.size, 0, none⟩) 18 18) ∧ w' = w.alloc (.cells (srow kwl) 9) := by
  have Hf := Lib.hid (fields_kw w hT)
  clear hT
  go_enter Tryz.func187, Tryz.ntmps187
  go_wp2_with fail
  refine Hf.out.mono ?_
  rintro e w' ⟨rfl, rfl⟩
  go_wp2
  go_ret
  exact ⟨rfl, rfl⟩

set_option maxRecDepth 100000 in
set_option maxHeartbeats 1000000 in
theorem name_any (s : ByteArray) (w : World) (hs : s.size ≤ 9223372036854775807) (hT : Tab w) :
    Calls Tryz.prog 155 #[.string s] w fun e w' => e = .returned (.bool (nameB s)) ∧ KB (fun _ => False) w w' := by
  have Hl := Lib.hid (letters_small s w hs)
  have Hr : Hid (nameB s = (lettersB smallB plainB s && !kwB s)) := Lib.hid rfl
  have Hk := Lib.hid (keywords_any w hT)
  have Hc := Lib.hid (contains_kw w.heap.size s (w.alloc (.cells (srow kwl) 9)) (alloc_new w _))
  clear hT
  generalize lettersB smallB plainB s = b0 at Hl Hr
  generalize kwB s = b1 at Hr Hc
  cases b0
  · go_enter Tryz.func155, Tryz.ntmps155
    go_wp2_with fail
    refine Hl.out.mono ?_
    rintro e w' ⟨rfl, rfl⟩
    go_wp2
    go_ret
    exact ⟨ret_eq (by rw [Hr.out]; rfl), KB.refl _ _⟩
  · go_enter Tryz.func155, Tryz.ntmps155
    go_wp2_with fail
    refine Hl.out.mono ?_
    rintro e w' ⟨rfl, rfl⟩
    go_wp2_with fail
    refine Hk.out.mono ?_
    rintro e w' ⟨rfl, rfl⟩
    go_wp2_with fail
    refine Hc.out.mono ?_
    rintro e w' ⟨rfl, rfl⟩
    go_wp2
    go_ret
    exact ⟨ret_eq (by rw [Hr.out]; rfl), (KB.refl _ _).alloc _⟩
set_option maxRecDepth 100000 in
set_option maxHeartbeats 1000000 in
theorem typeName_any (s : ByteArray) (w : World) (hs : s.size ≤ 9223372036854775807) :
    Calls Tryz.prog 160 #[.string s] w fun e w' => e = .returned (.bool (typeNameB s)) ∧ w = w' := by
  have Hl := Lib.hid (letters_great s w hs)
  have Hr : Hid (typeNameB s = (lettersB greatB wideB s && !(s.toList == [66, 111, 120]))) := Lib.hid rfl
  obtain ⟨b1, hb1⟩ : ∃ b1, (s.toList == [66, 111, 120]) = b1 := ⟨_, rfl⟩
  rw [hb1] at Hr
  generalize lettersB greatB wideB s = b0 at Hl Hr
  cases b0
  · go_enter Tryz.func160, Tryz.ntmps160
    go_wp2_with fail
    refine Hl.out.mono ?_
    rintro e w' ⟨rfl, rfl⟩
    go_wp2
    go_ret
    exact ⟨ret_eq (by rw [Hr.out]; rfl), rfl⟩
  · cases b1
    all_goals
      go_enter Tryz.func160, Tryz.ntmps160
      go_wp2_with fail
      refine Hl.out.mono ?_
      rintro e w' ⟨rfl, rfl⟩
      go_wp2
      go_ret
      exact ⟨ret_eq (by rw [Hr.out]; rfl), rfl⟩
set_option maxRecDepth 100000 in
set_option maxHeartbeats 2000000 in
theorem ckeyword_any (s : ByteArray) (w : World) : Calls Tryz.prog 181 #[.string s] w fun e w' => e = .returned (.bool (kwB s)) ∧ w = w' := by
  obtain ⟨r, hr⟩ : ∃ r, r = kwB s := ⟨_, rfl⟩
  have Hr : Hid (r = (kwl.any fun l => s.toList == l)) := Lib.hid hr
  rw [← hr]
  clear hr
  go_enter Tryz.func181, Tryz.ntmps181
  go_wp2
  all_goals
    go_ret
    refine ⟨ret_eq ?_, rfl⟩
    rw [Hr.out]
    first
      | (simp [kwl, *]; done)
      | (exfalso; simp_all; done)
set_option maxRecDepth 100000 in
set_option maxHeartbeats 2000000 in
theorem csign_any (s : ByteArray) (w : World) : Calls Tryz.prog 148 #[.string s] w fun e w' => e = .returned (.bool (sgB s)) ∧ w = w' := by
  obtain ⟨r, hr⟩ : ∃ r, r = sgB s := ⟨_, rfl⟩
  have Hr : Hid (r = (sgl.any fun l => s.toList == l)) := Lib.hid hr
  rw [← hr]
  clear hr
  go_enter Tryz.func148, Tryz.ntmps148
  go_wp2
  all_goals
    go_ret
    refine ⟨ret_eq ?_, rfl⟩
    rw [Hr.out]
    first
      | (simp [sgl, *]; done)
      | (exfalso; simp_all; done)
end Go.Proofs.YtoophdcagpfmpaaGreatDoor

namespace Go.Proofs.YtoophdcagpfmpaaGreatDoor
open Go.RowKit

theorem dne1 {k : Int} {c : Nat} {m : Nat} (hk : k = m) : ((c : Int) != k) = !decide (c = m) := by rw [bne, deq1 hk]
def isTypeB (c : Nat) : Bool := decide (8 ≤ c) && decide (c ≤ 12)
def isExprB (c : Nat) : Bool := (decide (24 ≤ c) && decide (c ≤ 37)) && !decide (c = 35)
def isStmtB (c : Nat) : Bool := (decide (14 ≤ c) && decide (c ≤ 23)) || decide (c = 13)
theorem isType_any (c : Nat) (w : World) : Calls Tryz.prog 157 #[.int .u8 c] w fun e w' => e = .returned (.bool (isTypeB c)) ∧ w = w' := by
  have t0 := dle1 (k := 8) (c := c) (m := 8) rfl
  have t1 := dle2 (k := 12) (c := c) (m := 12) rfl
  have Hr : Hid (isTypeB c = (decide (8 ≤ c) && decide (c ≤ 12))) := Lib.hid rfl
  generalize decide (8 ≤ c) = b0 at t0 Hr
  generalize decide (c ≤ 12) = b1 at t1 Hr
  cases b0 <;> cases b1
  all_goals
    go_enter Tryz.func157, Tryz.ntmps157
    go_wp2
    go_ret
    exact ⟨ret_eq (by rw [Hr.out]; rfl), rfl⟩
theorem isExpr_any (c : Nat) (w : World) : Calls Tryz.prog 158 #[.int .u8 c] w fun e w' => e = .returned (.bool (isExprB c)) ∧ w = w' := by
  have t0 := dle1 (k := 24) (c := c) (m := 24) rfl
  have t1 := dle2 (k := 37) (c := c) (m := 37) rfl
  have t2 := dne1 (k := 35) (c := c) (m := 35) rfl
  have Hr : Hid (isExprB c = ((decide (24 ≤ c) && decide (c ≤ 37)) && !decide (c = 35))) := Lib.hid rfl
  generalize decide (24 ≤ c) = b0 at t0 Hr
  generalize decide (c ≤ 37) = b1 at t1 Hr
  generalize decide (c = 35) = b2 at t2 Hr
  cases b0 <;> cases b1 <;> cases b2
  all_goals
    go_enter Tryz.func158, Tryz.ntmps158
    go_wp2
    go_ret
    exact ⟨ret_eq (by rw [Hr.out]; rfl), rfl⟩
theorem isStmt_any (c : Nat) (w : World) : Calls Tryz.prog 154 #[.int .u8 c] w fun e w' => e = .returned (.bool (isStmtB c)) ∧ w = w' := by
  have t0 := dle1 (k := 14) (c := c) (m := 14) rfl
  have t1 := dle2 (k := 23) (c := c) (m := 23) rfl
  have t2 := deq1 (k := 13) (c := c) (m := 13) rfl
  have Hr : Hid (isStmtB c = ((decide (14 ≤ c) && decide (c ≤ 23)) || decide (c = 13))) := Lib.hid rfl
  generalize decide (14 ≤ c) = b0 at t0 Hr
  generalize decide (c ≤ 23) = b1 at t1 Hr
  generalize decide (c = 13) = b2 at t2 Hr
  cases b0 <;> cases b1 <;> cases b2
  all_goals
    go_enter Tryz.func154, Tryz.ntmps154
    go_wp2
    go_ret
    exact ⟨ret_eq (by rw [Hr.out]; rfl), rfl⟩
theorem cisType_any (c : Nat) (w : World) : Calls Tryz.prog 48 #[.int .u8 c] w fun e w' => e = .returned (.bool (isTypeB c)) ∧ w = w' := by
  have t0 := dle1 (k := 8) (c := c) (m := 8) rfl
  have t1 := dle2 (k := 12) (c := c) (m := 12) rfl
  have Hr : Hid (isTypeB c = (decide (8 ≤ c) && decide (c ≤ 12))) := Lib.hid rfl
  generalize decide (8 ≤ c) = b0 at t0 Hr
  generalize decide (c ≤ 12) = b1 at t1 Hr
  cases b0 <;> cases b1
  all_goals
    go_enter Tryz.func48, Tryz.ntmps48
    go_wp2
    go_ret
    exact ⟨ret_eq (by rw [Hr.out]; rfl), rfl⟩
theorem cisExpr_any (c : Nat) (w : World) : Calls Tryz.prog 21 #[.int .u8 c] w fun e w' => e = .returned (.bool (isExprB c)) ∧ w = w' := by
  have t0 := dle1 (k := 24) (c := c) (m := 24) rfl
  have t1 := dle2 (k := 37) (c := c) (m := 37) rfl
  have t2 := dne1 (k := 35) (c := c) (m := 35) rfl
  have Hr : Hid (isExprB c = ((decide (24 ≤ c) && decide (c ≤ 37)) && !decide (c = 35))) := Lib.hid rfl
  generalize decide (24 ≤ c) = b0 at t0 Hr
  generalize decide (c ≤ 37) = b1 at t1 Hr
  generalize decide (c = 35) = b2 at t2 Hr
  cases b0 <;> cases b1 <;> cases b2
  all_goals
    go_enter Tryz.func21, Tryz.ntmps21
    go_wp2
    go_ret
    exact ⟨ret_eq (by rw [Hr.out]; rfl), rfl⟩
theorem cisStmt_any (c : Nat) (w : World) : Calls Tryz.prog 55 #[.int .u8 c] w fun e w' => e = .returned (.bool (isStmtB c)) ∧ w = w' := by
  have t0 := dle1 (k := 14) (c := c) (m := 14) rfl
  have t1 := dle2 (k := 23) (c := c) (m := 23) rfl
  have t2 := deq1 (k := 13) (c := c) (m := 13) rfl
  have Hr : Hid (isStmtB c = ((decide (14 ≤ c) && decide (c ≤ 23)) || decide (c = 13))) := Lib.hid rfl
  generalize decide (14 ≤ c) = b0 at t0 Hr
  generalize decide (c ≤ 23) = b1 at t1 Hr
  generalize decide (c = 13) = b2 at t2 Hr
  cases b0 <;> cases b1 <;> cases b2
  all_goals
    go_enter Tryz.func55, Tryz.ntmps55
    go_wp2
    go_ret
    exact ⟨ret_eq (by rw [Hr.out]; rfl), rfl⟩

/-- A slice of kinds that reads as a list. -/
def KindsAt (w : World) (a : Option Addr) (l : List Nat) : Prop :=
  ∀ k, k < l.length → ∃ b off, a = some ⟨b, off, none⟩ ∧ w.cell? ⟨b, off + k, none⟩ = some (.int .u8 (l.getD k 0 : Nat))
theorem KindsAt.kb {S : Nat → Prop} {w w' : World} {a : Option Addr} {l : List Nat} (h : KindsAt w a l) (hk : KB S w w') (hs : ∀ b off, a = some ⟨b, off, none⟩ → ¬ S b) : KindsAt w' a l := by
  intro k hlt
  obtain ⟨b, off, ha, hc⟩ := h k hlt
  exact ⟨b, off, ha, hk.cell (hs b off ha) hc⟩
theorem KindsAt.kbF {w w' : World} {a : Option Addr} {l : List Nat} (h : KindsAt w a l) (hk : KB (fun _ => False) w w') : KindsAt w' a l := h.kb hk (fun _ _ _ x => x)
theorem getD_mem {l : List Nat} {k : Nat} (h : k < l.length) : l.getD k 0 ∈ l := by
  rw [List.getD_eq_getElem?_getD, List.getElem?_eq_getElem h]; exact List.getElem_mem h
theorem any_take_succ {p : Nat → Bool} {l : List Nat} {k : Nat} (h : k < l.length) : (l.take (k + 1)).any p = ((l.take k).any p || p (l.getD k 0)) := by
  rw [List.take_succ_eq_append_getElem h, List.any_append, List.getD_eq_getElem?_getD, List.getElem?_eq_getElem h]; simp

/-- What slices.Index answers. -/
def idxV (i : Int) : Ending := .returned (.int .i64 i)
set_option maxHeartbeats 1000000 in
theorem indexK_any (a : Option Addr) (l : List Nat) (c x : Nat) (w : World) (hl : l.length ≤ 9223372036854775807) (ha : KindsAt w a l) :
    Calls Tryz.prog 214 #[.slice a l.length c, .int .u8 x] w fun e w' => (∃ i : Int, idxV i = e ∧ Hid (decide (0 ≤ i) = l.any fun y => y == x)) ∧ w = w' := by
  have Ha := Lib.hid ha
  clear ha
  obtain ⟨n, hn⟩ : ∃ n, n = l.length := ⟨_, rfl⟩
  rw [← hn] at hl ⊢
  have Hn := Lib.hid hn
  clear hn
  go_enter Tryz.func214, Tryz.ntmps214
  go_wp2_with fail
  go_loop [8] (fun i => ∃ k : Nat, k ≤ n ∧ i = .int .i64 k ∧ Hid ((l.take k).any (fun y => y == x) = false)) (fun i => n - (intOf i).toNat)
  case atStart => exact ⟨0, by omega, rfl, rfl⟩
  case round =>
    obtain ⟨k, hk, rfl, hj⟩ := hrel
    by_cases hlt : k < n
    · obtain ⟨b, off, rfl, hc⟩ := Ha.out k (by rw [← Hn.out]; exact hlt)
      have hs := Lib.hid (any_take_succ (p := fun y => y == x) (l := l) (k := k) (by rw [← Hn.out]; exact hlt))
      have hmem := Lib.hid (getD_mem (l := l) (k := k) (by rw [← Hn.out]; exact hlt))
      generalize l.getD k 0 = y at hc hs hmem
      by_cases hy : y = x
      · have t0 : ((x : Int) == (y : Int)) = true := by simp [hy]
        have hin : Hid ((l.any fun y => y == x) = true) := Lib.hid (by rw [List.any_eq_true]; exact ⟨y, hmem.out, by simp [hy]⟩)
        clear hy
        go_wp2
        go_ret
        exact ⟨⟨k, rfl, by show decide (0 ≤ (k : Int)) = _; rw [hin.out]; simp⟩, rfl⟩
      · have t0 : ((x : Int) == (y : Int)) = false := by simp; omega
        have hj' : Hid ((l.take (k + 1)).any (fun y => y == x) = false) := Lib.hid (by rw [hs.out, hj.out]; simp [hy])
        clear hy
        go_wp2
        go_round
        case rel => exact ⟨k + 1, by omega, by go_num, hj'⟩
        case measure => simp [intOf]; omega
    · obtain rfl : k = n := by omega
      have hin : Hid ((l.any fun y => y == x) = false) := Lib.hid (by have := hj.out; rwa [List.take_of_length_le (by rw [← Hn.out]; exact Nat.le_refl _)] at this)
      go_wp2
      go_ret
      exact ⟨⟨-1, rfl, by show decide (0 ≤ (-1 : Int)) = _; rw [hin.out]; rfl⟩, rfl⟩
set_option maxHeartbeats 1000000 in
theorem containsK_any (a : Option Addr) (l : List Nat) (c x : Nat) (w : World) (hl : l.length ≤ 9223372036854775807) (ha : KindsAt w a l) :
    Calls Tryz.prog 189 #[.slice a l.length c, .int .u8 x] w fun e w' => e = .returned (.bool (l.any fun y => y == x)) ∧ w = w' := by
  have Hi := Lib.hid (indexK_any a l c x w hl ha)
  obtain ⟨r, hr⟩ : ∃ r, r = l.any fun y => y == x := ⟨_, rfl⟩
  rw [← hr] at Hi ⊢
  obtain ⟨n, hn⟩ : ∃ n, n = l.length := ⟨_, rfl⟩
  rw [← hn] at Hi ⊢
  clear ha hl hn hr
  go_enter Tryz.func189, Tryz.ntmps189
  go_wp2_with fail
  refine Hi.out.mono ?_
  rintro e w' ⟨⟨i, rfl, hi⟩, rfl⟩
  unfold idxV
  have t0 : decide ((0 : Int) ≤ i) = r := hi.out
  go_wp2
  go_ret
  exact ⟨rfl, rfl⟩
end Go.Proofs.YtoophdcagpfmpaaGreatDoor
