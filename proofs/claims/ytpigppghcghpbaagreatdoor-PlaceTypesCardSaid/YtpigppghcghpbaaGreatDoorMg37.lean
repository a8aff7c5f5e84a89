/- place.Text. place.Read, plain, part by part. strconv.Atoi; place.Read. -/
import Derived.Test.YtpigppghcghpbaaGreatDoorMg13
import Derived.Test.YtpigppghcghpbaaGreatDoorPlC
import Derived.Lib.SplitLaws
namespace Go.Proofs.YtpigppghcghpbaaGreatDoor
open Go.RowKit

theorem bytes_app (a b : List UInt8) : (⟨a.toArray⟩ : ByteArray) ++ ⟨b.toArray⟩ = ⟨(a ++ b).toArray⟩ := by
  apply ByteArray.ext
  simp [ByteArray.data_append]
/-- A place's numbers are of 64 bits. -/
def Pl64 (p : Pl) : Prop := In64 p.loc ∧ ∀ k ∈ p.path, In64 k
def txtL (p : Pl) (k : Nat) : List UInt8 := 95 :: (Lib.itoa p.loc ++ dotL ((p.path.take k).map tailT))
def txtB (p : Pl) (k : Nat) : ByteArray := ⟨(txtL p k).toArray⟩
theorem dotL_app (a b : List (List UInt8)) : dotL (a ++ b) = dotL a ++ dotL b := by simp [dotL]
theorem take_intD {xs : List Int} {k : Nat} (h : k < xs.length) : xs.take (k + 1) = xs.take k ++ [xs.getD k 0] := by
  rw [List.take_add_one, List.getElem?_eq_getElem h]
  simp [List.getD_eq_getElem?_getD, List.getElem?_eq_getElem h]
theorem txtB_succ {p : Pl} {k : Nat} (h : k < p.path.length) : txtB p (k + 1) = txtB p k ++ ⟨(46 :: tailT (p.path.getD k 0)).toArray⟩ := by
  unfold txtB
  rw [bytes_app]
  unfold txtL
  rw [take_intD h, List.map_append, dotL_app]
  simp [dotL]
theorem tailT_size {k : Int} (h : In64 k) : (tailT k).length ≤ 21 := by
  unfold tailT
  split
  · simp
  · exact Lib.itoa_length_le k h.1 h.2
theorem txtB_size {p : Pl} (h : Pl64 p) : ∀ k, k ≤ p.path.length → (txtB p k).size ≤ 22 + 22 * k := by
  intro k
  induction k with
  | zero =>
    intro _
    have h1 : (txtL p 0).length ≤ 22 := by
      have := Lib.itoa_length_le p.loc h.1.1 h.1.2
      simp [txtL, dotL]; omega
    have h2 : (txtB p 0).size = (txtL p 0).length := by simp [txtB, ByteArray.size]
    omega
  | succ k ih =>
    intro hk
    have := ih (by omega)
    have hl : k < p.path.length := by omega
    rw [txtB_succ hl, ByteArray.size_append]
    have h3 : (⟨(46 :: tailT (p.path.getD k 0)).toArray⟩ : ByteArray).size = (tailT (p.path.getD k 0)).length + 1 := by simp [ByteArray.size]
    have := tailT_size (h.2 (p.path.getD k 0) (by rw [List.getD_eq_getElem?_getD, List.getElem?_eq_getElem hl]; exact List.getElem_mem hl))
    omega
theorem badP_neg {p : Pl} (h : p.loc < 0) : badP p = true := by unfold badP; rw [decide_eq_true h]; rfl
theorem badP_at {p : Pl} {k : Nat} (hk : k < p.path.length) (h : p.path.getD k 0 < -1) : badP p = true := by
  unfold badP
  rw [Bool.or_eq_true, List.any_eq_true]
  refine Or.inr ⟨p.path.getD k 0, ?_, decide_eq_true h⟩
  rw [List.getD_eq_getElem?_getD, List.getElem?_eq_getElem hk]
  exact List.getElem_mem hk
theorem badP_no {p : Pl} (h0 : ¬ p.loc < 0) (h : ∀ k, k < p.path.length → ¬ p.path.getD k 0 < -1) : badP p = false := by
  unfold badP
  rw [decide_eq_false h0, Bool.false_or, List.any_eq_false]
  intro k hk
  obtain ⟨i, hi, rfl⟩ := List.getElem_of_mem hk
  have := h i hi
  rw [List.getD_eq_getElem?_getD, List.getElem?_eq_getElem hi] at this
  simpa using this
theorem txtB_all {p : Pl} (h : badP p = false) : txtB p p.path.length = ⟨(textP p).toArray⟩ := by
  unfold txtB txtL textP
  rw [if_neg (by rw [h]; decide), List.take_length]

set_option maxRecDepth 100000 in
set_option maxHeartbeats 8000000 in
theorem text_any (p : Pl) (h64 : Pl64 p) (a : Option Addr) (c : Nat) (w : World) (hT : TabP w) (h : PlAt w p a c) :
    Calls Tryz.prog 22 #[plV p a c] w fun e w' => e = .returned (.string ⟨(textP p).toArray⟩) ∧ KB F0 w w' := by
  obtain ⟨w0, rfl⟩ : ∃ w0, w0 = w := ⟨_, rfl⟩
  have hsm := h.small
  obtain ⟨N, hN⟩ : ∃ N, N = p.path.length := ⟨_, rfl⟩
  obtain ⟨T, hT'⟩ : ∃ T, T = txtB p := ⟨_, rfl⟩
  obtain ⟨R, hR⟩ : ∃ R : ByteArray, R = ⟨(textP p).toArray⟩ := ⟨_, rfl⟩
  obtain ⟨x, hx⟩ : ∃ x, x = p.loc := ⟨_, rfl⟩
  rw [← hR]
  have HNeg : Hid (x < 0 → R = ⟨#[]⟩) := Lib.hid (fun h => by rw [hR, textP, if_pos (badP_neg (by rw [← hx]; exact h))])
  have HBad : Hid (∀ k, k < N → p.path.getD k 0 < -1 → R = ⟨#[]⟩) := Lib.hid (fun k hk h => by rw [hR, textP, if_pos (badP_at (by rw [← hN]; exact hk) h)])
  have HAll : Hid (0 ≤ x → (∀ k, k < N → -1 ≤ p.path.getD k 0) → R = T N) := Lib.hid (fun h0 h => by rw [hR, hT', hN, txtB_all (badP_no (by rw [← hx]; omega) (fun k hk => by have := h k (by rw [hN]; exact hk); omega))])
  have HSz : Hid (∀ k, k ≤ N → (T k).size ≤ 22 + 22 * k) := Lib.hid (fun k hk => by rw [hT']; exact txtB_size h64 k (by rw [← hN]; exact hk))
  have HSucc : Hid (∀ k, k < N → T (k + 1) = T k ++ ⟨(46 :: tailT (p.path.getD k 0)).toArray⟩) := Lib.hid (fun k hk => by rw [hT']; exact txtB_succ (by rw [← hN]; exact hk))
  have H64 : Hid (∀ k, k < N → In64 (p.path.getD k 0)) := Lib.hid (fun k hk => h64.2 _ (by rw [List.getD_eq_getElem?_getD, List.getElem?_eq_getElem (show k < p.path.length by rw [← hN]; exact hk)]; exact List.getElem_mem _))
  have H0 : Hid (T 0 = ⟨(95 :: Lib.itoa x).toArray⟩) := Lib.hid (by rw [hT', hx]; simp [txtB, txtL, dotL])
  have HX := Lib.hid (show In64 x by rw [hx]; exact h64.1)
  have HI : Hid (∀ k, k < N → ∃ b off, a = some ⟨b, off, none⟩ ∧ w0.cell? ⟨b, off + k, none⟩ = some (.int .i64 (p.path.getD k 0))) := Lib.hid (fun k hk => h.ints k (by rw [← hN]; exact hk))
  have HT := Lib.hid hT
  unfold plV
  rw [← hx, ← hN]
  rw [← hN] at hsm
  generalize p.path.getD = P at HBad HAll HSucc H64 HI
  clear hN hT' hR hx h h64 hT
  obtain ⟨W1, hW1⟩ : ∃ W1, W1 = w0.alloc (.cells #[.int .i64 x, .slice a N c] 26) := ⟨_, rfl⟩
  have hb1 : W1.heap[w0.heap.size]? = some (.cells #[.int .i64 x, .slice a N c] 26 (0, 0)) := by rw [hW1]; exact alloc_new _ _
  have hk1 : KB F0 w0 W1 := by rw [hW1]; exact (KB.refl _ _).alloc _
  have x0 : W1.cell? ⟨w0.heap.size, 0, none⟩ = some (.int .i64 x) := blk_cell hb1 0
  have x1 : W1.cell? ⟨w0.heap.size, 1, none⟩ = some (.slice a N c) := blk_cell hb1 1
  have hs1 : W1.heap.size = w0.heap.size + 1 := by rw [hW1]; simp
  have HB := Lib.hid (And.intro hk1 (And.intro hb1 hs1))
  have HW := Lib.hid hW1
  rw [hW1] at x0 x1
  clear hW1 hb1 hk1 hs1
  by_cases hneg : x < 0
  · have d1 : decide (x < 0) = true := decide_eq_true hneg
    have HE := Lib.hid (HNeg.out hneg)
    clear hneg
    go_enter Tryz.func22, Tryz.ntmps22
    go_wp2_with fail
    go_ret
    exact ⟨ret_eq (by rw [HE.out]; rfl), by rw [← HW.out]; exact HB.out.1⟩
  have d1 : decide (x < 0) = false := decide_eq_false hneg
  have HNN := Lib.hid (show 0 ≤ x by omega)
  have hbu := bu_new W1 (Nat.le_refl _)
  have IT := Lib.hid (fun (W : World) (hk : KB F0 w0 W) => itoa_any x HX.out W (HT.out.kb hk))
  have hcat : (⟨#[95]⟩ : ByteArray) ++ ⟨(Lib.itoa x).toArray⟩ = T 0 := by rw [H0.out]; exact bytes_app [95] _
  have hsI : (⟨(Lib.itoa x).toArray⟩ : ByteArray).size ≤ 21 := Lib.itoa_length_le x HX.out.1 HX.out.2
  generalize (⟨(Lib.itoa x).toArray⟩ : ByteArray) = I at IT hcat hsI
  have z1 : ¬ (9223372036854775807 < 1 + I.size) := by omega
  clear hneg H0 hsI
  go_enter Tryz.func22, Tryz.ntmps22
  go_wp2_with fail
  rw [← HW.out]
  have k2 := (KB.refl F0 W1).alloc (.cells #[.pointer none, .slice none 0 0] 82)
  refine (IT.out _ (HB.out.1.trans k2)).mono ?_
  rintro e w2 ⟨rfl, k3⟩
  have hbu2 := hbu.kb k3
  have H2 := Lib.hid (k2.trans k3)
  have hsz0 := HSz.out 0 (Nat.zero_le _)
  have WS := ws_any W1.heap.size W1.heap.size ByteArray.empty (T 0) w2 hbu2 (by rw [show ByteArray.empty.size = 0 from rfl]; omega) H2.out.size
  rw [ByteArray.empty_append] at WS
  have HS := Lib.hid WS
  have hs1 := HB.out.2.2
  rw [hs1] at HS
  have Hs1 := Lib.hid hs1
  clear hbu k2 hbu2 hsz0 WS k3 x0 hs1 IT x1
  go_wp2_with fail
  refine HS.out.mono ?_
  rintro e w3 ⟨rfl, hbu3, hbl, -⟩
  rw [← Hs1.out] at hbu3 hbl
  have H3 := Lib.hid (And.intro hbu3 (kb_below H2.out hbl))
  have hb := H3.out.2.heap (fun x => x) HB.out.2.1
  have x1 : w3.cell? ⟨w0.heap.size, 1, none⟩ = some (.slice a N c) := blk_cell hb 1
  clear hbu3 hbl HS hb hcat z1
  go_wp2_with fail
  clear x1
  go_loopw [17] (fun kv wr => ∃ k : Nat, k ≤ N ∧ kv = .int .i64 (k : Nat) ∧ Hid (BU wr W1.heap.size W1.heap.size (T k) ∧ KB F0 W1 wr ∧ ∀ i, i < k → -1 ≤ P i 0)) (fun kv _ => N - (intOf kv).toNat)
  case atStart => exact ⟨0, by omega, rfl, Lib.hid ⟨H3.out.1, H3.out.2, fun i hi => by omega⟩⟩
  case round =>
    obtain ⟨k, hk, rfl, hst⟩ := hrel
    by_cases hlt : k < N
    · have d2 : decide ((k : Int) < (N : Int)) = true := decide_eq_true (by omega)
      have hkN : (k : Int) < (N : Int) := by omega
      obtain ⟨bb, off, rfl, hc0⟩ := HI.out k hlt
      have hc := (HB.out.1.trans hst.out.2.1).cell (p := ⟨bb, off + k, none⟩) (fun x => x) hc0
      have hB1 := HBad.out k hlt
      have hS1 := HSucc.out k hlt
      have h6 := H64.out k hlt
      have hz := HSz.out k hk
      have hz1 := HSz.out (k + 1) hlt
      have hNx : -1 ≤ P k 0 → ∀ i, i < k + 1 → -1 ≤ P i 0 := fun h i hi => by
        rcases Nat.lt_or_eq_of_le (Nat.lt_succ_iff.1 hi) with h' | rfl
        · exact hst.out.2.2 i h'
        · exact h
      generalize P k 0 = y at hc hB1 hS1 h6 hNx
      have Hz := Lib.hid (And.intro hz hz1)
      have HN1 := Lib.hid hNx
      clear hc0 hz hz1 hNx
      by_cases hy1 : y < -1
      · have HE := Lib.hid (hB1 hy1)
        have d3 : decide (y < -1) = true := decide_eq_true hy1
        clear hy1 hB1 hS1 h6
        go_wp2_with fail
        go_ret
        exact ⟨ret_eq (by rw [HE.out]; rfl), HB.out.1.trans hst.out.2.1⟩
      have d3 : decide (y < -1) = false := decide_eq_false hy1
      have HN2 := Lib.hid (HN1.out (by omega))
      by_cases hy2 : y = -1
      · subst hy2
        have hT1 : T (k + 1) = T k ++ ⟨#[46, 42]⟩ := hS1
        have WS := ws_any W1.heap.size W1.heap.size (T k) ⟨#[46, 42]⟩ wr hst.out.1 (by have := Hz.out; rw [show (⟨#[46, 42]⟩ : ByteArray).size = 2 from rfl]; omega) hst.out.2.1.size
        rw [← hT1, Hs1.out] at WS
        have HS := Lib.hid WS
        clear hy1 hB1 hS1 h6 hT1 WS d3
        go_wp2_with fail
        refine HS.out.mono ?_
        rintro e w4 ⟨rfl, hbu4, hbl, -⟩
        rw [← Hs1.out] at hbu4 hbl
        have H4 := Lib.hid (And.intro hbu4 (And.intro (kb_below hst.out.2.1 hbl) HN2.out))
        clear hbu4 hbl HS hc
        go_wp2_with fail
        refine ⟨⟨k + 1, by omega, by go_num, H4⟩, by simp [intOf]; omega⟩
      · have d4 : (y == -1) = false := by simp; omega
        have hT1 : T (k + 1) = T k ++ (⟨#[46]⟩ ++ ⟨(Lib.itoa y).toArray⟩) := by rw [hS1, tailT, if_neg hy2, bytes_app [46]]; rfl
        have hsI : (⟨(Lib.itoa y).toArray⟩ : ByteArray).size ≤ 21 := Lib.itoa_length_le y h6.1 h6.2
        have IT := Lib.hid (itoa_any y h6 wr (HT.out.kb (HB.out.1.trans hst.out.2.1)))
        generalize (⟨(Lib.itoa y).toArray⟩ : ByteArray) = J at hT1 hsI IT
        obtain ⟨V, hV⟩ : ∃ V, V = (⟨#[46]⟩ : ByteArray) ++ J := ⟨_, rfl⟩
        have hVs : V.size ≤ 22 := by rw [hV, ByteArray.size_append]; have : (⟨#[46]⟩ : ByteArray).size = 1 := rfl; omega
        rw [← hV] at hT1
        have hcat := hV.symm
        have z1 : ¬ (9223372036854775807 < 1 + J.size) := by omega
        have WS := Lib.hid (fun (W : World) (hk : KB F0 wr W) => ws_any W1.heap.size W1.heap.size (T k) V W (hst.out.1.kb hk) (by have := Hz.out; omega) (hst.out.2.1.trans hk).size)
        rw [← hT1, Hs1.out] at WS
        clear hV hVs hsI hT1 hy1 hy2 hB1 hS1 h6
        go_wp2_with fail
        refine IT.out.mono ?_
        rintro e w4 ⟨rfl, k4⟩
        have H4 := Lib.hid (hst.out.2.1.trans k4)
        have WS4 := Lib.hid (WS.out _ k4)
        clear k4 hc d3 d4
        go_wp2_with fail
        refine WS4.out.mono ?_
        rintro e w5 ⟨rfl, hbu4, hbl, -⟩
        rw [← Hs1.out] at hbu4 hbl
        have H5 := Lib.hid (And.intro hbu4 (And.intro (kb_below H4.out hbl) HN2.out))
        clear hbu4 hbl hcat z1
        go_wp2_with fail
        refine ⟨⟨k + 1, by omega, by go_num, H5⟩, by simp [intOf]; omega⟩
    · obtain rfl : k = N := by omega
      have d2 : decide ((k : Int) < (k : Int)) = false := decide_eq_false (by omega)
      have HE : Hid (R = T k) := Lib.hid (HAll.out HNN.out hst.out.2.2)
      have ST := str_any W1.heap.size W1.heap.size (T k) wr hst.out.1 hst.out.2.1.size
      rw [Hs1.out] at ST
      have HS := Lib.hid ST
      clear ST
      go_wp2_with fail
      refine HS.out.mono ?_
      rintro e w4 ⟨rfl, hbl⟩
      rw [← Hs1.out] at hbl
      have H4 := Lib.hid (kb_below hst.out.2.1 hbl)
      clear hbl
      go_wp2_with fail
      go_ret
      exact ⟨ret_eq (by rw [HE.out]; rfl), HB.out.1.trans H4.out⟩
end Go.Proofs.YtpigppghcghpbaaGreatDoor

namespace Go.Proofs.YtpigppghcghpbaaGreatDoor

def rdK (pl : List (List UInt8)) : Nat → Option Pl
  | 0 => some ⟨0, []⟩
  | k + 1 => (rdK pl k).bind fun p => if k = 0 then (numL (pl.getD 0 [])).map fun (v : Nat) => (⟨(v : Int), []⟩ : Pl) else (stepL (pl.getD k [])).map fun x => ⟨p.loc, p.path ++ [x]⟩
theorem rdK_none {pl : List (List UInt8)} {k : Nat} (h : rdK pl k = none) : ∀ m, k ≤ m → rdK pl m = none := by
  intro m
  induction m with
  | zero => intro hm; obtain rfl : k = 0 := by omega
            exact h
  | succ m ih =>
    intro hm
    by_cases hk : k = m + 1
    · rw [← hk]; exact h
    · rw [rdK, ih (by omega)]; rfl
theorem stepsL_snoc : ∀ (ps : List (List UInt8)) (p : List UInt8), stepsL (ps ++ [p]) = (stepsL ps).bind fun ks => (stepL p).map fun k => ks ++ [k] := by
  intro ps p
  induction ps with
  | nil => cases h : stepL p <;> simp [stepsL, h]
  | cons q ps ih =>
    rw [List.cons_append, stepsL, stepsL, ih]
    cases stepL q <;> cases stepsL ps <;> cases stepL p <;> rfl
theorem rdK_steps (a : List UInt8) (ps : List (List UInt8)) : ∀ j, j ≤ ps.length → rdK (a :: ps) (j + 1) = (numL a).bind fun v => (stepsL (ps.take j)).map fun ks => ⟨(v : Int), ks⟩ := by
  intro j
  induction j with
  | zero => intro _; rw [rdK, rdK]; cases h : numL a <;> simp [h, stepsL]
  | succ j ih =>
    intro hj
    rw [rdK, ih (by omega)]
    simp only [show (j + 1 = 0) = False from by simp, if_false]
    have e : ps.take (j + 1) = ps.take j ++ [(a :: ps).getD (j + 1) []] := by
      rw [List.take_add_one, List.getElem?_eq_getElem (by omega)]
      simp [List.getD_eq_getElem?_getD, List.getElem?_eq_getElem (show j < ps.length by omega)]
    rw [e, stepsL_snoc]
    cases numL a <;> cases stepsL (ps.take j) <;> cases stepL ((a :: ps).getD (j + 1) []) <;> rfl
theorem rdL_rdK (r : List UInt8) : rdL (95 :: r) = if 9 < (splL r).length then none else rdK (splL r) (splL r).length := by
  rw [rdL]
  obtain ⟨a, ps, h, -⟩ := splL_parts r
  rw [h]
  simp only [List.length_cons]
  rw [rdK_steps a ps ps.length (Nat.le_refl _), List.take_length]
  by_cases h8 : 8 < ps.length
  · rw [if_pos h8, if_pos (by omega)]
  · rw [if_neg h8, if_neg (by omega)]
theorem rdL_no {l : List UInt8} (h : ∀ r, l ≠ 95 :: r) : rdL l = none := by
  unfold rdL
  split
  · rename_i r; exact absurd rfl (h r)
  · rfl
def rdP (o : Option Pl) : Pl := o.getD ⟨0, []⟩
def rdE (o : Option Pl) : Int := if o.isSome then 0 else 90
end Go.Proofs.YtpigppghcghpbaaGreatDoor

namespace Go.Proofs.YtpigppghcghpbaaGreatDoor
open Go.RowKit

theorem kb_bytes {w w' : World} (h : w' = w ∨ ∃ t, w' = Lib.bytesWorld w 5 t) : KB F0 w w' := by
  rcases h with rfl | ⟨t, rfl⟩
  · exact KB.refl _ _
  · exact ⟨rfl, rfl, rfl, by rw [Lib.bytesWorld_size]; omega, fun k hk _ => Lib.bytesWorld_at_old w _ t k hk⟩
/-- What Atoi answers: a number and no error, or an error. -/
def AtoiOut (l : List UInt8) (w' : World) (e : Ending) : Prop :=
  (∃ v, Lib.atoiAll l = .ok v ∧ e = .returned (.tuple #[.int .i64 v, .nilIface])) ∨ ((∀ v, Lib.atoiAll l ≠ .ok v) ∧ ∃ n N, e = .returned (.tuple #[.int .i64 n, .iface 131 (.pointer (some ⟨N, 0, none⟩))]))
theorem atoi_any (s : ByteArray) (hs : s.size ≤ 1000000000) (w : World) (hT : TabP w) : Calls Tryz.prog 52 #[.string s] w fun e w' => AtoiOut s.data.toList w' e ∧ KB F0 w w' := by
  rcases ha : Lib.atoiAll s.data.toList with v | _ | _
  · refine (Tryz.strconv_Atoi_ok s (by omega) v ha w).mono ?_
    rintro e w' ⟨rfl, hk⟩
    exact ⟨Or.inl ⟨v, ha, rfl⟩, kb_bytes hk⟩
  · obtain ⟨tp, p, hv⟩ := hT.syn
    refine (Any.strconv_Atoi_syntax_var Tryz.laysC172 s (by omega) ha tp p w hv).mono ?_
    rintro e w' ⟨N, rfl, -, -, hk⟩
    exact ⟨Or.inr ⟨fun v h => (by rw [ha] at h; cases h), _, N, rfl⟩, KB.of_below hk⟩
  · obtain ⟨tp, p, hv⟩ := hT.rng
    refine (Tryz.strconv_Atoi_range_var s (by omega) ha tp p w hv).mono ?_
    rintro e w' ⟨N, rfl, -, -, hk⟩
    exact ⟨Or.inr ⟨fun v h => (by rw [ha] at h; cases h), _, N, rfl⟩, KB.of_below hk⟩
theorem err_ne (N : Nat) (w : World) : (binOp BinOp.neq 84 (.iface 131 (.pointer (some ⟨N, 0, none⟩))) .nilIface).run Tryz.prog w = .ok (.bool true) w := by kernel_rfl
theorem err_eq (w : World) : (binOp BinOp.neq 84 .nilIface .nilIface).run Tryz.prog w = .ok (.bool false) w := by kernel_rfl
/-- Parts lie in a block. -/
def PartsAt (w : World) (g : Nat) (ps : List ByteArray) : Prop := w.heap[g]? = some (.cells (ps.map Value.string).toArray 9 (0, 0))
theorem PartsAt.kb {w w' : World} {g : Nat} {ps : List ByteArray} (h : PartsAt w g ps) (hk : KB F0 w w') : PartsAt w' g ps := hk.heap (fun x => x) h
theorem PartsAt.cell {w : World} {g : Nat} {ps : List ByteArray} (h : PartsAt w g ps) {k : Nat} (hk : k < ps.length) : w.cell? ⟨g, 0 + k, none⟩ = some (.string (ps.getD k ByteArray.empty)) := by
  rw [Nat.zero_add, blk_cell h k]
  simp [List.getD_eq_getElem?_getD, List.getElem?_eq_getElem hk]
theorem split_any (s : ByteArray) (hs : s.size ≤ 1000000000) (w : World) (hT : TabP w) :
    Calls Tryz.prog 51 #[.string s, .string dotB] w fun e w' => ∃ g ps, e = .returned (.slice (some ⟨g, 0, none⟩) ps.length ps.length) ∧ ps.map (·.data.toList) = splL s.data.toList ∧ PartsAt w' g ps ∧ KB F0 w w' := by
  obtain ⟨m, hm⟩ := hT.len
  refine (Tryz.strings_Split s dotB m w (by omega) hm (by decide)).mono ?_
  rintro e w' ⟨rfl, rfl⟩
  refine ⟨w.heap.size, Lib.splitB dotB 0 (Lib.countB s dotB) s, ?_, split_dot s, alloc_new _ _, (KB.refl _ _).alloc _⟩
  rw [Lib.splitB_all dotB (by decide) 0 _ s rfl]
/-- One part's number: what Atoi and Itoa say. -/
theorem num_ok {l : List UInt8} {v : Int} (h : Lib.atoiAll l = .ok v) : numL l = if 0 ≤ v ∧ Lib.itoa v = l then some v.toNat else none := by unfold numL; rw [h]
theorem num_no {l : List UInt8} (h : ∀ v, Lib.atoiAll l ≠ .ok v) : numL l = none := by
  unfold numL
  rcases ha : Lib.atoiAll l with v | _ | _
  · exact absurd ha (h v)
  · rfl
  · rfl
end Go.Proofs.YtpigppghcghpbaaGreatDoor
