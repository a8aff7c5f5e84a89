/- print: a block's lines. -/
import Derived.Test.YtoophdcagpfmpaaGreatDoorMg17
namespace Go.Proofs.YtoophdcagpfmpaaGreatDoor
open Go.RowKit

/-- A function that begins a page's next line, or goes on with the last one. -/
def Begins (g X : Nat) (sv v : Value) (o : List ByteArray) (Pre : ByteArray) (inn : Nat) (w : World) : Prop :=
  ∀ s : ByteArray, s.size ≤ 1000000000 → ∀ W, KB F0 w W → Calls Tryz.prog g #[.pointer (some ⟨X, 0, none⟩), .string s] W (PgEnd W X sv v (o ++ [Pre ++ s]) inn)
def Enters (g : Nat) : Prop := ∀ args W, (callFunc g args).run Tryz.prog W = .ok (.enter g args) W
theorem PgTo.base {wb w w' : World} {X : Nat} {sv v v' : Value} {out : List ByteArray} {inn : Int} (h : PgTo w w' X v v') (hp : Pg w X sv v out inn) (hk : KB F0 wb w) (hX : wb.heap.size ≤ X) : KB F0 wb w' :=
  hk.above h.kb (fun i e => by
    rcases e with e | e
    · omega
    · have := (hp.ne i e).1; omega)
def BlockAt (ts : List Nd) (a : Option Addr) (cap : Nat) (wb : World) (X n : Nat) : Prop :=
  ∀ (w : World) (v : Value) (o out : List ByteArray) (inn : Nat) (Pre head : ByteArray) (g : Nat), (ts.getD n nd0).k = 13 → Pg w X (.slice a ts.length cap) v out inn → KB F0 wb w → inn ≤ n → o.length + 2 * wt1 ts n ≤ 1000000 → head.size ≤ 100000000 →
    Begins g X (.slice a ts.length cap) v o Pre inn w → Enters g →
    Calls Tryz.prog 101 #[.pointer (some ⟨X, 0, none⟩), .string head, .int .i64 n, .func (.func g) #[.pointer (some ⟨X, 0, none⟩)] #[]] w (PgEnd w X (.slice a ts.length cap) v (o ++ St5 ts n inn (Pre ++ head)) inn)
def ChoiceAt (ts : List Nd) (a : Option Addr) (cap : Nat) (wb : World) (X n : Nat) : Prop :=
  ∀ (w : World) (v : Value) (o out : List ByteArray) (inn : Nat) (Pre : ByteArray) (g : Nat), (ts.getD n nd0).k = 16 → Pg w X (.slice a ts.length cap) v out inn → KB F0 wb w → inn ≤ n → o.length + 2 * wt1 ts n ≤ 1000000 →
    Begins g X (.slice a ts.length cap) v o Pre inn w → Enters g →
    Calls Tryz.prog 100 #[.pointer (some ⟨X, 0, none⟩), .int .i64 n, .func (.func g) #[.pointer (some ⟨X, 0, none⟩)] #[]] w (PgEnd w X (.slice a ts.length cap) v (o ++ St5 ts n inn Pre) inn)
def StmtAt (ts : List Nd) (a : Option Addr) (cap : Nat) (wb : World) (X n : Nat) : Prop :=
  ∀ (w : World) (v : Value) (out : List ByteArray) (inn : Nat), isStmtB (ts.getD n nd0).k = true ∨ (ts.getD n nd0).k = 2 ∨ (ts.getD n nd0).k = 4 → Pg w X (.slice a ts.length cap) v out inn → KB F0 wb w → inn ≤ n → out.length + 2 * wt1 ts n ≤ 1000000 →
    Calls Tryz.prog 68 #[.pointer (some ⟨X, 0, none⟩), .int .i64 n] w (PgEnd w X (.slice a ts.length cap) v (out ++ St5 ts n inn (blB inn)) inn)
theorem catK_len {g : Nat → List ByteArray} {w : Nat → Nat} {k : Nat} (h : ∀ i, i < k → (g i).length ≤ 2 * w i) : (catK g k).length ≤ 2 * sumK w k := by
  induction k with
  | zero => exact Nat.zero_le _
  | succ k ih =>
    have h1 := ih (fun i hi => h i (by omega))
    have h2 := h k (by omega)
    show (catK g k ++ g k).length ≤ 2 * (sumK w k + w k)
    rw [List.length_append]; omega
/-- At most two lines a node. -/
theorem st_len {ts : List Nd} (h : TOk ts) (d : Nat) : ∀ n inn P, n < ts.length → ts.length ≤ n + d → (St5 ts n inn P).length ≤ 2 * wt1 ts n := by
  induction d with
  | zero => intro n inn P h1 h2; omega
  | succ d ih =>
    intro n inn P hn h2
    have hp := wt1_pos h.good hn
    rw [St_eq h.down hn]
    have hch : ∀ i inn P, (if i < (ts.getD n nd0).l.length then St5 ts (kid (ts.getD n nd0) i) inn P else []).length ≤ 2 * wK ts (ts.getD n nd0) i := by
      intro i inn P
      unfold wK
      by_cases hi : i < (ts.getD n nd0).l.length
      · have hk := h.kid hn hi
        rw [if_pos hi, if_pos hi]
        exact ih _ _ _ hk.2.1 (by omega)
      · rw [if_neg hi, if_neg hi]; exact Nat.le_refl _
    have w3 := wK_sum h.good hn 3
    have hone : ∀ i, wK ts (ts.getD n nd0) i + 1 ≤ wt1 ts n := fun i => by
      have h1 := wK_sum h.good hn (i + 1)
      have : sumK (wK ts (ts.getD n nd0)) (i + 1) = sumK (wK ts (ts.getD n nd0)) i + wK ts (ts.getD n nd0) i := rfl
      omega
    simp only [sumK] at w3
    unfold stN
    simp only
    split
    · simp; omega
    · have := hch ((ts.getD n nd0).l.length - 1) inn (P ++ fnHead ts (ts.getD n nd0))
      have := hone ((ts.getD n nd0).l.length - 1)
      omega
    · have hc := catK_len (g := fun i => if i < (ts.getD n nd0).l.length then St5 ts (kid (ts.getD n nd0) i) (inn + 1) (blB (inn + 1)) else []) (w := wK ts (ts.getD n nd0)) (k := (ts.getD n nd0).l.length) (fun i _ => hch i _ _)
      have wl := wK_sum h.good hn (ts.getD n nd0).l.length
      rw [List.length_append, List.length_append]
      simp only [List.length_singleton]
      omega
    · simp; omega
    · simp; omega
    · have h1 := hch 1 inn (P ++ (⟨#[105, 102, 32]⟩ ++ exK ts (ts.getD n nd0) 0 ++ ⟨#[32]⟩))
      have h2 := hch 2 inn (blB inn ++ ⟨#[125, 32, 101, 108, 115, 101, 32]⟩)
      split
      · omega
      · rw [List.length_append, List.length_dropLast]; omega
    · have h1 := hch 1 inn (P ++ (⟨#[119, 104, 105, 108, 101, 32]⟩ ++ exK ts (ts.getD n nd0) 0 ++ ⟨#[32]⟩))
      omega
    · have h1 := hch 0 inn (P ++ ⟨#[108, 111, 111, 112, 32]⟩)
      omega
    all_goals (simp; try omega)
theorem St_len {ts : List Nd} (h : TOk ts) {n : Nat} (hn : n < ts.length) (inn : Nat) (P : ByteArray) : (St5 ts n inn P).length ≤ 2 * wt1 ts n := st_len h ts.length n inn P hn (by omega)
theorem St_block {ts : List Nd} (h : TOk ts) {n : Nat} (hn : n < ts.length) (hk : (ts.getD n nd0).k = 13) (inn : Nat) (P : ByteArray) : St5 ts n inn P =
    [P ++ ⟨#[123]⟩] ++ catK (fun i => if i < (ts.getD n nd0).l.length then St5 ts (kid (ts.getD n nd0) i) (inn + 1) (blB (inn + 1)) else []) (ts.getD n nd0).l.length ++ [blB inn ++ ⟨#[125]⟩] := by
  rw [St_eq h.down hn, stN, hk]; rfl
theorem Pg.setIn {w : World} {X : Nat} {sv v : Value} {out : List ByteArray} {inn : Int} (h : Pg w X sv v out inn) (m : Int) : Pg (w.setCell ⟨X, 2, none⟩ (.int .i64 m)) X sv v out m ∧ PgTo w (w.setCell ⟨X, 2, none⟩ (.int .i64 m)) X v v :=
  ⟨⟨setCell_blk (i := 2) h.blk _, own_kb h.own (kb_set w X 2 _) (fun g e => by have := (h.ne g e).1; omega)⟩, ⟨(kb_set w X 2 _).mono (fun _ _ e => Or.inl e), fun _ e => Or.inl e⟩⟩
set_option maxRecDepth 100000 in
set_option maxHeartbeats 8000000 in
theorem block_step (ts : List Nd) (h : TOk ts) (a : Option Addr) (cap : Nat) (wb : World) (X n : Nat) (hX : wb.heap.size ≤ X) (hts : NodesAt wb a ts) (hi : n < ts.length)
    (ih : ∀ q, n < q → q < ts.length → StmtAt ts a cap wb X q) : BlockAt ts a cap wb X n := by
  intro w v o out inn Pre head g hk13 hp hb hin hol hhd hbg hen
  obtain ⟨w0, rfl⟩ : ∃ w0, w0 = w := ⟨_, rfl⟩
  have hlen := h.len
  have hsb := St_block h hi hk13 inn (Pre ++ head)
  have hwt := wK_sum h.good hi
  have hkids : ∀ i, i < (ts.getD n nd0).l.length → ∃ q : Nat, (ts.getD n nd0).l.getD i 0 = (q : Int) ∧ n < q ∧ wK ts (ts.getD n nd0) i = wt1 ts q ∧ (St5 ts q (inn + 1) (blB (inn + 1))).length ≤ 2 * wt1 ts q ∧
      (fun i => if i < (ts.getD n nd0).l.length then St5 ts (kid (ts.getD n nd0) i) (inn + 1) (blB (inn + 1)) else []) i = St5 ts q (inn + 1) (blB (inn + 1)) ∧
      (isStmtB (ts.getD q nd0).k = true) ∧ StmtAt ts a cap wb X q := fun i hi2 => by
    have e2 := h.kid hi hi2
    exact ⟨_, e2.2.2, e2.1, wK_at hi2, St_len h e2.2.1 _ _, if_pos hi2, h.block hi hk13 i hi2, ih _ e2.1 e2.2.1⟩
  rw [hsb]
  obtain ⟨b, off, rfl, hx⟩ := hts n hi
  generalize (fun i => if i < (ts.getD n nd0).l.length then St5 ts (kid (ts.getD n nd0) i) (inn + 1) (blB (inn + 1)) else []) = G at hkids ⊢
  generalize hWK : wK ts (ts.getD n nd0) = WK at hkids hwt
  generalize ts.getD n nd0 = x at hx hkids hk13 ⊢
  obtain ⟨la, lc, hl4, hints, hlc, hlm⟩ := hx.l
  unfold maxLen at hlm
  generalize x.l = l at hl4 hints hlc hkids ⊢
  obtain ⟨N, hN⟩ : ∃ N, N = ts.length := ⟨_, rfl⟩
  rw [← hN] at hi hlen hp hbg
  rw [← hN]
  have hSt : ∀ q, StmtAt ts (some ⟨b, off, none⟩) cap wb X q → ∀ (w : World) (v : Value) (out : List ByteArray), isStmtB (ts.getD q nd0).k = true → Pg w X (.slice (some ⟨b, off, none⟩) N cap) v out ((inn : Int) + 1) → KB F0 wb w → inn + 1 ≤ q → out.length + 2 * wt1 ts q ≤ 1000000 →
      Calls Tryz.prog 68 #[.pointer (some ⟨X, 0, none⟩), .int .i64 q] w (PgEnd w X (.slice (some ⟨b, off, none⟩) N cap) v (out ++ St5 ts q (inn + 1) (blB (inn + 1))) ((inn : Int) + 1)) := fun q hq w v out h1 h2 h3 h4 h5 => by
    rw [hN] at h2 ⊢
    exact hq w v out (inn + 1) (Or.inl h1) (by rw [show ((inn + 1 : Nat) : Int) = (inn : Int) + 1 by omega]; exact h2) h3 h4 h5
  obtain ⟨M, hM⟩ : ∃ M, M = l.length := ⟨_, rfl⟩
  rw [← hM] at hl4 hlc hkids ⊢
  obtain ⟨first, hfirst⟩ : ∃ first, Pre ++ head ++ ⟨#[123]⟩ = first := ⟨_, rfl⟩
  rw [hfirst]
  obtain ⟨hb1, hhb⟩ : ∃ hb1, head ++ ⟨#[123]⟩ = hb1 := ⟨_, rfl⟩
  have hbeg := hbg hb1 (by rw [← hhb, ByteArray.size_append]; have : (⟨#[123]⟩ : ByteArray).size = 1 := rfl; omega) w0 (KB.refl _ _)
  rw [← hhb, ← ByteArray.append_assoc, hfirst, hhb] at hbeg
  have z1 : ¬ (9223372036854775807 < head.size + 1) := by omega
  have HBG := Lib.hid hbeg
  have HP := Lib.hid (And.intro hp hb)
  have HI := Lib.hid (fun i (hi : i < M) => hints i (by rw [← hM]; exact hi))
  have HKD := Lib.hid hkids
  have HST := Lib.hid hSt
  have HWT := Lib.hid hwt
  have HL := Lib.hid (And.intro hin (And.intro hol hX))
  have hnN : (n : Int) < (N : Int) := by omega
  have c4 := hl4
  have HC4 := Lib.hid c4
  unfold Enters at hen
  have hii : inn ≤ 16384 := by omega
  clear hkids hSt hwt hbeg hbg hp hb hol hX hints hx hk13 hWK hN hM ih h hsb hts hl4 hfirst hhd hin c4 hlen hi
  go_enter Tryz.func101, Tryz.ntmps101
  go_wp2_with fail
  refine HBG.out.mono ?_
  rintro e w1 ⟨rfl, v1, hp1, ht1⟩
  have hbb := ht1.base HP.out.1 HP.out.2 HL.out.2.2
  have hbX : b ≠ X := by have h1 : b < wb.heap.size := heap_ltc HC4.out; have := HL.out.2.2; omega
  have p0 := blk_cell hp1.blk 0
  have p2 := blk_cell hp1.blk 2
  have f2 := blk_frozen hp1.blk 2
  have c4 := hbb.cell (p := ⟨b, off + n * 5 + 4, none⟩) (fun x => x) HC4.out
  have H1 := Lib.hid (And.intro hp1 (And.intro ht1 hbb))
  clear hp1 ht1 hbb HBG
  go_wp2_with fail
  obtain ⟨hp2, ht2⟩ := H1.out.1.setIn ((inn : Int) + 1)
  obtain ⟨W2, hW2⟩ : ∃ W2, W2 = w1.setCell ⟨X, 2, none⟩ (.int .i64 ((inn : Int) + 1)) := ⟨_, rfl⟩
  rw [← hW2] at hp2 ht2 ⊢
  have H2 : Hid (∃ vk, Pg W2 X (.slice (some ⟨b, off, none⟩) N cap) vk (o ++ [first] ++ catK G 0) ((inn : Int) + 1) ∧ PgTo w0 W2 X v vk) := Lib.hid ⟨v1, by rw [show catK G 0 = [] from rfl, List.append_nil]; exact hp2, H1.out.2.1.trans ht2⟩
  clear hp2 ht2 hW2 p0 p2 f2 c4 H1 hbX
  go_loopw [30] (fun kv wr => ∃ k : Nat, k ≤ M ∧ kv = .int .i64 (k : Nat) ∧ Hid (∃ vk, Pg wr X (.slice (some ⟨b, off, none⟩) N cap) vk (o ++ [first] ++ catK G k) ((inn : Int) + 1) ∧ PgTo w0 wr X v vk)) (fun kv _ => M - (intOf kv).toNat)
  case atStart => exact ⟨0, by omega, rfl, H2⟩
  case round =>
    obtain ⟨k, hk, rfl, hst⟩ := hrel
    clear H2
    by_cases hlt : k < M
    · have hkM : (k : Int) < (M : Int) := by omega
      obtain ⟨vk, hpk, htk⟩ := hst.out
      have hbb := htk.base HP.out.1 HP.out.2 HL.out.2.2
      obtain ⟨lb, lo, rfl, hc0⟩ := HI.out k hlt
      obtain ⟨q, hq, hnq, hwq, hlq, hG, hsq, hSq⟩ := HKD.out k hlt
      rw [hq] at hc0
      have hc1 := hbb.cell (p := ⟨lb, lo + k, none⟩) (fun x => x) hc0
      have hcl : (catK G k).length ≤ 2 * sumK WK k := catK_len (fun i hi => by
        obtain ⟨q2, -, -, h3, h4, h5, -⟩ := HKD.out i (by omega)
        rw [h5, h3]; exact h4)
      have hS := HST.out q hSq wr vk (o ++ [first] ++ catK G k) hsq hpk hbb (by have := HL.out.1; omega) (by
        have h1 := HWT.out (k + 1)
        have h2 : sumK WK (k + 1) = sumK WK k + WK k := rfl
        have h3 := HL.out.2.1
        rw [List.length_append, List.length_append, List.length_singleton]
        omega)
      rw [← hG, List.append_assoc, show catK G k ++ G k = catK G (k + 1) from rfl] at hS
      have HS := Lib.hid hS
      have HT := Lib.hid htk
      clear hS hpk htk hbb hc0 hq hnq hwq hlq hG hsq hSq hcl hst
      go_wp2_with fail
      refine HS.out.mono ?_
      rintro e w3 ⟨rfl, v3, hp3, ht3⟩
      have H3 : Hid (∃ vk, Pg w3 X (.slice (some ⟨b, off, none⟩) N cap) vk (o ++ [first] ++ catK G (k + 1)) ((inn : Int) + 1) ∧ PgTo w0 w3 X v vk) := Lib.hid ⟨v3, hp3, HT.out.trans ht3⟩
      clear hp3 ht3 HS HT hc1
      go_wp2_with fail
      go_roundw
      case rel => exact ⟨k + 1, by omega, by go_num, H3⟩
      case measure => simp [intOf]; omega
    · obtain rfl : k = M := by omega
      obtain ⟨vk, hpk, htk⟩ := hst.out
      have p2 := blk_cell hpk.blk 2
      have f2 := blk_frozen hpk.blk 2
      obtain ⟨hp4, ht4⟩ := hpk.setIn (inn : Int)
      have hcl : (catK G k).length ≤ 2 * sumK WK k := catK_len (fun i hi => by
        obtain ⟨q2, -, -, h3, h4, h5, -⟩ := HKD.out i (by omega)
        rw [h5, h3]; exact h4)
      have hln := line_any X _ vk _ inn ⟨#[125]⟩ _ hp4 (by omega) (by decide) (by
        have h1 := HWT.out k
        have h3 := HL.out.2.1
        rw [List.length_append, List.length_append, List.length_singleton]
        omega)
      have HLN := Lib.hid hln
      have HT := Lib.hid (htk.trans ht4)
      clear hpk htk hp4 ht4 hcl hln hst
      go_wp2_with fail
      refine HLN.out.mono ?_
      rintro e w5 ⟨rfl, v5, hp5, ht5⟩
      have H5 := Lib.hid (And.intro hp5 (HT.out.trans ht5))
      clear hp5 ht5 HLN HT p2 f2
      go_wp2_with fail
      go_end0
      refine ⟨rfl, v5, ?_, H5.out.2⟩
      have := H5.out.1
      simp only [List.append_assoc] at this ⊢
      exact this
end Go.Proofs.YtoophdcagpfmpaaGreatDoor
