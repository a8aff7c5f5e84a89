/- print: a type's text. print: texts put together (told). -/
import Derived.Test.YtoophdcagpfmpaaGreatDoorPrD
namespace Go.Proofs.YtoophdcagpfmpaaGreatDoor
open Go.RowKit

/-- What lies in the library's tables. -/
structure PT (w : World) : Prop where
  asc : Tab w
  pow : Lib.TabIs Tryz.prog w "internal/strconv.uint64pow10" .u64 Lib.pow10Tab
theorem PT.kb {w w' : World} (h : PT w) (hk : KB F0 w w') : PT w' := ⟨h.asc.kb hk, var_kb hk h.pow⟩
/-- A node's cells. -/
abbrev ndC (x : Nd) (la : Option Addr) (lc : Nat) : Array Value := #[.int .u8 (x.k : Nat), .int .i64 x.at_, .int .i64 x.n, .string x.s, .slice la x.l.length lc]
theorem cat_lt {a b : ByteArray} (h : a.size + b.size ≤ 100000000000) : ¬ (9223372036854775807 < a.size + b.size) := by omega
theorem type_cases {k : Nat} (h : isTypeB k = true) : k = 8 ∨ k = 9 ∨ k = 10 ∨ k = 11 ∨ k = 12 := by
  unfold isTypeB at h
  simp only [Bool.and_eq_true, decide_eq_true_eq] at h
  omega
set_option maxRecDepth 100000 in
set_option maxHeartbeats 4000000 in
theorem kind_any_p (ts : List Nd) (h : TOk ts) (a : Option Addr) (cap : Nat) (f : Nat) : ∀ (n : Nat) (w : World), n < ts.length → ts.length ≤ n + f → NodesAt w a ts → isTypeB (ts.getD n nd0).k = true →
    Calls Tryz.prog 45 #[.slice a ts.length cap, .int .i64 n] w fun e w' => e = .returned (.string (Ty ts n)) ∧ KB F0 w w' := by
  induction f with
  | zero => intro n w h1 h2; omega
  | succ f ih =>
    intro n w hi hf hts hty
    obtain ⟨w0, rfl⟩ : ∃ w0, w0 = w := ⟨_, rfl⟩
    have hlen := h.len
    obtain ⟨r, hr⟩ : ∃ r, r = Ty ts n := ⟨_, rfl⟩
    rw [← hr]
    rw [Ty_eq h.down hi] at hr
    have htx := (h.txt hi).2.1
    have hsz : ∀ q, q < ts.length → (Ty ts q).size ≤ 4000000 := fun q hq => by
      have h1 := Ty_size h hq
      have h2 := wt1_pos h.good hq
      omega
    have hone : (ts.getD n nd0).k = 10 ∨ (ts.getD n nd0).k = 11 → ∃ q : Nat, (ts.getD n nd0).l.length = 1 ∧ (ts.getD n nd0).l.getD 0 0 = (q : Int) ∧ q < ts.length ∧ tyK ts (ts.getD n nd0) 0 = Ty ts q ∧
        ∀ W, KB F0 w0 W → Calls Tryz.prog 45 #[.slice a ts.length cap, .int .i64 q] W fun e w' => e = .returned (.string (Ty ts q)) ∧ KB F0 W w' := fun e => by
      have h1 := h.ty1 hi (by omega)
      have h2 := h.kid hi (i := 0) (by omega)
      exact ⟨_, h1.1, h2.2.2, h2.2.1, by unfold tyK; rw [if_pos (by omega)], fun W hk => ih _ W h2.2.1 (by omega) (hts.kbF hk) h1.2⟩
    obtain ⟨b, off, rfl, hx⟩ := hts n hi
    generalize ts.getD n nd0 = x at hx hr hty hone htx
    obtain ⟨la, lc, hl4, hints, hlc, hlm⟩ := hx.l
    unfold maxLen at hlm
    obtain ⟨k, at_, m, s, l⟩ := x
    simp only at hr hty hone htx hl4 hints hlc
    have c1 : w0.cell? ⟨b, off + n * 5 + 1, none⟩ = some (.int .i64 at_) := hx.at_
    have c2 : w0.cell? ⟨b, off + n * 5 + 2, none⟩ = some (.int .i64 m) := hx.n
    have c3 : w0.cell? ⟨b, off + n * 5 + 3, none⟩ = some (.string s) := hx.s
    have c0 : w0.cell? ⟨b, off + n * 5, none⟩ = some (.int .u8 (k : Nat)) := hx.k
    obtain ⟨N, hN⟩ : ∃ N, N = ts.length := ⟨_, rfl⟩
    rw [← hN] at hi hone hlen hsz ⊢
    have hiN : (n : Int) < (N : Int) := by omega
    obtain ⟨M, hM⟩ : ∃ M, M = l.length := ⟨_, rfl⟩
    rw [← hM] at hone hl4 hlc
    have HS := Lib.hid hsz
    clear hx hts ih hN h hsz hf
    rcases type_cases hty with rfl | rfl | rfl | rfl | rfl
    · have c0 : w0.cell? ⟨b, off + n * 5, none⟩ = some (.int .u8 8) := c0
      have HR := Lib.hid hr
      clear hone hr hty hM hints
      go_enter Tryz.func45, Tryz.ntmps45
      go_wp2_with fail
      go_ret
      exact ⟨ret_eq (by rw [HR.out]; rfl), (KB.refl _ _).alloc _⟩
    · have c0 : w0.cell? ⟨b, off + n * 5, none⟩ = some (.int .u8 9) := c0
      have HR := Lib.hid hr
      clear hone hr hty hM hints
      go_enter Tryz.func45, Tryz.ntmps45
      go_wp2_with fail
      go_ret
      exact ⟨ret_eq (by rw [HR.out]; rfl), (KB.refl _ _).alloc _⟩
    · have c0 : w0.cell? ⟨b, off + n * 5, none⟩ = some (.int .u8 10) := c0
      obtain ⟨q, rfl, hq, hqN, hqt, hc⟩ := hone (Or.inl rfl)
      obtain ⟨lb, lo, rfl, hcl⟩ := hints 0 (by omega)
      rw [hq] at hcl
      have hr2 : r = ⟨#[66, 111, 120, 60]⟩ ++ Ty ts q ++ ⟨#[62]⟩ := by rw [hr]; show _ ++ tyK ts ⟨10, at_, m, s, l⟩ 0 ++ _ = _; rw [hqt]
      have hz := HS.out q (by omega)
      have HC := Lib.hid hc
      generalize Ty ts q = C at hr2 hz HC
      obtain ⟨A, hA⟩ : ∃ A : ByteArray, ⟨#[66, 111, 120, 60]⟩ ++ C = A := ⟨_, rfl⟩
      have hsA : A.size = 4 + C.size := by rw [← hA, ByteArray.size_append]; rfl
      rw [hA] at hr2
      have hr3 := hr2.symm
      have z1 : ¬ (9223372036854775807 < 4 + C.size) := by omega
      have z2 : ¬ (9223372036854775807 < A.size + 1) := by omega
      obtain ⟨W1, hW1⟩ : ∃ W1, W1 = w0.alloc (.cells #[.int .u8 10, .int .i64 at_, .int .i64 m, .string s, .slice (some ⟨lb, lo, none⟩) 1 lc] 44) := ⟨_, rfl⟩
      have hk1 : KB F0 w0 W1 := by rw [hW1]; exact (KB.refl _ _).alloc _
      have hcl1 := hk1.cell (p := ⟨lb, lo + 0, none⟩) (fun x => x) hcl
      rw [Nat.add_zero] at hcl1
      have HK := Lib.hid hk1
      have HW := Lib.hid hW1
      rw [hW1] at hcl1
      clear hone hr hr2 hty hM hints hc hz hsA hq hqt hcl hk1 hW1 hqN
      go_enter Tryz.func45, Tryz.ntmps45
      go_wp2_with fail
      rw [← HW.out]
      refine (HC.out W1 HK.out).mono ?_
      rintro e w2 ⟨rfl, k2⟩
      have K2 := Lib.hid (HK.out.trans k2)
      clear k2 hcl1
      go_wp2_with fail
      go_ret
      exact ⟨rfl, K2.out⟩
    · have c0 : w0.cell? ⟨b, off + n * 5, none⟩ = some (.int .u8 11) := c0
      obtain ⟨q, rfl, hq, hqN, hqt, hc⟩ := hone (Or.inr rfl)
      obtain ⟨lb, lo, rfl, hcl⟩ := hints 0 (by omega)
      rw [hq] at hcl
      have hr2 : r = ampB s (m == 1) (Ty ts q) := by rw [hr]; show ampB s (m == 1) (tyK ts ⟨11, at_, m, s, l⟩ 0) = _; rw [hqt]
      have hz := HS.out q (by omega)
      have HC := Lib.hid hc
      generalize Ty ts q = C at hr2 hz HC
      have AM := Lib.hid (fun (W : World) => amp_any s C (m == 1) W htx (by omega))
      rw [← hr2] at AM
      obtain ⟨mb, hmb⟩ : ∃ mb, (m == 1) = mb := ⟨_, rfl⟩
      rw [hmb] at AM
      obtain ⟨W1, hW1⟩ : ∃ W1, W1 = w0.alloc (.cells #[.int .u8 11, .int .i64 at_, .int .i64 m, .string s, .slice (some ⟨lb, lo, none⟩) 1 lc] 44) := ⟨_, rfl⟩
      have hk1 : KB F0 w0 W1 := by rw [hW1]; exact (KB.refl _ _).alloc _
      have hb1 : W1.heap[w0.heap.size]? = some (.cells #[.int .u8 11, .int .i64 at_, .int .i64 m, .string s, .slice (some ⟨lb, lo, none⟩) 1 lc] 44 (0, 0)) := by rw [hW1]; exact alloc_new _ _
      have hcl1 := hk1.cell (p := ⟨lb, lo + 0, none⟩) (fun x => x) hcl
      rw [Nat.add_zero] at hcl1
      have HK := Lib.hid (And.intro hk1 hb1)
      have HW := Lib.hid hW1
      clear hone hr hr2 hty hM hints hc hz hq hqt hcl hk1 hW1 hqN hb1
      go_enter Tryz.func45, Tryz.ntmps45
      go_wp2_with fail
      rw [← HW.out]
      have d2 : W1.cell? ⟨w0.heap.size, 2, none⟩ = some (.int .i64 m) := blk_cell HK.out.2 2
      have d3 : W1.cell? ⟨w0.heap.size, 3, none⟩ = some (.string s) := blk_cell HK.out.2 3
      have d4 : W1.cell? ⟨w0.heap.size, 4, none⟩ = some (.slice (some ⟨lb, lo, none⟩) 1 lc) := blk_cell HK.out.2 4
      refine wp_region_rv 13 GK (kindW [(10, (fun v => v = .string C), (fun _ _ => True)), (11, (fun v => v = .string r), (fun _ _ => True))]) (by kernel_rfl) (by kernel_rfl) (kb_trans _) (kb_refl _) (kb_start _ _) (kindW_mono _ (by intro p hp; simp only [List.mem_cons, List.not_mem_nil, or_false] at hp; (rcases hp with rfl | rfl <;> exact lasts_true))) ?_
      simp only [List.take_succ_cons, List.take_zero, List.drop_succ_cons, List.drop_zero]
      iterate 10 (refine rv_det (by kernel_rfl) rfl (by intro w hG hH; have hc0 := KB.cell hG (fun x => x) (d2); have hc1 := KB.cell hG (fun x => x) (d3); have hc2 := KB.cell hG (fun x => x) (d4); have hc3 := KB.cell hG (fun x => x) (hcl1); go_simp; first | done | with_reducible rfl) ?_; simp only [Act.put, List.setIfInBounds_toArray, List.set_cons_zero, List.set_cons_succ])
      refine rv_rel (by kernel_rfl) rfl ⟨_, rfl⟩ (by
        intro w hG hH
        refine opVal_call (by go_simp; first | done | exact ⟨⟨rfl, rfl⟩, rfl⟩) ?_
        refine (HC.out _ (HK.out.1.trans hG)).mono ?_
        rintro e w' ⟨rfl, hq⟩
        exact ⟨_, rfl, rfl, by first | (obtain ⟨nq, rfl⟩ := hq; exact (KB.refl _ _).drewN _) | (subst hq; exact KB.refl _ _) | exact hq, trivial⟩) ?_
      rintro v rfl
      simp only [Act.put, List.setIfInBounds_toArray, List.set_cons_zero, List.set_cons_succ]
      refine rv_rel (by kernel_rfl) rfl ⟨_, rfl⟩ (by
        intro w hG hH
        refine opVal_call (by go_simp; first | done | exact ⟨⟨rfl, rfl⟩, rfl⟩) ?_
        refine (AM.out _).mono ?_
        rintro e w' ⟨rfl, hq⟩
        exact ⟨_, rfl, rfl, by first | (obtain ⟨nq, rfl⟩ := hq; exact (KB.refl _ _).drewN _) | (subst hq; exact KB.refl _ _) | exact hq, trivial⟩) ?_
      rintro v rfl
      simp only [Act.put, List.setIfInBounds_toArray, List.set_cons_zero, List.set_cons_succ]
      refine rv_det (by kernel_rfl) rfl (by intro w hG hH; go_simp; first | done | with_reducible rfl) ?_
      simp only [Act.put, List.setIfInBounds_toArray, List.set_cons_zero, List.set_cons_succ]
      refine rv_nil (fun w hG hH => ?_)
      have K2 := Lib.hid (HK.out.1.trans hG)
      clear hG hH d2 d3 d4 hcl1
      go_wp2_with fail
      go_ret
      exact ⟨rfl, K2.out⟩
    · have c0 : w0.cell? ⟨b, off + n * 5, none⟩ = some (.int .u8 12) := c0
      have HR := Lib.hid hr
      clear hone hr hty hM hints
      go_enter Tryz.func45, Tryz.ntmps45
      go_wp2_with fail
      go_ret
      exact ⟨ret_eq (by rw [HR.out]; rfl), (KB.refl _ _).alloc _⟩
theorem kind_any5 (ts : List Nd) (h : TOk ts) (a : Option Addr) (cap n : Nat) (w : World) (hn : n < ts.length) (hts : NodesAt w a ts) (hty : isTypeB (ts.getD n nd0).k = true) :
    Calls Tryz.prog 45 #[.slice a ts.length cap, .int .i64 n] w fun e w' => e = .returned (.string (Ty ts n)) ∧ KB F0 w w' := kind_any_p ts h a cap ts.length n w hn (by omega) hts hty
end Go.Proofs.YtoophdcagpfmpaaGreatDoor

namespace Go.Proofs.YtoophdcagpfmpaaGreatDoor
open Go.RowKit

def strsK (g : Nat → ByteArray) (k : Nat) : List Value := (List.range k).map fun i => Value.string (g i)
theorem strsK_succ (g : Nat → ByteArray) (k : Nat) : strsK g (k + 1) = strsK g k ++ [.string (g k)] := by
  unfold strsK; rw [List.range_succ, List.map_append]; rfl
theorem strsK_len (g : Nat → ByteArray) (k : Nat) : (strsK g k).length = k := by simp [strsK]
theorem joinTail_snoc (sep : List UInt8) (r : List (List UInt8)) (y : List UInt8) : Lib.joinTail sep (r ++ [y]) = Lib.joinTail sep r ++ (sep ++ y) := by
  simp [Lib.joinTail]
theorem join_snoc (sep : List UInt8) (xs : List (List UInt8)) (y : List UInt8) (h : xs ≠ []) : Lib.join (xs ++ [y]) sep = Lib.join xs sep ++ sep ++ y := by
  cases xs with
  | nil => exact absurd rfl h
  | cons x r => rw [List.cons_append, Lib.join_cons, Lib.join_cons, joinTail_snoc, List.append_assoc, List.append_assoc]
theorem jn_join (sep : ByteArray) (g : Nat → ByteArray) (k : Nat) : Lib.join (((List.range k).map g).map (·.data.toList)) sep.data.toList = (jnK sep g k).data.toList := by
  induction k with
  | zero => rfl
  | succ k ih =>
    rw [List.range_succ, List.map_append, List.map_append]
    by_cases h : k = 0
    · subst h
      show Lib.join [(g 0).data.toList] _ = (jnK sep g 1).data.toList
      rw [Lib.join_one]; rfl
    · rw [show [k].map g = [g k] from rfl, show [g k].map (·.data.toList) = [(g k).data.toList] from rfl, join_snoc _ _ _ (by
        intro e
        have := congrArg List.length e
        simp at this
        exact h this), ih]
      rw [show jnK sep g (k + 1) = jnK sep g k ++ sep ++ g k from if_neg h]
      simp [ByteArray.data_append]
/-- A function with a body is entered. -/
theorem enters {P : Program} {f : FuncId} {fn : Func} (hf : P.funcs[f]? = some fn) (hn : (fn.name == "runtime.NumGoroutine") = false) (hb : fn.body.isNone = false) (args : Array Value) (w : World) :
    (callFunc f args).run P w = .ok (.enter f args) w := by
  have h1 : fn.name ≠ "runtime.NumGoroutine" := by simpa using hn
  have h2 : fn.body ≠ none := fun e => by rw [e] at hb; cases hb
  simp [callFunc, hf, h1, h2]
theorem Tryz.infoStr5 : (Tryz.prog.info? 9).map (fun i => (i.zero, i.size, i.bytes)) = some (some (.string ByteArray.empty), 1, 16) := by kernel_rfl
theorem join_own (B : Nat) (v : Value) (g : Nat → ByteArray) (k : Nat) (sep : ByteArray) (w : World) (hown : w.ownsRow B 9 1 v k (strsK g k)) (hk : k ≤ 1000000000) (hs : (jnK sep g k).size ≤ 100000000000) :
    Calls Tryz.prog 52 #[v, .string sep] w fun e w' => e = .returned (.string (jnK sep g k)) ∧ KB F0 w w' := by
  obtain ⟨a, cap, rfl, h1, h2, h3, h4⟩ := own_shape hown
  cases k with
  | zero =>
    refine (Tryz.strings_Join_none a cap sep w).mono ?_
    rintro e w' ⟨rfl, rfl⟩
    exact ⟨rfl, KB.refl _ _⟩
  | succ k =>
    obtain ⟨b, rfl, hb, -⟩ := h3 0 (by omega)
    have hl : ((List.range (k + 1)).map g).length = k + 1 := by simp
    have hj := jn_join sep g (k + 1)
    have hc : ∀ j x, ((List.range (k + 1)).map g)[j]? = some x → w.cell? ⟨b, 0 + j, none⟩ = some (.string x) := by
      intro j x hx
      have hlt : j < k + 1 := by have := (List.getElem?_eq_some_iff.1 hx).1; omega
      obtain ⟨b2, e2, -, hc2⟩ := h3 j (by omega)
      cases e2
      rw [Nat.zero_add, hc2]
      simp only [strsK, List.getElem?_map] at hx ⊢
      rw [List.getElem?_range hlt] at hx ⊢
      simp at hx ⊢
      rw [hx]
    have hlt : b < w.heap.size := by
      obtain ⟨b2, e2, -, hc2⟩ := h3 0 (by omega)
      cases e2
      rw [show (strsK g (k + 1))[0]? = some (.string (g 0)) by simp [strsK]] at hc2
      exact World.block_lt_of_cell? w _ hc2
    have h := Tryz.strings_Join b 0 cap ((List.range (k + 1)).map g) sep w hc hlt (by omega) (by omega) (by rw [hj]; rw [show (jnK sep g (k + 1)).data.toList.length = (jnK sep g (k + 1)).size by simp]; omega)
    rw [hl, hj] at h
    refine h.mono ?_
    rintro e w' ⟨rfl, hb⟩
    exact ⟨ret_eq (by simp), KB.of_below hb⟩
theorem jnK_le {sep : ByteArray} {g : Nat → ByteArray} {k m : Nat} (h : k ≤ m) : (jnK sep g k).size ≤ (jnK sep g m).size := by
  induction m with
  | zero => have : k = 0 := by omega
            subst this; exact Nat.le_refl _
  | succ m ih =>
    rcases Nat.lt_or_eq_of_le h with h | rfl
    · have h1 := ih (by omega)
      have h2 : (jnK sep g m).size ≤ (jnK sep g (m + 1)).size := by
        conv => rhs; unfold jnK
        split
        · rename_i h0; subst h0; exact Nat.zero_le _
        · rw [ByteArray.size_append, ByteArray.size_append]; omega
      omega
    · exact Nat.le_refl _
set_option maxRecDepth 100000 in
set_option maxHeartbeats 4000000 in
theorem told_bound (tv : Value) (la : Option Addr) (M lc : Nat) (cs : Nat → Int) (sep : ByteArray) (fn : Nat) (rv : Value) (g : Nat → ByteArray) (w : World) (hM : M ≤ 20000) (hcs : ∀ i, i < M → ∃ b o, la = some ⟨b, o, none⟩ ∧ w.cell? ⟨b, o + i, none⟩ = some (.int .i64 (cs i)))
    (hc : ∀ i, i < M → ∀ W, KB F0 w W → Calls Tryz.prog fn #[rv, .int .i64 (cs i)] W fun e w' => e = .returned (.string (g i)) ∧ KB F0 W w') (hs : (jnK sep g M).size ≤ 100000000000) (hen : ∀ args W, (callFunc fn args).run Tryz.prog W = .ok (.enter fn args) W) :
    Calls Tryz.prog 96 #[tv, .slice la M lc, .string sep, .func (.func fn) #[rv] #[]] w fun e w' => e = .returned (.string (jnK sep g M)) ∧ KB F0 w w' := by
  obtain ⟨w0, rfl⟩ : ∃ w0, w0 = w := ⟨_, rfl⟩
  obtain ⟨r, hr⟩ : ∃ r, r = jnK sep g M := ⟨_, rfl⟩
  have JO := Lib.hid (fun (B : Nat) (v : Value) (W : World) (hown : W.ownsRow B 9 1 v M (strsK g M)) => join_own B v g M sep W hown (by omega) hs)
  rw [← hr] at JO ⊢
  have HCS := Lib.hid hcs
  have HC := Lib.hid hc
  clear hcs hc hr hs
  go_enter Tryz.func96, Tryz.ntmps96
  go_wp2_with fail
  go_loopw [9, 14] (fun sv kv wr => ∃ k : Nat, k ≤ M ∧ kv = .int .i64 (k : Nat) ∧ Hid (KB F0 w0 wr ∧ wr.ownsRow w0.heap.size 9 1 sv k (strsK g k))) (fun _ kv _ => M - (intOf kv).toNat)
  case atStart => exact ⟨0, by omega, rfl, Lib.hid ⟨KB.refl _ _, World.ownsRow_nil _ _ _ _⟩⟩
  case round =>
    obtain ⟨k, hk, rfl, hst⟩ := hrel
    by_cases hlt : k < M
    · have hkM : (k : Int) < (M : Int) := by omega
      obtain ⟨b, o, rfl, hc0⟩ := HCS.out k hlt
      have hc1 := hst.out.1.cell (p := ⟨b, o + k, none⟩) (fun x => x) hc0
      have C1 := Lib.hid (HC.out k hlt)
      have hss := Lib.hid (strsK_succ g k)
      generalize g k = G at C1 hss
      generalize cs k = c at hc1 C1
      clear hc0
      go_wp2_with fail
      refine (C1.out wr hst.out.1).mono ?_
      rintro e w1 ⟨rfl, k1⟩
      have H1 := Lib.hid (And.intro (hst.out.1.trans k1) (own_kb hst.out.2 k1 (fun _ _ x => x)))
      clear k1 hc1
      go_wp2_with (at_builtin; refine Stopped.out ?_)
      refine ⟨?_⟩
      have ka := (KB.refl F0 w1).alloc (.cells #[.string G] 9)
      have ho := own_kb H1.out.2 ka (fun _ _ x => x)
      refine app1 33 9 w0.heap.size (.string G) Tryz.infoStr5 Tryz.underlying33 (by decide) ho rfl rfl rfl rfl (blk_cell (alloc_new _ _) 0) rfl (by unfold maxLen; omega) (by omega) (H1.out.1.trans ka).size ?_
      intro v2 w2 hown2 hgr2
      have k2 : KB F0 w0 w2 := (H1.out.1.trans ka).grown hgr2 (own_ge ho (Nat.le_refl _))
      rw [← hss.out] at hown2
      have H2 := Lib.hid (And.intro k2 hown2)
      clear ka ho hown2 hgr2 k2
      go_wp2_with fail
      go_roundw
      case rel => exact ⟨k + 1, by omega, by go_num, H2⟩
      case measure => simp [intOf]; omega
    · obtain rfl : k = M := by omega
      go_wp2_with fail
      refine (JO.out w0.heap.size _ wr hst.out.2).mono ?_
      rintro e w3 ⟨rfl, k3⟩
      have K3 := Lib.hid (hst.out.1.trans k3)
      clear k3
      go_wp2_with fail
      go_ret
      exact ⟨rfl, K3.out⟩
set_option maxRecDepth 100000 in
set_option maxHeartbeats 4000000 in
theorem told_cap (tv : Value) (la : Option Addr) (M lc : Nat) (cs : Nat → Int) (sep : ByteArray) (fn : Nat) (rv : Value) (g : Nat → ByteArray) (w : World) (hM : M ≤ 20000) (hcs : ∀ i, i < M → ∃ b o, la = some ⟨b, o, none⟩ ∧ w.cell? ⟨b, o + i, none⟩ = some (.int .i64 (cs i)))
    (hc : ∀ i, i < M → ∀ W, KB F0 w W → Calls Tryz.prog fn #[.int .i64 (cs i), rv] W fun e w' => e = .returned (.string (g i)) ∧ KB F0 W w') (hs : (jnK sep g M).size ≤ 100000000000) (hen : ∀ args W, (callFunc fn args).run Tryz.prog W = .ok (.enter fn args) W) :
    Calls Tryz.prog 96 #[tv, .slice la M lc, .string sep, .func (.func fn) #[] #[rv]] w fun e w' => e = .returned (.string (jnK sep g M)) ∧ KB F0 w w' := by
  obtain ⟨w0, rfl⟩ : ∃ w0, w0 = w := ⟨_, rfl⟩
  obtain ⟨r, hr⟩ : ∃ r, r = jnK sep g M := ⟨_, rfl⟩
  have JO := Lib.hid (fun (B : Nat) (v : Value) (W : World) (hown : W.ownsRow B 9 1 v M (strsK g M)) => join_own B v g M sep W hown (by omega) hs)
  rw [← hr] at JO ⊢
  have HCS := Lib.hid hcs
  have HC := Lib.hid hc
  clear hcs hc hr hs
  go_enter Tryz.func96, Tryz.ntmps96
  go_wp2_with fail
  go_loopw [9, 14] (fun sv kv wr => ∃ k : Nat, k ≤ M ∧ kv = .int .i64 (k : Nat) ∧ Hid (KB F0 w0 wr ∧ wr.ownsRow w0.heap.size 9 1 sv k (strsK g k))) (fun _ kv _ => M - (intOf kv).toNat)
  case atStart => exact ⟨0, by omega, rfl, Lib.hid ⟨KB.refl _ _, World.ownsRow_nil _ _ _ _⟩⟩
  case round =>
    obtain ⟨k, hk, rfl, hst⟩ := hrel
    by_cases hlt : k < M
    · have hkM : (k : Int) < (M : Int) := by omega
      obtain ⟨b, o, rfl, hc0⟩ := HCS.out k hlt
      have hc1 := hst.out.1.cell (p := ⟨b, o + k, none⟩) (fun x => x) hc0
      have C1 := Lib.hid (HC.out k hlt)
      have hss := Lib.hid (strsK_succ g k)
      generalize g k = G at C1 hss
      generalize cs k = c at hc1 C1
      clear hc0
      go_wp2_with fail
      refine (C1.out wr hst.out.1).mono ?_
      rintro e w1 ⟨rfl, k1⟩
      have H1 := Lib.hid (And.intro (hst.out.1.trans k1) (own_kb hst.out.2 k1 (fun _ _ x => x)))
      clear k1 hc1
      go_wp2_with (at_builtin; refine Stopped.out ?_)
      refine ⟨?_⟩
      have ka := (KB.refl F0 w1).alloc (.cells #[.string G] 9)
      have ho := own_kb H1.out.2 ka (fun _ _ x => x)
      refine app1 33 9 w0.heap.size (.string G) Tryz.infoStr5 Tryz.underlying33 (by decide) ho rfl rfl rfl rfl (blk_cell (alloc_new _ _) 0) rfl (by unfold maxLen; omega) (by omega) (H1.out.1.trans ka).size ?_
      intro v2 w2 hown2 hgr2
      have k2 : KB F0 w0 w2 := (H1.out.1.trans ka).grown hgr2 (own_ge ho (Nat.le_refl _))
      rw [← hss.out] at hown2
      have H2 := Lib.hid (And.intro k2 hown2)
      clear ka ho hown2 hgr2 k2
      go_wp2_with fail
      go_roundw
      case rel => exact ⟨k + 1, by omega, by go_num, H2⟩
      case measure => simp [intOf]; omega
    · obtain rfl : k = M := by omega
      go_wp2_with fail
      refine (JO.out w0.heap.size _ wr hst.out.2).mono ?_
      rintro e w3 ⟨rfl, k3⟩
      have K3 := Lib.hid (hst.out.1.trans k3)
      clear k3
      go_wp2_with fail
      go_ret
      exact ⟨rfl, K3.out⟩
end Go.Proofs.YtoophdcagpfmpaaGreatDoor
