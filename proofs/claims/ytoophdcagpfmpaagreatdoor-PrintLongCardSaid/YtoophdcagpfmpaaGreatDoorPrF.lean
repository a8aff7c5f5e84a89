/- print: texts put together (told). -/
import Derived.Test.YtoophdcagpfmpaaGreatDoorPrE
namespace Go.Proofs.YtoophdcagpfmpaaGreatDoor
open Go.RowKit

def strsK (g : Nat → ByteArray) (k : Nat) : List Value := (List.range k).map fun i => Value.string (g i)
theorem strsK_succ (g : Nat → ByteArray) (k : Nat) : strsK g (k + 1) = strsK g k ++ [.string (g k)] := by
  unfold strsK; rw [List.range_succ, List.map_append]; rfl
theorem strsK_len (g : Nat → ByteArray) (k : Nat) : (strsK g k).length = k := by simp [strsK]
theorem joinTail_snoc (sep : List UInt8) (r : List (List UInt8)) (y : List UInt8) : Lib.joinTail sep (r ++ [y]) = Lib.joinTail sep r ++ (sep ++ y) := by
  simp [Lib.joinTail]
theorem join_snoc (sep : List UInt8) (xs : List (List UInt8)) (y : List UInt8) (h : xs ≠ []) : Lib.join (xs ++ [y]) sep = Lib.join xs sep ++ sep ++ y := by
  cases xs with
  | nil => exact absurd rfl h
  | cons x r => rw [List.cons_append, Lib.join_cons, Lib.join_cons, joinTail_snoc, List.append_assoc, List.append_assoc]
theorem jn_join (sep : ByteArray) (g : Nat → ByteArray) (k : Nat) : Lib.join (((List.range k).map g).map (·.data.toList)) sep.data.toList = (jnK sep g k).data.toList := by
  induction k with
  | zero => rfl
  | succ k ih =>
    rw [List.range_succ, List.map_append, List.map_append]
    by_cases h : k = 0
    · subst h
      show Lib.join [(g 0).data.toList] _ = (jnK sep g 1).data.toList
      rw [Lib.join_one]; rfl
    · rw [show [k].map g = [g k] from rfl, show [g k].map (·.data.toList) = [(g k).data.toList] from rfl, join_snoc _ _ _ (by
        intro e
        have := congrArg List.length e
        simp at this
        exact h this), ih]
      rw [show jnK sep g (k + 1) = jnK sep g k ++ sep ++ g k from if_neg h]
      simp [ByteArray.data_append]
/-- A function with a body is entered. -/
theorem enters {P : Program} {f : FuncId} {fn : Func} (hf : P.funcs[f]? = some fn) (hn : (fn.name == "runtime.NumGoroutine") = false) (hb : fn.body.isNone = false) (args : Array Value) (w : World) :
    (callFunc f args).run P w = .ok (.enter f args) w := by
  have h1 : fn.name ≠ "runtime.NumGoroutine" := by simpa using hn
  have h2 : fn.body ≠ none := fun e => by rw [e] at hb; cases hb
  simp [callFunc, hf, h1, h2]
theorem Tryz.infoStr5 : (Tryz.prog.info? 9).map (fun i => (i.zero, i.size, i.bytes)) = some (some (.string ByteArray.empty), 1, 16) := by kernel_rfl
theorem join_own (B : Nat) (v : Value) (g : Nat → ByteArray) (k : Nat) (sep : ByteArray) (w : World) (hown : w.ownsRow B 9 1 v k (strsK g k)) (hk : k ≤ 1000000000) (hs : (jnK sep g k).size ≤ 100000000000) :
    Calls Tryz.prog 52 #[v, .string sep] w fun e w' => e = .returned (.string (jnK sep g k)) ∧ KB F0 w w' := by
  obtain ⟨a, cap, rfl, h1, h2, h3, h4⟩ := own_shape hown
  cases k with
  | zero =>
    refine (Tryz.strings_Join_none a cap sep w).mono ?_
    rintro e w' ⟨rfl, rfl⟩
    exact ⟨rfl, KB.refl _ _⟩
  | succ k =>
    obtain ⟨b, rfl, hb, -⟩ := h3 0 (by omega)
    have hl : ((List.range (k + 1)).map g).length = k + 1 := by simp
    have hj := jn_join sep g (k + 1)
    have hc : ∀ j x, ((List.range (k + 1)).map g)[j]? = some x → w.cell? ⟨b, 0 + j, none⟩ = some (.string x) := by
      intro j x hx
      have hlt : j < k + 1 := by have := (List.getElem?_eq_some_iff.1 hx).1; omega
      obtain ⟨b2, e2, -, hc2⟩ := h3 j (by omega)
      cases e2
      rw [Nat.zero_add, hc2]
      simp only [strsK, List.getElem?_map] at hx ⊢
      rw [List.getElem?_range hlt] at hx ⊢
      simp at hx ⊢
      rw [hx]
    have hlt : b < w.heap.size := by
      obtain ⟨b2, e2, -, hc2⟩ := h3 0 (by omega)
      cases e2
      rw [show (strsK g (k + 1))[0]? = some (.string (g 0)) by simp [strsK]] at hc2
      exact World.block_lt_of_cell? w _ hc2
    have h := Tryz.strings_Join b 0 cap ((List.range (k + 1)).map g) sep w hc hlt (by omega) (by omega) (by rw [hj]; rw [show (jnK sep g (k + 1)).data.toList.length = (jnK sep g (k + 1)).size by simp]; omega)
    rw [hl, hj] at h
    refine h.mono ?_
    rintro e w' ⟨rfl, hb⟩
    exact ⟨ret_eq (by simp), KB.of_below hb⟩
theorem jnK_le {sep : ByteArray} {g : Nat → ByteArray} {k m : Nat} (h : k ≤ m) : (jnK sep g k).size ≤ (jnK sep g m).size := by
  induction m with
  | zero => have : k = 0 := by omega
            subst this; exact Nat.le_refl _
  | succ m ih =>
    rcases Nat.lt_or_eq_of_le h with h | rfl
    · have h1 := ih (by omega)
      have h2 : (jnK sep g m).size ≤ (jnK sep g (m + 1)).size := by
        conv => rhs; unfold jnK
        split
        · rename_i h0; subst h0; exact Nat.zero_le _
        · rw [ByteArray.size_append, ByteArray.size_append]; omega
      omega
    · exact Nat.le_refl _
set_option maxRecDepth 100000 in
set_option maxHeartbeats 4000000 in
theorem told_bound (tv : Value) (la : Option Addr) (M lc : Nat) (cs : Nat → Int) (sep : ByteArray) (fn : Nat) (rv : Value) (g : Nat → ByteArray) (w : World) (hM : M ≤ 20000) (hcs : ∀ i, i < M → ∃ b o, la = some ⟨b, o, none⟩ ∧ w.cell? ⟨b, o + i, none⟩ = some (.int .i64 (cs i)))
    (hc : ∀ i, i < M → ∀ W, KB F0 w W → Calls Tryz.prog fn #[rv, .int .i64 (cs i)] W fun e w' => e = .returned (.string (g i)) ∧ KB F0 W w') (hs : (jnK sep g M).size ≤ 100000000000) (hen : ∀ args W, (callFunc fn args).run Tryz.prog W = .ok (.enter fn args) W) :
    Calls Tryz.prog 96 #[tv, .slice la M lc, .string sep, .func (.func fn) #[rv] #[]] w fun e w' => e = .returned (.string (jnK sep g M)) ∧ KB F0 w w' := by
  obtain ⟨w0, rfl⟩ : ∃ w0, w0 = w := ⟨_, rfl⟩
  obtain ⟨r, hr⟩ : ∃ r, r = jnK sep g M := ⟨_, rfl⟩
  have JO := Lib.hid (fun (B : Nat) (v : Value) (W : World) (hown : W.ownsRow B 9 1 v M (strsK g M)) => join_own B v g M sep W hown (by omega) hs)
  rw [← hr] at JO ⊢
  have HCS := Lib.hid hcs
  have HC := Lib.hid hc
  clear hcs hc hr hs
  go_enter Tryz.func96, Tryz.ntmps96
  go_wp2_with fail
  go_loopw [9, 14] (fun sv kv wr => ∃ k : Nat, k ≤ M ∧ kv = .int .i64 (k : Nat) ∧ Hid (KB F0 w0 wr ∧ wr.ownsRow w0.heap.size 9 1 sv k (strsK g k))) (fun _ kv _ => M - (intOf kv).toNat)
  case atStart => exact ⟨0, by omega, rfl, Lib.hid ⟨KB.refl _ _, World.ownsRow_nil _ _ _ _⟩⟩
  case round =>
    obtain ⟨k, hk, rfl, hst⟩ := hrel
    by_cases hlt : k < M
    · have hkM : (k : Int) < (M : Int) := by omega
      obtain ⟨b, o, rfl, hc0⟩ := HCS.out k hlt
      have hc1 := hst.out.1.cell (p := ⟨b, o + k, none⟩) (fun x => x) hc0
      have C1 := Lib.hid (HC.out k hlt)
      have hss := Lib.hid (strsK_succ g k)
      generalize g k = G at C1 hss
      generalize cs k = c at hc1 C1
      clear hc0
      go_wp2_with fail
      refine (C1.out wr hst.out.1).mono ?_
      rintro e w1 ⟨rfl, k1⟩
      have H1 := Lib.hid (And.intro (hst.out.1.trans k1) (own_kb hst.out.2 k1 (fun _ _ x => x)))
      clear k1 hc1
      go_wp2_with (at_builtin; refine Stopped.out ?_)
      refine ⟨?_⟩
      have ka := (KB.refl F0 w1).alloc (.cells #[.string G] 9)
      have ho := own_kb H1.out.2 ka (fun _ _ x => x)
      refine app1 33 9 w0.heap.size (.string G) Tryz.infoStr5 Tryz.underlying33 (by decide) ho rfl rfl rfl rfl (blk_cell (alloc_new _ _) 0) rfl (by unfold maxLen; omega) (by omega) (H1.out.1.trans ka).size ?_
      intro v2 w2 hown2 hgr2
      have k2 : KB F0 w0 w2 := (H1.out.1.trans ka).grown hgr2 (own_ge ho (Nat.le_refl _))
      rw [← hss.out] at hown2
      have H2 := Lib.hid (And.intro k2 hown2)
      clear ka ho hown2 hgr2 k2
      go_wp2_with fail
      go_roundw
      case rel => exact ⟨k + 1, by omega, by go_num, H2⟩
      case measure => simp [intOf]; omega
    · obtain rfl : k = M := by omega
      go_wp2_with fail
      refine (JO.out w0.heap.size _ wr hst.out.2).mono ?_
      rintro e w3 ⟨rfl, k3⟩
      have K3 := Lib.hid (hst.out.1.trans k3)
      clear k3
      go_wp2_with fail
      go_ret
      exact ⟨rfl, K3.out⟩
set_option maxRecDepth 100000 in
set_option maxHeartbeats 4000000 in
theorem told_cap (tv : Value) (la : Option Addr) (M lc : Nat) (cs : Nat → Int) (sep : ByteArray) (fn : Nat) (rv : Value) (g : Nat → ByteArray) (w : World) (hM : M ≤ 20000) (hcs : ∀ i, i < M → ∃ b o, la = some ⟨b, o, none⟩ ∧ w.cell? ⟨b, o + i, none⟩ = some (.int .i64 (cs i)))
    (hc : ∀ i, i < M → ∀ W, KB F0 w W → Calls Tryz.prog fn #[.int .i64 (cs i), rv] W fun e w' => e = .returned (.string (g i)) ∧ KB F0 W w') (hs : (jnK sep g M).size ≤ 100000000000) (hen : ∀ args W, (callFunc fn args).run Tryz.prog W = .ok (.enter fn args) W) :
    Calls Tryz.prog 96 #[tv, .slice la M lc, .string sep, .func (.func fn) #[] #[rv]] w fun e w' => e = .returned (.string (jnK sep g M)) ∧ KB F0 w w' := by
  obtain ⟨w0, rfl⟩ : ∃ w0, w0 = w := ⟨_, rfl⟩
  obtain ⟨r, hr⟩ : ∃ r, r = jnK sep g M := ⟨_, rfl⟩
  have JO := Lib.hid (fun (B : Nat) (v : Value) (W : World) (hown : W.ownsRow B 9 1 v M (strsK g M)) => join_own B v g M sep W hown (by omega) hs)
  rw [← hr] at JO ⊢
  have HCS := Lib.hid hcs
  have HC := Lib.hid hc
  clear hcs hc hr hs
  go_enter Tryz.func96, Tryz.ntmps96
  go_wp2_with fail
  go_loopw [9, 14] (fun sv kv wr => ∃ k : Nat, k ≤ M ∧ kv = .int .i64 (k : Nat) ∧ Hid (KB F0 w0 wr ∧ wr.ownsRow w0.heap.size 9 1 sv k (strsK g k))) (fun _ kv _ => M - (intOf kv).toNat)
  case atStart => exact ⟨0, by omega, rfl, Lib.hid ⟨KB.refl _ _, World.ownsRow_nil _ _ _ _⟩⟩
  case round =>
    obtain ⟨k, hk, rfl, hst⟩ := hrel
    by_cases hlt : k < M
    · have hkM : (k : Int) < (M : Int) := by omega
      obtain ⟨b, o, rfl, hc0⟩ := HCS.out k hlt
      have hc1 := hst.out.1.cell (p := ⟨b, o + k, none⟩) (fun x => x) hc0
      have C1 := Lib.hid (HC.out k hlt)
      have hss := Lib.hid (strsK_succ g k)
      generalize g k = G at C1 hss
      generalize cs k = c at hc1 C1
      clear hc0
      go_wp2_with fail
      refine (C1.out wr hst.out.1).mono ?_
      rintro e w1 ⟨rfl, k1⟩
      have H1 := Lib.hid (And.intro (hst.out.1.trans k1) (own_kb hst.out.2 k1 (fun _ _ x => x)))
      clear k1 hc1
      go_wp2_with (at_builtin; refine Stopped.out ?_)
      refine ⟨?_⟩
      have ka := (KB.refl F0 w1).alloc (.cells #[.string G] 9)
      have ho := own_kb H1.out.2 ka (fun _ _ x => x)
      refine app1 33 9 w0.heap.size (.string G) Tryz.infoStr5 Tryz.underlying33 (by decide) ho rfl rfl rfl rfl (blk_cell (alloc_new _ _) 0) rfl (by unfold maxLen; omega) (by omega) (H1.out.1.trans ka).size ?_
      intro v2 w2 hown2 hgr2
      have k2 : KB F0 w0 w2 := (H1.out.1.trans ka).grown hgr2 (own_ge ho (Nat.le_refl _))
      rw [← hss.out] at hown2
      have H2 := Lib.hid (And.intro k2 hown2)
      clear ka ho hown2 hgr2 k2
      go_wp2_with fail
      go_roundw
      case rel => exact ⟨k + 1, by omega, by go_num, H2⟩
      case measure => simp [intOf]; omega
    · obtain rfl : k = M := by omega
      go_wp2_with fail
      refine (JO.out w0.heap.size _ wr hst.out.2).mono ?_
      rintro e w3 ⟨rfl, k3⟩
      have K3 := Lib.hid (hst.out.1.trans k3)
      clear k3
      go_wp2_with fail
      go_ret
      exact ⟨rfl, K3.out⟩
end Go.Proofs.YtoophdcagpfmpaaGreatDoor
