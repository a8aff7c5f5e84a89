/- loanwordlaw09.over. -/
import Derived.Test.YtpigppghcghpbaaGreatDoorPlZa
import Derived.Test.YtpigppghcghpbaaGreatDoorRegApp
namespace Go.Proofs.YtpigppghcghpbaaGreatDoor
open Go.RowKit

/-- As app1; what is known of the new slice's block too. -/
theorem app1FP {P : Program} {ops : Array Oper} {rest : List Oper} {o : Oper} {a : Act} {Q : Exit → Act → World → Prop} {w : World} (t e : TypeId) (base : Nat) (u : Value) {z : Value} {bytes : Nat}
    (hinfo : (P.info? e).map (fun i => (i.zero, i.size, i.bytes)) = some (some z, 1, bytes)) (ht : P.underlying t = some (.slice e)) (hz : z.cells.size = 1)
    {v : Value} {n : Nat} {xs : List Value} (hown : w.ownsRow base e 1 v n xs) {s x : Operand} {nb c : Nat} {te : TypeId} (hgd : o.guard = none)
    (ho : o.op = .call { callee := .builtin .append, args := #[s, x], argTypes := #[t, t] }) (hs : a.eval s = v)
    (hx : a.eval x = .slice (some ⟨nb, 0, none⟩) 1 c) (hu : w.heap[nb]? = some (.cells #[u] te (0, 0))) (h1 : u.oneCell' = true) (h63 : n + 1 ≤ maxLen) (hbytes : (n + 1) * bytes ≤ 140737488355328) (hbase : base ≤ w.heap.size)
    (h : ∀ v' w', FA base w.heap.size e v (n + 1) (xs ++ [u]) v' w' → GA base e v (n + 1) (xs ++ [u]) w w' → wpList P ops Q rest (a.put o.dst v') w') : wpList P ops Q (o :: rest) a w := by
  obtain ⟨v', w', hr, h2, h3⟩ := run_append_two (P := P) w base w.heap.size (Nat.le_refl _) t o.type e hinfo ht hz v n xs hown ⟨nb, 0, none⟩ c u (cells_of_block (us := [u]) hu) h1 h63 hbytes hbase
  refine wpList_plain hgd fun K hK => ?_
  unfold Oper.wp
  simp [execOp, ho, resolve, invoke, builtin, hs, hx, hr, Result.andThen]
  exact hK _ _ (h _ _ h2 h3)
theorem own_setP {w : World} {B : Nat} {e : TypeId} {v : Value} {n : Nat} {xs : List Value} (h : w.ownsRow B e 1 v n xs) {i : Nat} (hi : i < n) :
    ∃ g cap, v = .slice (some ⟨g, 0, none⟩) n cap ∧ B ≤ g ∧ w.cell? ⟨g, i, none⟩ = xs[i]? ∧ w.frozen? ⟨g, i, none⟩ = false ∧
      ∀ u, (w.setCell ⟨g, i, none⟩ u).ownsRow B e 1 (.slice (some ⟨g, 0, none⟩) n cap) n (xs.set i u) := by
  obtain ⟨h1, h2⟩ := h
  rcases h2 with ⟨-, h2⟩ | ⟨g, cap, cur, hv, hg, hh, hcap, hm, hsz, hx⟩
  · omega
  · refine ⟨g, cap, hv, hg, ?_, ?_, fun u => ⟨by rw [List.length_set]; exact h1, Or.inr ⟨g, cap, cur.setIfInBounds i u, rfl, hg, ?_, hcap, hm, by rw [Array.size_setIfInBounds]; exact hsz, ?_⟩⟩⟩
    · simp only [World.cell?, hh]
      rw [← hx]
      simp [hi]
    · simp [World.frozen?, hh]
    · simp [World.setCell, Array.getElem?_modify, hh]
    · rw [Array.toList_setIfInBounds, List.take_set, hx]
/-- The blocks that over may write: the slice's own, and new ones. -/
def OvS (v : Value) (B : Nat) (k : Nat) : Prop := v.ownBlock = some k ∨ B ≤ k
set_option maxRecDepth 100000 in
set_option maxHeartbeats 8000000 in
theorem over_any (x : Int) (v : Value) (n B : Nat) (ys : List Value) (hn : n ≤ 100000) (w : World) (ho : w.ownsRow B 56 1 v n ys) (hB : B ≤ w.heap.size) :
    Calls Tryz.prog 26 #[.agg #[.int .i64 x, v]] w fun e w' => e = .returned (.tuple #[]) ∧ KB (fun k => v.ownBlock = some k) w w' := by
  obtain ⟨w0, rfl⟩ : ∃ w0, w0 = w := ⟨_, rfl⟩
  obtain ⟨V, hV⟩ : ∃ V, V = v := ⟨_, rfl⟩
  have HV := Lib.hid hV
  have hlt := fun g (e : v.ownBlock = some g) => (ho.lt g e).2
  obtain ⟨a, c, e1⟩ := own_lenP ho
  subst e1
  obtain ⟨W1, hW1⟩ : ∃ W1, W1 = w0.alloc (.cells #[.int .i64 x, .slice a n c] 26) := ⟨_, rfl⟩
  have hb := alloc_new w0 (.cells #[.int .i64 x, .slice a n c] 26)
  have hk := (KB.refl F0 w0).alloc (.cells #[.int .i64 x, .slice a n c] 26)
  rw [← hW1] at hb hk
  have H1 := Lib.hid (And.intro hk (And.intro hb (And.intro (own_kb ho hk (fun _ _ x => x)) (And.intro hlt hB))))
  have HW := Lib.hid hW1
  clear ho hlt hW1 hb hk hV hB
  rw [show (fun k => (Value.slice a n c).ownBlock = some k) = (fun k => V.ownBlock = some k) from by rw [HV.out]]
  go_enter Tryz.func26, Tryz.ntmps26
  go_wp2_with fail
  rw [← HW.out]
  go_loopw [2] (fun kv wr => ∃ (k : Nat) (zs : List Value), k ≤ n ∧ kv = .int .i64 (k : Nat) ∧ Hid (KB (fun k => V.ownBlock = some k) W1 wr ∧ wr.ownsRow B 56 1 V n zs)) (fun kv _ => n - (intOf kv).toNat)
  case atStart => exact ⟨0, ys, by omega, rfl, Lib.hid ⟨KB.refl _ _, by rw [HV.out]; exact H1.out.2.2.1⟩⟩
  case round =>
    obtain ⟨k, zs, hk, rfl, hst⟩ := hrel
    have hbx := hst.out.1.heap (b := w0.heap.size) (fun e => by have := H1.out.2.2.2.1 _ (by rw [← HV.out]; exact e); omega) H1.out.2.1
    have x1 : wr.cell? ⟨w0.heap.size, 1, none⟩ = some (.slice a n c) := blk_cell hbx 1
    clear hbx
    by_cases hkn : k < n
    · have d1 : decide ((k : Int) < (n : Int)) = true := decide_eq_true (by omega)
      have hkN : (k : Int) < (n : Int) := by omega
      obtain ⟨g, cap, e2, -, hcl, hfz, hset⟩ := own_setP hst.out.2 hkn
      have hzl : k < zs.length := by rw [hst.out.2.1]; omega
      rw [List.getElem?_eq_getElem hzl] at hcl
      rw [HV.out] at e2
      simp only [Value.slice.injEq, true_and] at e2
      obtain ⟨rfl, rfl⟩ := e2
      have HN : Hid (KB (fun k => V.ownBlock = some k) W1 (wr.setCell ⟨g, k, none⟩ (.int .i64 (-9))) ∧ (wr.setCell ⟨g, k, none⟩ (.int .i64 (-9))).ownsRow B 56 1 V n (zs.set k (.int .i64 (-9)))) := Lib.hid ⟨hst.out.1.setCell (p := ⟨g, k, none⟩) (fun _ => by rw [HV.out]; rfl) _, by rw [HV.out]; exact hset _⟩
      generalize zs[k] = zk at hcl
      clear hset
      go_wp2_with fail
      exact ⟨⟨k + 1, _, by omega, by go_num, HN⟩, by simp [intOf]; omega⟩
    · obtain rfl : k = n := by omega
      have d1 : decide ((k : Int) < (k : Int)) = false := decide_eq_false (by omega)
      have HO := Lib.hid (show KB (OvS V w0.heap.size) w0 wr from ((H1.out.1.mono (fun _ _ x => x.elim)).trans (hst.out.1.mono (fun _ _ h => Or.inl h))))
      have HR := Lib.hid hst.out.2
      clear hst
      go_wp2_with fail
      clear x1
      go_loopw [3, 4] (fun lv iv wq => ∃ (i : Nat) (zs : List Value), i ≤ 3 ∧ iv = .int .i64 (i : Nat) ∧ Hid (KB (OvS V w0.heap.size) w0 wq ∧ wq.ownsRow B 56 1 lv (k + i) zs ∧ (lv.ownBlock = V.ownBlock ∨ ∀ g, lv.ownBlock = some g → w0.heap.size ≤ g))) (fun _ iv _ => 3 - (intOf iv).toNat)
      case atStart => exact ⟨0, zs, by omega, rfl, Lib.hid ⟨HO.out, by rw [← HV.out]; exact HR.out, Or.inl (by rw [HV.out])⟩⟩
      case round =>
        obtain ⟨i, zs2, hi, rfl, hs2⟩ := hrel
        obtain rfl | rfl | rfl | rfl : i = 0 ∨ i = 1 ∨ i = 2 ∨ i = 3 := by omega
        · go_wp2_with (at_builtin; refine Stopped.out ?_)
          refine ⟨?_⟩
          have ka := (KB.refl F0 wr).alloc (.cells #[.int .i64 (-8)] 56)
          have ho := own_kb hs2.out.2.1 ka (fun _ _ x => x)
          have hs1 := hs2.out.1.size
          have hs0 := ka.size
          refine app1FP 24 56 B (.int .i64 (-8)) Tryz.infoStep Tryz.underlying24 (by decide) ho rfl rfl rfl rfl (alloc_new _ _) rfl (by unfold maxLen; omega) (by omega) (by have := H1.out.2.2.2.2; omega) ?_
          intro v' w' hfa hga
          obtain ⟨ma, mc, e5⟩ := own_lenP hfa.1
          have HN : Hid (KB (OvS V w0.heap.size) w0 w' ∧ w'.ownsRow B 56 1 v' (k + 1) (zs2 ++ [.int .i64 (-8)]) ∧ (v'.ownBlock = V.ownBlock ∨ ∀ g, v'.ownBlock = some g → w0.heap.size ≤ g)) := Lib.hid ⟨(hs2.out.1.alloc _).trans (hga.1.mono (fun kk _ h => by
              rcases hs2.out.2.2 with e | e
              · exact Or.inl (by rw [← e]; exact h)
              · exact Or.inr (e kk h))), hfa.1, by
              rcases hfa.2 with e | e
              · rw [e, inPlace_block]; exact hs2.out.2.2
              · exact Or.inr (fun g hg => by have := (e g hg).2; omega)⟩
          subst e5
          clear hfa hga ho ka hs1 hs0
          go_wp2_with fail
          exact ⟨⟨1, _, by omega, rfl, HN⟩, by simp [intOf]⟩
        · go_wp2_with (at_builtin; refine Stopped.out ?_)
          refine ⟨?_⟩
          have ka := (KB.refl F0 wr).alloc (.cells #[.int .i64 (-8)] 56)
          have ho := own_kb hs2.out.2.1 ka (fun _ _ x => x)
          have hs1 := hs2.out.1.size
          have hs0 := ka.size
          refine app1FP 24 56 B (.int .i64 (-8)) Tryz.infoStep Tryz.underlying24 (by decide) ho rfl rfl rfl rfl (alloc_new _ _) rfl (by unfold maxLen; omega) (by omega) (by have := H1.out.2.2.2.2; omega) ?_
          intro v' w' hfa hga
          obtain ⟨ma, mc, e5⟩ := own_lenP hfa.1
          have HN : Hid (KB (OvS V w0.heap.size) w0 w' ∧ w'.ownsRow B 56 1 v' (k + 2) (zs2 ++ [.int .i64 (-8)]) ∧ (v'.ownBlock = V.ownBlock ∨ ∀ g, v'.ownBlock = some g → w0.heap.size ≤ g)) := Lib.hid ⟨(hs2.out.1.alloc _).trans (hga.1.mono (fun kk _ h => by
              rcases hs2.out.2.2 with e | e
              · exact Or.inl (by rw [← e]; exact h)
              · exact Or.inr (e kk h))), hfa.1, by
              rcases hfa.2 with e | e
              · rw [e, inPlace_block]; exact hs2.out.2.2
              · exact Or.inr (fun g hg => by have := (e g hg).2; omega)⟩
          subst e5
          clear hfa hga ho ka hs1 hs0
          go_wp2_with fail
          exact ⟨⟨2, _, by omega, rfl, HN⟩, by simp [intOf]⟩
        · go_wp2_with (at_builtin; refine Stopped.out ?_)
          refine ⟨?_⟩
          have ka := (KB.refl F0 wr).alloc (.cells #[.int .i64 (-8)] 56)
          have ho := own_kb hs2.out.2.1 ka (fun _ _ x => x)
          have hs1 := hs2.out.1.size
          have hs0 := ka.size
          refine app1FP 24 56 B (.int .i64 (-8)) Tryz.infoStep Tryz.underlying24 (by decide) ho rfl rfl rfl rfl (alloc_new _ _) rfl (by unfold maxLen; omega) (by omega) (by have := H1.out.2.2.2.2; omega) ?_
          intro v' w' hfa hga
          obtain ⟨ma, mc, e5⟩ := own_lenP hfa.1
          have HN : Hid (KB (OvS V w0.heap.size) w0 w' ∧ w'.ownsRow B 56 1 v' (k + 3) (zs2 ++ [.int .i64 (-8)]) ∧ (v'.ownBlock = V.ownBlock ∨ ∀ g, v'.ownBlock = some g → w0.heap.size ≤ g)) := Lib.hid ⟨(hs2.out.1.alloc _).trans (hga.1.mono (fun kk _ h => by
              rcases hs2.out.2.2 with e | e
              · exact Or.inl (by rw [← e]; exact h)
              · exact Or.inr (e kk h))), hfa.1, by
              rcases hfa.2 with e | e
              · rw [e, inPlace_block]; exact hs2.out.2.2
              · exact Or.inr (fun g hg => by have := (e g hg).2; omega)⟩
          subst e5
          clear hfa hga ho ka hs1 hs0
          go_wp2_with fail
          exact ⟨⟨3, _, by omega, rfl, HN⟩, by simp [intOf]⟩
        · have HO2 : Hid (KB (fun k => V.ownBlock = some k) w0 wr) := Lib.hid (hs2.out.1.mono (fun kk hlt h => by
            rcases h with h | h
            · exact h
            · omega))
          go_wp2_with fail
          go_end0
          exact ⟨rfl, HO2.out⟩
end Go.Proofs.YtpigppghcghpbaaGreatDoor
