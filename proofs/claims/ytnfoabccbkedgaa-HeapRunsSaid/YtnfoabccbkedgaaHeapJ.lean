/- The walk of play (loanwordlaw26). -/
import Derived.Test.YtnfoabccbkedgaaHeapI
namespace Go.Proofs.Ytnfoabccbkedgaa
open Go.RowKit

/-- No class has more blocks taken than its greatest count. -/
def good (s : HS) : Prop := ∀ c, c < 5 → cnt (s.T c) ≤ s.M c
theorem countP_le_of {p q : Nat → Bool} {l : List Nat} (h : ∀ i, i ∈ l → p i = true → q i = true) : l.countP p ≤ l.countP q := by
  induction l with
  | nil => simp
  | cons a l ih =>
    have ih' := ih (fun i hi => h i (List.mem_cons_of_mem _ hi))
    simp only [List.countP_cons]
    have := h a List.mem_cons_self
    by_cases hp : p a = true
    · simp [hp, this hp]; exact ih'
    · simp [hp]; omega
theorem cnt_free (f : Nat → Bool) (n : Nat) : cnt (up f n false) ≤ cnt f := countP_le_of (fun i _ h => by
  unfold up at h; split at h; cases h; exact h)
theorem good_take {s : HS} (h : good s) (c : Int) : good (s.take c).2.2 := by
  unfold HS.take
  split
  · exact h
  · split
    · intro k hk
      simp only [HS.mark, upc]
      by_cases e : k = c.toNat
      · subst e; simp only [if_true]; omega
      · simp only [e, if_false]; exact h k hk
    · exact h
theorem good_give {s : HS} (h : good s) (x : Int) : good (s.give x).2 := by
  unfold HS.give
  split
  · rename_i c n _
    split
    · intro k hk
      simp only [HS.free, upc]
      by_cases e : k = c
      · subst e; simp only [if_true]; exact Nat.le_trans (cnt_free _ _) (h k hk)
      · simp only [e, if_false]; exact h k hk
    · exact h
  · exact h
theorem good_new : good HS.new := fun c _ => by simp [HS.new, cnt]

theorem take_err (s : HS) (c : Int) : ((s.take c).2.1 == 0) = true ∨ ((s.take c).2.1 == 0) = false := by
  cases ((s.take c).2.1 == 0) <;> simp

def PlayPost (b : Nat) (w : World) (e : Ending) (w' : World) : Prop := ∃ v s, e = .returned v ∧ IH w' b s ∧ good s ∧ KB (· = b) w w'

set_option maxRecDepth 100000 in
set_option maxHeartbeats 2000000 in
theorem play_any (b : Nat) (s : HS) (a : Option Addr) (xs : List Int) (cap : Nat) (w : World) (h : IH w b s) (hg : good s) (hlen : xs.length ≤ 300)
    (hx : IntsAt w a xs) (hr : ∀ x ∈ xs, -9223372036854775808 ≤ x ∧ x < 9223372036854775808) (hab : ∀ bl off k, k < xs.length → a = some ⟨bl, off, none⟩ → ¬ bl = b) :
    Calls Try.prog 17 #[.pointer (some ⟨b,0,none⟩), .slice a xs.length cap] w (PlayPost b w) := by
  obtain ⟨len, hl⟩ : ∃ len, len = xs.length := ⟨_, rfl⟩
  rw [← hl]
  have hlen' : (len : Int) ≤ 300 := by omega
  have hbs := heap_lt h.1
  have Hx := Lib.hid hx
  have Hl := Lib.hid hl
  have Hr := Lib.hid hr
  have H0 : Hid (IH w b s ∧ good s) := Lib.hid ⟨h, hg⟩
  have Hab := Lib.hid hab
  clear hx hl hr h hg hlen hab
  go_enter Try.func17, Try.ntmps17
  go_wp2
  go_loopw [5, 6] (fun v i wr => ∃ (k n : Nat) (ys : List Value) (s' : HS), k ≤ len ∧ n ≤ k ∧ i = .int .i64 k ∧ wr.ownsRow w.heap.size 3 1 v n ys ∧ IH wr b s' ∧ good s' ∧ KB (· = b) w wr) (fun _ i _ => len - (intOf i).toNat)
  case atStart => exact ⟨0, 0, [], s, by omega, by omega, rfl, World.ownsRow_nil _ _ _ _, H0.out.1, H0.out.2, KB.refl _ _⟩
  case round =>
    obtain ⟨k, n, ys, s', hk, hn, rfl, hown, hI, hG, hK⟩ := hrel
    by_cases hlt : k < len
    · obtain ⟨bl, off, ha, hc⟩ := Hx.out k (by rw [← Hl.out]; exact hlt)
      have hc2 := hK.cell (Hab.out bl off k (by rw [← Hl.out]; exact hlt) ha) hc
      have hrg := Hr.out (xs.getD k 0) (by rw [List.getD_eq_getElem?_getD, List.getElem?_eq_getElem (by rw [← Hl.out]; exact hlt)]; exact List.getElem_mem _)
      obtain ⟨x, hxe⟩ : ∃ x, x = xs.getD k 0 := ⟨_, rfl⟩
      rw [← hxe] at hc2 hrg
      obtain ⟨hr1, hr2⟩ := hrg
      have Hown := Lib.hid hown
      have HI := Lib.hid hI
      have HG := Lib.hid hG
      have HK := Lib.hid hK
      clear hxe hc hown hI hG hK
      subst ha
      have hbnd : (k : Int) < len := by omega
      by_cases hx0 : x < 0
      · go_wp2_with fail
        refine (give_any b s' (-1 - x) _ HI.out).mono ?_
        rintro e w2 ⟨rfl, i2, k2⟩
        have hown2 := own_kb Hown.out k2 (fun j hj hjb => by have := (Hown.out.lt j hj).1; omega)
        have hg2 := good_give HG.out (-1 - x)
        have hk2 := HK.out.trans k2
        clear k2
        go_wp2
        go_roundw
        case rel => exact ⟨k + 1, n, ys, _, by omega, by omega, by go_num, hown2, i2, hg2, hk2⟩
        case measure => simp [intOf]; omega
      · go_wp2_with fail
        refine (take_any b s' x _ HI.out).mono ?_
        rintro e w2 ⟨rfl, i2, k2⟩
        have hown2 := own_kb Hown.out k2 (fun j hj hjb => by have := (Hown.out.lt j hj).1; omega)
        have hg2 := good_take HG.out x
        have hk2 := HK.out.trans k2
        clear k2
        generalize s'.take x = r at *
        obtain ⟨r1, r2, r3⟩ := r
        simp only at *
        by_cases hr0 : r2 = 0
        · have hq : (r2 == 0) = true := by simp [hr0]
          clear hr0
          have Hown2 := Lib.hid hown2
          have Hk2 := Lib.hid hk2
          have I2 := Lib.hid i2
          have G2 := Lib.hid hg2
          clear hown2 hk2 i2 hg2
          go_wp2_with (at_builtin; refine Stopped.out ?_)
          refine ⟨?_⟩
          refine app1 22 3 w.heap.size (.int .i64 r1) Try.infoInt Try.underlying22 rfl (Hown2.out.alloc _) rfl rfl rfl rfl (by go_simp) rfl (by unfold maxLen; omega) (by omega) (by have := Hk2.out.size; simp; omega) ?_
          intro v' w' hown' hgr
          have hk' : KB (· = b) w w' := (Hk2.out.alloc _).grown hgr (own_ge Hown2.out (Nat.le_refl _))
          have hi' : IH w' b r3 := I2.out.kb (S := fun j => some j = Value.ownBlock _) ⟨(((KB.refl (fun j => some j = Value.ownBlock _) _).alloc _).grown hgr (fun j hj _ => hj.symm)).os, (((KB.refl (fun j => some j = Value.ownBlock _) _).alloc _).grown hgr (fun j hj _ => hj.symm)).tape, (((KB.refl (fun j => some j = Value.ownBlock _) _).alloc _).grown hgr (fun j hj _ => hj.symm)).output, (((KB.refl (fun j => some j = Value.ownBlock _) _).alloc _).grown hgr (fun j hj _ => hj.symm)).size, (((KB.refl (fun j => some j = Value.ownBlock _) _).alloc _).grown hgr (fun j hj _ => hj.symm)).block⟩ (fun e => by have := (Hown2.out.lt b e.symm).1; omega)
          clear hgr
          go_wp2
          go_roundw
          case rel => exact ⟨k + 1, n + 1, _, _, by omega, by omega, by go_num, hown', hi', G2.out, hk'⟩
          case measure => simp [intOf]; omega
        · have hq : (r2 == 0) = false := by simp [hr0]
          clear hr0
          go_wp2
          go_roundw
          case rel => exact ⟨k + 1, n, ys, _, by omega, by omega, by go_num, hown2, i2, hg2, hk2⟩
          case measure => simp [intOf]; omega
    · go_wp2
      go_ret
      exact ⟨_, s', rfl, hI, hG, hK⟩
end Go.Proofs.Ytnfoabccbkedgaa
