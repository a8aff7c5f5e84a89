/- The part of a tree below a node: plain facts. loanwordlaw05.within: a text that stands in another is found. -/
import Derived.Test.YtoophdcagpfmpaaGreatDoorTrSub
import Derived.Test.YtoophdcagpfmpaaGreatDoorBuild
namespace Go.Proofs.YtoophdcagpfmpaaGreatDoor
open Go.RowKit

theorem En_eq {ts : List Nd} {n e : Nat} (h : Wt ts n = some e) : En ts n = e := by unfold En; rw [h]; rfl
theorem subN_get {ts : List Nd} (hg : Good ts) {n i : Nat} (hn : n < ts.length) (hi : i < En ts n - n) : (subN ts n).getD i nd0 = shN (-(n : Int)) (ts.getD (n + i) nd0) := by
  obtain ⟨-, h1, h2⟩ := En_spec hg hn
  simp [subN, List.getD_eq_getElem?_getD, hi, show n + i < ts.length by omega]
theorem walk_sub {ts S : List Nd} {n e : Nat} (hS : S.length = e - n) (l : List Int) : ∀ m k, n ≤ m → walkC (Wt ts) ts.length l m = some k → k ≤ e →
    (∀ q q', m ≤ q → q < e → Wt ts q = some q' → Wt S (q - n) = some (q' - n)) → walkC (Wt S) S.length (l.map (· + -(n : Int))) (m - n) = some (k - n) := by
  induction l with
  | nil => intro m k _ h _ _; simp only [walkC, Option.some.injEq] at h; subst h; rfl
  | cons c cs ih =>
    intro m k hn h hk hq
    unfold walkC at h
    split at h
    · rename_i hc
      obtain ⟨m', h1, h2⟩ := Option.bind_eq_some_iff.1 h
      have hm' := Wt_le hc.2 h1
      have hk' := walkC_le (fun m k => wt_rec m k) cs m' k hm'.2 h2
      have h3 := hq m m' (Nat.le_refl _) (by omega) h1
      rw [List.map_cons]
      unfold walkC
      rw [if_pos ⟨by show c + -(n : Int) = _; have := hc.1; omega, by omega⟩, h3]
      exact ih m' k (by omega) h2 hk (fun q q' a b c => hq q q' (by omega) b c)
    · cases h
section
variable {ts : List Nd} (hg : Good ts) {n : Nat} (hn : n < ts.length)
include hg hn
theorem sub_kids {i : Nat} (hi : i < En ts n - n) : kids (subN ts n) i = (kids ts (n + i)).map (· + -(n : Int)) := by
  unfold kids
  rw [subN_get hg hn hi]; rfl
theorem wt_sub (d : Nat) : ∀ j, n ≤ j → j < En ts n → En ts n ≤ j + d → Wt (subN ts n) (j - n) = some (En ts j - n) := by
  obtain ⟨h1, h2, h3⟩ := En_spec hg hn
  have hl := subN_len hg hn
  induction d with
  | zero => intro j _ h5 h6; omega
  | succ d ih =>
    intro j h4 h5 h6
    have hj : j < ts.length := by omega
    obtain ⟨ej, hej, hle⟩ := wt_below ts.length n _ hn (by omega) h1 j h4 h5
    have hk := walk_sub (S := subN ts n) (n := n) (e := En ts n) hl (kids ts j) (j + 1) ej (by omega) (wt_kids hj hej) hle (fun q q' a b c => by
      have := ih q (by omega) b (by omega)
      rw [this, En_eq c])
    have hki := sub_kids hg hn (i := j - n) (by omega)
    rw [show n + (j - n) = j by omega] at hki
    rw [Wt_eq (by omega)]
    have hki' : ((subN ts n).getD (j - n) nd0).l = (kids ts j).map (· + -(n : Int)) := hki
    rw [hki', show j - n + 1 = j + 1 - n by omega, hk, En_eq hej]
theorem good_sub : Good (subN ts n) := by
  obtain ⟨h1, h2, h3⟩ := En_spec hg hn
  have hl := subN_len hg hn
  refine ⟨by omega, ?_⟩
  have := wt_sub hg hn ts.length n (Nat.le_refl _) h2 (by omega)
  rw [Nat.sub_self] at this
  rw [this, hl]
theorem asks_sub (hall : ts.all (asksN ts) = true) : (subN ts n).all (asksN (subN ts n)) = true := by
  obtain ⟨h1, h2, h3⟩ := En_spec hg hn
  have hl := subN_len hg hn
  rw [List.all_eq_true]
  intro x hx
  obtain ⟨i, hi, rfl⟩ := List.getElem_of_mem hx
  have hi' : i < En ts n - n := by omega
  have e0 : (subN ts n)[i] = (subN ts n).getD i nd0 := by simp [List.getD_eq_getElem?_getD, hi]
  have hs := good_sub hg hn
  have hkl := good_len hs (n := i) hi
  have hkd := good_down hs i hi
  have hki := sub_kids hg hn hi'
  have ha := List.all_eq_true.1 hall _ (getD_memN (ts := ts) (k := n + i) (by omega))
  obtain ⟨ej, hej, hle⟩ := wt_below ts.length n _ hn (by omega) h1 (n + i) (by omega) (by omega)
  rw [e0]
  unfold kids at hkl hkd hki
  rw [subN_get hg hn hi'] at hkl hkd hki ⊢
  unfold asksN at ha ⊢
  simp only [Bool.and_eq_true, decide_eq_true_eq, List.all_eq_true] at ha ⊢
  obtain ⟨⟨⟨a1, a2⟩, a3⟩, a4⟩ := ha
  refine ⟨⟨⟨a1, by omega⟩, ?_⟩, ?_⟩
  · intro c hc
    have := hkd c hc
    unfold inB
    simp only [Bool.and_eq_true, decide_eq_true_eq]
    omega
  · show askB (ts.getD (n + i) nd0).k (ts.getD (n + i) nd0).n (ts.getD (n + i) nd0).s (((ts.getD (n + i) nd0).l.map (· + -(n : Int))).map (kindOf (subN ts n))) = true
    rw [List.map_map, ← a4]
    congr 1
    refine List.map_congr_left (fun c hc => ?_)
    obtain ⟨q, k', rfl, f2, f3, f4, f5, f6⟩ := kid_mem (show n + i < ts.length by omega) hej hc
    show ((subN ts n).getD ((q : Int) + -(n : Int)).toNat nd0).k = (ts.getD ((q : Int)).toNat nd0).k
    rw [show ((q : Int) + -(n : Int)).toNat = q - n by omega, subN_get hg hn (by omega), show n + (q - n) = q by omega, Int.toNat_natCast]
    rfl
theorem deep_sub : deepN (subN ts n) ≤ deepN ts := by
  obtain ⟨h1, h2, h3⟩ := En_spec hg hn
  have hl := subN_len hg hn
  have hs := good_sub hg hn
  have hd := depths_above hg
  have hds := depths_above hs
  have key : ∀ j, j < En ts n - n → (aboveL (subN ts n)).getD j 0 + (aboveL ts).getD n 0 = (aboveL ts).getD (n + j) 0 := by
    intro j
    induction j using Nat.strongRecOn with
    | _ j ih =>
      intro hj
      rcases Nat.eq_zero_or_pos j with rfl | h0
      · rw [hds.zero, Nat.zero_add]; rfl
      · obtain ⟨p, hp, hm⟩ := good_parent hs (j := j) (by omega) h0
        have hm0 := hm
        rw [sub_kids hg hn (show p < En ts n - n by omega)] at hm
        obtain ⟨c, hc, hce⟩ := List.mem_map.1 hm
        have : c = ((n + j : Nat) : Int) := by omega
        subst this
        rw [hds.step p (by omega) j hm0, hd.step (n + p) (by omega) (n + j) hc, ← ih p hp (by omega)]
        omega
  obtain ⟨j, hj, he⟩ := (deepN_depths hs hds).2
  have h4 := (deepN_depths hg hd).1 (n + j) (by omega)
  have := key j (by omega)
  omega
end
theorem may_sub {ts : List Nd} (h : mayN ts = true) {n : Nat} (hn : n < ts.length) : mayN (subN ts n) = true := by
  obtain ⟨hg, h1, h2, h3⟩ := may_parts h
  have := deep_sub hg hn
  have := En_spec hg hn
  exact may_of (good_sub hg hn) (by rw [subN_len hg hn]; omega) (asks_sub hg hn h2) (by omega)
theorem shN_back (q : Nat) (x : Nd) : shN (q : Int) (shN (-(q : Int)) x) = x := by
  obtain ⟨k, at_, n, s, l⟩ := x
  simp only [shN, List.map_map, Nd.mk.injEq, true_and]
  have : ((fun x => x + (q : Int)) ∘ fun x => x + -(q : Int)) = id := by funext y; simp; omega
  rw [this, List.map_id]
theorem subT_ok' {ts : List Nd} {n : Int} (hok : ∀ x ∈ ts, NdOk x) : ∀ x ∈ subT ts n, NdOk x := by
  unfold subT
  split
  · rename_i h
    intro x hx
    obtain ⟨y, hy, rfl⟩ := List.mem_map.1 hx
    have hyo := hok y (mem_part hy)
    refine ⟨hyo.k, hyo.at1, hyo.at2, hyo.n1, hyo.n2, hyo.s, fun c hc => ?_⟩
    obtain ⟨c0, hc0, rfl⟩ := List.mem_map.1 hc
    unfold subOk at h
    simp only [Bool.and_eq_true, decide_eq_true_eq] at h
    obtain ⟨hg, hl, -, -⟩ := may_parts h.1.1
    obtain ⟨i, h1, h2, rfl⟩ := kids_of_mem hy
    have := good_down hg i h2 c0 hc0
    omega
  · intro x hx; cases hx
theorem sub_zero {ts : List Nd} (hg : Good ts) : subN ts 0 = ts := by
  unfold subN
  rw [En_eq hg.2, List.drop_zero, Nat.sub_zero, List.take_of_length_le (Nat.le_refl _)]
  have : shN (-((0 : Nat) : Int)) = id := by
    funext x
    obtain ⟨k, at_, n, s, l⟩ := x
    simp [shN]
  rw [this, List.map_id]
theorem subT_of {ts : List Nd} (h : mayN ts = true) {n : Int} (h0 : 0 ≤ n) (h1 : n < (ts.length : Int)) : subT ts n = subN ts n.toNat ∧ subE ts n = 0 := by
  unfold subT subE subOk
  rw [h]
  simp [h0, h1]
theorem subT_not {ts : List Nd} {n : Int} (h : n < 0 ∨ (ts.length : Int) ≤ n) : subT ts n = [] ∧ subE ts n = 2 := by
  have : subOk ts n = false := by
    unfold subOk
    rcases h with h | h
    · simp [show ¬ 0 ≤ n by omega]
    · simp [show ¬ n < (ts.length : Int) by omega]
  unfold subT subE
  rw [this]
  exact ⟨rfl, rfl⟩
end Go.Proofs.YtoophdcagpfmpaaGreatDoor

namespace Go.Proofs.YtoophdcagpfmpaaGreatDoor
open Go.RowKit

def Stands (a b : ByteArray) : Prop := ∃ p q, b = p ++ a ++ q
theorem Stands.refl (a : ByteArray) : Stands a a := ⟨ByteArray.empty, ByteArray.empty, by simp⟩
theorem Stands.trans {a b c : ByteArray} (h : Stands a b) (k : Stands b c) : Stands a c := by
  obtain ⟨p, q, rfl⟩ := h
  obtain ⟨r, s, rfl⟩ := k
  exact ⟨r ++ p, q ++ s, by simp only [ByteArray.append_assoc]⟩
theorem Stands.left {a b : ByteArray} (h : Stands a b) (s : ByteArray) : Stands a (b ++ s) := h.trans ⟨ByteArray.empty, s, by simp⟩
theorem Stands.right {a b : ByteArray} (h : Stands a b) (s : ByteArray) : Stands a (s ++ b) := h.trans ⟨s, ByteArray.empty, by simp⟩
theorem Stands.size {a b : ByteArray} (h : Stands a b) : a.size ≤ b.size := by
  obtain ⟨p, q, rfl⟩ := h
  simp only [ByteArray.size_append]; omega
set_option maxRecDepth 100000 in
set_option maxHeartbeats 4000000 in
theorem within_any (a b : ByteArray) (hst : Stands a b) (hb : b.size ≤ 1000000) (w : World) :
    Calls Tryz.prog 28 #[.string a, .string b] w fun e w' => e = .returned (.bool true) ∧ KB F0 w w' := by
  obtain ⟨w0, rfl⟩ : ∃ w0, w0 = w := ⟨_, rfl⟩
  obtain ⟨P, hP1, hP2⟩ : ∃ P, P + a.size ≤ b.size ∧ b.extract P (P + a.size) = a := by
    obtain ⟨p, q, rfl⟩ := hst
    refine ⟨p.size, by simp only [ByteArray.size_append]; omega, ?_⟩
    apply ByteArray.ext
    apply Array.toList_inj.1
    rw [ByteArray.data_extract, ByteArray.data_append, ByteArray.data_append, Array.toList_extract, Array.toList_append, Array.toList_append]
    have h1 : p.size = p.data.toList.length := by rw [Array.length_toList]; rfl
    have h2 : a.size = a.data.toList.length := by rw [Array.length_toList]; rfl
    rw [h1, h2, List.append_assoc, List.extract_eq_take_drop, List.drop_left, Nat.add_sub_cancel_left, List.take_left]
  have HP := Lib.hid hP2
  clear hst hP2
  go_enter Tryz.func28, Tryz.ntmps28
  go_wp2_with fail
  go_loopw [5] (fun kv wr => ∃ k : Nat, k ≤ P ∧ kv = .int .i64 (k : Nat) ∧ Hid (KB F0 w0 wr)) (fun kv _ => P - (intOf kv).toNat)
  case atStart => exact ⟨0, by omega, rfl, Lib.hid (KB.refl _ _)⟩
  case round =>
    obtain ⟨k, hk, rfl, hst⟩ := hrel
    have hks : k + a.size ≤ b.size := by omega
    cases heq : ((b.extract k (k + a.size)).toList == a.toList)
    case true =>
      go_wp2_with fail
      go_ret
      exact ⟨rfl, hst.out⟩
    case false =>
      have hne : k < P := by
        rcases Nat.lt_or_eq_of_le hk with h | rfl
        · exact h
        · rw [HP.out] at heq
          simp at heq
      go_wp2_with fail
      go_roundw
      case rel => exact ⟨k + 1, by omega, by go_num, hst⟩
      case measure => simp [intOf]; omega
end Go.Proofs.YtoophdcagpfmpaaGreatDoor
