/- The walks of loanwordref26: block, Count, IsTaken, Give. -/
import Derived.Test.YtnfoabccbkedgaaRefHeap
namespace Go.Proofs.Ytnfoabccbkedgaa
open Go.RowKit

theorem wblk_of_hblk {x : Int} {c n : Nat} (h : hblk x = some (c, n)) : clsRes x = .tuple #[.int .i64 (c : Nat), .int .i64 (n : Nat), .bool true] := by
  obtain ⟨hc, hn, hx⟩ := hblk_some h
  unfold clsRes
  rw [wblk_yes hc hn ⟨by omega, by have := Nat.two_pow_pos c; omega⟩]
theorem clsRes_hno {x : Int} (h : hblk x = none) : clsRes x = .tuple #[.int .i64 0, .int .i64 0, .bool false] ∨
    ∃ c n A : Nat, c < 5 ∧ n < 12 ∧ A = hb c + n * 2 ^ c ∧ clsRes x = .tuple #[.int .i64 (c : Nat), .int .i64 (n : Nat), .bool true] ∧ ((A : Int) == x) = false := by
  unfold clsRes
  by_cases hr : x < 1 ∨ 372 < x
  · left; unfold wblk; rw [if_pos hr]
  · right
    obtain ⟨h1, h2, h3, h4⟩ := inBlk_wcls x.toNat (by omega) (by omega)
    refine ⟨wcls x.toNat, (x.toNat - hb (wcls x.toNat)) / 2 ^ wcls x.toNat, _, h3, h4, rfl, ?_, ?_⟩
    · unfold wblk; rw [if_neg hr]
    · rw [beq_eq_false_iff_ne]
      intro e
      have := hblk_addr h3 h4
      rw [e, h] at this
      cases this

set_option maxRecDepth 100000 in
set_option maxHeartbeats 1000000 in
theorem rblock_yes (x : Int) (c n : Nat) (h : hblk x = some (c, n)) (w : World) :
    Calls Try.prog 32 #[.int .i64 x] w fun e w' => e = .returned (.tuple #[.int .i64 (c : Nat), .int .i64 (n : Nat), .bool true]) ∧ ∃ m, w' = w.drewN m := by
  obtain ⟨hc, hn, hx⟩ := hblk_some h
  have Hr := Lib.hid (wblk_of_hblk h)
  obtain ⟨A, hA⟩ : ∃ A, A = hb c + n * 2 ^ c := ⟨_, rfl⟩
  have Ha := Lib.hid (fun w => raddr_any c hc n (by omega) w)
  rw [← hA] at Ha hx
  clear hA h
  subst hx
  go_enter Try.func32, Try.ntmps32
  go_wp2_with fail
  refine (rclass_any _ _).mono ?_
  rintro e w' ⟨rfl, m, rfl⟩
  rw [Hr.out]
  go_wp2_with fail
  refine (Ha.out _).mono ?_
  rintro e w' ⟨rfl, m2, rfl⟩
  go_wp2
  go_ret3
  exact ⟨rfl, by first | exact ⟨_, rfl⟩ | exact ⟨_, drewN_drewN _ _ _⟩⟩
set_option maxRecDepth 100000 in
set_option maxHeartbeats 1000000 in
theorem rblock_no (x : Int) (h : hblk x = none) (w : World) : Calls Try.prog 32 #[.int .i64 x] w (BlkNo w) := by
  rcases clsRes_hno h with hr | ⟨c, n, A, hc, hn, hA, hr, hne⟩
  · have Hr := Lib.hid hr
    clear hr h
    go_enter Try.func32, Try.ntmps32
    go_wp2_with fail
    refine (rclass_any _ _).mono ?_
    rintro e w' ⟨rfl, m, rfl⟩
    rw [Hr.out]
    go_wp2
    go_ret3
    exact ⟨_, _, rfl, _, rfl⟩
  · have Hr := Lib.hid hr
    have Ha := Lib.hid (fun w => raddr_any c hc n (by omega) w)
    rw [← hA] at Ha
    clear hr h hA
    go_enter Try.func32, Try.ntmps32
    go_wp2_with fail
    refine (rclass_any _ _).mono ?_
    rintro e w' ⟨rfl, m, rfl⟩
    rw [Hr.out]
    go_wp2_with fail
    refine (Ha.out _).mono ?_
    rintro e w' ⟨rfl, m2, rfl⟩
    go_wp2
    go_ret3
    exact ⟨_, _, rfl, by first | exact ⟨_, rfl⟩ | exact ⟨_, drewN_drewN _ _ _⟩⟩

/-- The cells of a loanwordref26.Heap. -/
def xarr (s : HS) : Array Value := ((List.range 60).map (fun j => Value.bool (s.T (j / 12) (j % 12))) ++ (List.range 5).map (fun c => Value.int .i64 (s.M c))).toArray
def IX (w : World) (b : Nat) (s : HS) : Prop := w.heap[b]? = some (.cells (xarr s) 31 (0, 0)) ∧ ∀ c, c < 5 → s.M c ≤ 12
theorem xarr_size (s : HS) : (xarr s).size = 65 := by simp [xarr]
theorem xarr_T (s : HS) {c n : Nat} (hc : c < 5) (hn : n < 12) : (xarr s)[c * 12 + n]? = some (.bool (s.T c n)) := by
  unfold xarr
  rw [List.getElem?_toArray, List.getElem?_append_left (by simp; omega)]
  simp [show c * 12 + n < 60 by omega, show (c * 12 + n) / 12 = c by omega, show (c * 12 + n) % 12 = n by omega]
theorem xarr_M (s : HS) {c : Nat} (hc : c < 5) : (xarr s)[60 + c]? = some (.int .i64 (s.M c)) := by
  unfold xarr
  rw [List.getElem?_toArray, List.getElem?_append_right (by simp)]
  simp [hc]
theorem xarr_ext {a : Array Value} {s : HS} (h0 : a.size = 65) (h1 : ∀ c n, c < 5 → n < 12 → a[c * 12 + n]? = some (.bool (s.T c n))) (h2 : ∀ c, c < 5 → a[60 + c]? = some (.int .i64 (s.M c))) : a = xarr s := by
  apply Array.ext_getElem?
  intro i
  by_cases hi : i < 60
  · have := h1 (i / 12) (i % 12) (by omega) (by omega)
    rw [show i / 12 * 12 + i % 12 = i by omega] at this
    have h3 := xarr_T s (c := i / 12) (n := i % 12) (by omega) (by omega)
    rw [show i / 12 * 12 + i % 12 = i by omega] at h3
    rw [this, h3]
  · by_cases hi2 : i < 65
    · have := h2 (i - 60) (by omega)
      rw [show 60 + (i - 60) = i by omega] at this
      have h3 := xarr_M s (c := i - 60) (by omega)
      rw [show 60 + (i - 60) = i by omega] at h3
      rw [this, h3]
    · rw [Array.getElem?_eq_none (by omega), Array.getElem?_eq_none (by rw [xarr_size]; omega)]
theorem xarr_setT (s : HS) {c n : Nat} (hc : c < 5) (hn : n < 12) (v : Bool) : (xarr s).setIfInBounds (c * 12 + n) (.bool v) = xarr ⟨upc s.T c (up (s.T c) n v), s.M⟩ := by
  apply xarr_ext
  · simp [xarr_size]
  · intro c' n' hc' hn'
    by_cases e : c' = c ∧ n' = n
    · obtain ⟨rfl, rfl⟩ := e
      rw [Array.getElem?_setIfInBounds]
      simp [xarr_size, upc, up]; omega
    · rw [Array.getElem?_setIfInBounds_ne (by omega), xarr_T s hc' hn']
      simp only [upc, up]
      by_cases e1 : c' = c
      · subst e1; rw [if_pos rfl]; unfold up; rw [if_neg (fun h => e ⟨rfl, h⟩)]
      · rw [if_neg e1]
  · intro c' hc'
    rw [Array.getElem?_setIfInBounds_ne (by omega), xarr_M s hc']
theorem xarr_setM (s : HS) {c : Nat} (hc : c < 5) (m : Nat) : (xarr s).setIfInBounds (60 + c) (.int .i64 m) = xarr ⟨s.T, upc s.M c m⟩ := by
  apply xarr_ext
  · simp [xarr_size]
  · intro c' n' hc' hn'
    rw [Array.getElem?_setIfInBounds_ne (by omega), xarr_T s hc' hn']
  · intro c' hc'
    by_cases e : c' = c
    · subst e
      rw [Array.getElem?_setIfInBounds]
      simp [xarr_size, upc]; omega
    · rw [Array.getElem?_setIfInBounds_ne (by omega), xarr_M s hc']
      simp [upc, e]
theorem IX.cellT {w : World} {b : Nat} {s : HS} (h : IX w b s) {c n : Nat} (hc : c < 5) (hn : n < 12) : w.cell? ⟨b, c * 12 + n, none⟩ = some (.bool (s.T c n)) := by
  simp only [World.cell?, h.1]; exact xarr_T s hc hn
theorem IX.cellM {w : World} {b : Nat} {s : HS} (h : IX w b s) {c : Nat} (hc : c < 5) : w.cell? ⟨b, 60 + c, none⟩ = some (.int .i64 (s.M c)) := by
  simp only [World.cell?, h.1]; exact xarr_M s hc
theorem IX.frozen {w : World} {b : Nat} {s : HS} (h : IX w b s) (o : Nat) : w.frozen? ⟨b, o, none⟩ = false := by simp [World.frozen?, h.1]
theorem IX.kb {S : Nat → Prop} {w w' : World} {b : Nat} {s : HS} (h : IX w b s) (hk : KB S w w') (hb : ¬ S b) : IX w' b s := ⟨hk.heap hb h.1, h.2⟩
theorem IX.setT {w : World} {b : Nat} {s : HS} (h : IX w b s) {c n : Nat} (hc : c < 5) (hn : n < 12) (v : Bool) :
    IX (w.setCell ⟨b, c * 12 + n, none⟩ (.bool v)) b ⟨upc s.T c (up (s.T c) n v), s.M⟩ := by
  refine ⟨?_, h.2⟩
  rw [setCell_heap h.1, xarr_setT s hc hn]
theorem IX.setM {w : World} {b : Nat} {s : HS} (h : IX w b s) {c : Nat} (hc : c < 5) (m : Nat) (hm : m ≤ 12) :
    IX (w.setCell ⟨b, 60 + c, none⟩ (.int .i64 m)) b ⟨s.T, upc s.M c m⟩ := by
  refine ⟨?_, fun k hk => by simp only [upc]; split; exact hm; exact h.2 k hk⟩
  rw [setCell_heap h.1, xarr_setM s hc]

theorem cnt_upto_succ (f : Nat → Bool) (k : Nat) : (List.range (k + 1)).countP f = (List.range k).countP f + if f k then 1 else 0 := by
  rw [List.range_succ, List.countP_append]; simp [List.countP_cons]

set_option maxRecDepth 100000 in
set_option maxHeartbeats 1000000 in
theorem rcount_any (b : Nat) (s : HS) (c : Nat) (hc : c < 5) (w : World) (h : IX w b s) :
    Calls Try.prog 29 #[.pointer (some ⟨b,0,none⟩), .int .i64 c] w fun e w' => e = .returned (.int .i64 (cnt (s.T c) : Nat)) ∧ w = w' := by
  have Hc := Lib.hid (fun n (hn : n < 12) => h.cellT hc hn)
  obtain ⟨f, hf⟩ : ∃ f, f = s.T c := ⟨_, rfl⟩
  rw [← hf] at Hc ⊢
  have hc4 : (c : Int) ≤ 4 := by omega
  clear hf h
  go_enter Try.func29, Try.ntmps29
  go_wp2
  go_loop [5, 6] (fun n i => ∃ k : Nat, k ≤ 12 ∧ i = .int .i64 k ∧ n = .int .i64 ((List.range k).countP f : Nat)) (fun _ i => 12 - (intOf i).toNat)
  case atStart => exact ⟨0, by omega, rfl, rfl⟩
  case round =>
    obtain ⟨k, hk, rfl, rfl⟩ := hrel
    by_cases hlt : k < 12
    · have ck := Hc.out k hlt
      have hs := Lib.hid (cnt_upto_succ f k)
      obtain ⟨N, hN⟩ : ∃ N, N = (List.range k).countP f := ⟨_, rfl⟩
      have hNk : (N : Int) ≤ 12 := by
        have : (List.range k).countP f ≤ (List.range k).length := List.countP_le_length
        simp at this; omega
      rw [← hN] at hs ⊢
      clear hN
      cases hfk : f k
      · rw [hfk] at ck
        go_wp2
        go_round
        case rel => exact ⟨k + 1, by omega, by go_num, by rw [hs.out, hfk]; rfl⟩
        case measure => simp [intOf]; omega
      · rw [hfk] at ck
        go_wp2
        go_round
        case rel => exact ⟨k + 1, by omega, by go_num, by rw [hs.out, hfk]; go_num⟩
        case measure => simp [intOf]; omega
    · obtain rfl : k = 12 := by omega
      go_wp2
      go_ret
      exact ⟨rfl, rfl⟩
end Go.Proofs.Ytnfoabccbkedgaa
