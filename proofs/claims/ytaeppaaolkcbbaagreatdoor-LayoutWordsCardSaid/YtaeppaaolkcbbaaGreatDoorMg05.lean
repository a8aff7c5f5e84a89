/- types.endless. types.words, loanwordref09.words. -/
import Derived.Test.YtaeppaaolkcbbaaGreatDoorMg04
import Derived.Deep.DeepCutAuto
namespace Go.Proofs.YtaeppaaolkcbbaaGreatDoor
open Go.RowKit

structure EndSt (S : List (List Ty)) (n : Nat) (w0 : World) (X : Nat) (wr : World) (v : Value) (ws : List Nat) (M : List Bool) (g : Nat) : Prop where
 kb : KB F0 w0 wr
 lo : w0.heap.size ≤ X
 arr : ArrAt wr X M
 q : ∃ gb o cap, QRow wr w0.heap.size v ws gb o cap
 met : Met S n M
 ok : ∀ u ∈ ws, (u = n ∨ Rch S n u) ∧ u < S.length
 bnd : 2 * left M + ws.length ≤ g
structure InSt (S : List (List Ty)) (n k i : Nat) (w0 : World) (X : Nat) (wr : World) (v : Value) (ws : List Nat) (M : List Bool) (g : Nat) : Prop where
 st : EndSt S n w0 X wr v ws M g
 shut : Shut S n M (fun u => u ∈ ws ∨ u = k)
 done : ∀ j, j < i → ((fds S k).getD j ty0).k = 5 → atB M ((fds S k).getD j ty0).s.toNat = true
theorem EndSt.kbF {S : List (List Ty)} {n : Nat} {w0 : World} {X : Nat} {wr w' : World} {v : Value} {ws : List Nat} {M : List Bool} {g : Nat} (h : EndSt S n w0 X wr v ws M g) (hk : KB F0 wr w') : EndSt S n w0 X w' v ws M g :=
 ⟨h.kb.trans hk, h.lo, h.arr.kbF hk, (by obtain ⟨a, b, c, hq⟩ := h.q; exact ⟨a, b, c, hq.kbF hk⟩), h.met, h.ok, h.bnd⟩
theorem InSt.kbF {S : List (List Ty)} {n k i : Nat} {w0 : World} {X : Nat} {wr w' : World} {v : Value} {ws : List Nat} {M : List Bool} {g : Nat} (h : InSt S n k i w0 X wr v ws M g) (hk : KB F0 wr w') : InSt S n k i w0 X w' v ws M g :=
 ⟨h.st.kbF hk, h.shut, h.done⟩
theorem InSt.pass {S : List (List Ty)} {n k i : Nat} {w0 : World} {X : Nat} {wr : World} {v : Value} {ws : List Nat} {M : List Bool} {g : Nat} (h : InSt S n k i w0 X wr v ws M g)
  (hp : ((fds S k).getD i ty0).k = 5 → atB M ((fds S k).getD i ty0).s.toNat = true) : InSt S n k (i + 1) w0 X wr v ws M g :=
 ⟨h.st, h.shut, fun j hj => by rcases Nat.lt_or_eq_of_le (Nat.lt_succ_iff.1 hj) with h1 | rfl; exact h.done j h1; exact hp⟩
theorem getD_mem {l : List Ty} {i : Nat} (h : i < l.length) : l.getD i ty0 ∈ l := by
 rw [List.getD_eq_getElem?_getD, List.getElem?_eq_getElem h]; exact List.getElem_mem h
theorem InSt.close {S : List (List Ty)} {n k : Nat} {w0 : World} {X : Nat} {wr : World} {v : Value} {ws : List Nat} {M : List Bool} {g : Nat} (h : InSt S n k (fds S k).length w0 X wr v ws M g) : Shut S n M (· ∈ ws) := by
 intro u hu
 rcases h.shut u hu with (h1 | rfl) | h1
 ·exact Or.inl h1
 ·refine Or.inr (fun f hf hk => ?_)
  obtain ⟨j, hj, rfl⟩ := List.getElem_of_mem hf
  have := h.done j hj
  rw [List.getD_eq_getElem?_getD, List.getElem?_eq_getElem hj] at this
  exact this hk
 ·exact Or.inr h1
theorem InSt.meet {S : List (List Ty)} (hS : InR S) (h32 : S.length ≤ 32) {n k i : Nat} {w0 : World} {X : Nat} {wr w' : World} {v v' : Value} {ws : List Nat} {M : List Bool} {g : Nat} (h : InSt S n k i w0 X wr v ws M g)
  (hi : i < (fds S k).length) (hf : ((fds S k).getD i ty0).k = 5) {j : Nat} (hj : ((fds S k).getD i ty0).s.toNat = j) (hn : atB M j = false) (hkr : k = n ∨ Rch S n k)
  (hk : KB F0 w0 w') (ha : ArrAt w' X (M.set j true)) {gb o cap : Nat} (hq : QRow w' w0.heap.size v' (ws ++ [j]) gb o cap) : InSt S n k (i + 1) w0 X w' v' (ws ++ [j]) (M.set j true) g := by
 have hm := getD_mem hi
 have hjl : j < S.length := hj ▸ hS.lt hm hf
 have hr : Rch S n j := by
  rcases hkr with rfl | hr
  ·exact hj ▸ Rch.one hm hf
  ·exact hj ▸ Rch.more hr hm hf
 have hjM : j < M.length := by rw [h.st.met.len]; omega
 refine ⟨⟨hk, h.st.lo, ha, ⟨gb, o, cap, hq⟩, h.st.met.set (by omega) hr, fun u hu => ?_, ?_⟩, fun u hu => ?_, fun q hq' hk5 => ?_⟩
 ·rcases List.mem_append.1 hu with hu | hu
  ·exact h.st.ok u hu
  ·simp only [List.mem_cons, List.not_mem_nil, or_false] at hu
   subst hu; exact ⟨Or.inr hr, hjl⟩
 ·have := left_set hjM hn
  have := h.st.bnd
  rw [List.length_append, List.length_cons, List.length_nil]; omega
 ·have hu' : u = n ∨ atB M u = true ∨ u = j := by
   rcases hu with hu | hu
   ·exact Or.inl hu
   ·rw [atB_set hjM] at hu
    simp only [Bool.or_eq_true, decide_eq_true_eq] at hu
    exact Or.inr hu
  have key : (u = n ∨ atB M u = true) → (u ∈ ws ++ [j] ∨ u = k) ∨ ∀ f ∈ fds S u, f.k = 5 → atB (M.set j true) f.s.toNat = true := fun hu => by
   rcases h.shut u hu with (h1 | h1) | h1
   ·exact Or.inl (Or.inl (List.mem_append_left _ h1))
   ·exact Or.inl (Or.inr h1)
   ·exact Or.inr (fun f hf hk => by rw [atB_set hjM, h1 f hf hk]; rfl)
  rcases hu' with hu | hu | rfl
  ·exact key (Or.inl hu)
  ·exact key (Or.inr hu)
  ·exact Or.inl (Or.inl (List.mem_append_right _ (by simp)))
 ·rw [atB_set hjM]
  rcases Nat.lt_or_eq_of_le (Nat.lt_succ_iff.1 hq') with h1 | rfl
  ·rw [h.done q h1 hk5]; rfl
  ·rw [hj]; simp
set_option maxRecDepth 100000 in
set_option maxHeartbeats 32000000 in
theorem tyEndless_any (S : List (List Ty)) (hS : InR S) (h32 : S.length ≤ 32) (h8 : ∀ i, (fds S i).length ≤ 100) (n d : Nat) (hn : n < S.length) (a : Option Addr) (c : Nat) (hc : S.length ≤ c) (w : World) (h : StsAt d w a S) :
  Calls Tryz.prog 70 #[.slice a S.length c, .int .i64 n] w fun e w' => e = .returned (.bool (endB S n)) ∧ KB F0 w w' := by
 obtain ⟨w0, rfl⟩ : ∃ w0, w0 = w := ⟨_, rfl⟩
 obtain ⟨W1, hW1⟩ : ∃ W, W = w0.alloc (.cells #[Value.bool false, Value.bool false, Value.bool false, Value.bool false, Value.bool false, Value.bool false, Value.bool false, Value.bool false, Value.bool false, Value.bool false, Value.bool false, Value.bool false, Value.bool false, Value.bool false, Value.bool false, Value.bool false, Value.bool false, Value.bool false, Value.bool false, Value.bool false, Value.bool false, Value.bool false, Value.bool false, Value.bool false, Value.bool false, Value.bool false, Value.bool false, Value.bool false, Value.bool false, Value.bool false, Value.bool false, Value.bool false] 161) := ⟨_, rfl⟩
 have k1 := (KB.refl F0 w0).alloc (.cells #[Value.bool false, Value.bool false, Value.bool false, Value.bool false, Value.bool false, Value.bool false, Value.bool false, Value.bool false, Value.bool false, Value.bool false, Value.bool false, Value.bool false, Value.bool false, Value.bool false, Value.bool false, Value.bool false, Value.bool false, Value.bool false, Value.bool false, Value.bool false, Value.bool false, Value.bool false, Value.bool false, Value.bool false, Value.bool false, Value.bool false, Value.bool false, Value.bool false, Value.bool false, Value.bool false, Value.bool false, Value.bool false] 161)
 have b1 : ArrAt (w0.alloc (.cells #[Value.bool false, Value.bool false, Value.bool false, Value.bool false, Value.bool false, Value.bool false, Value.bool false, Value.bool false, Value.bool false, Value.bool false, Value.bool false, Value.bool false, Value.bool false, Value.bool false, Value.bool false, Value.bool false, Value.bool false, Value.bool false, Value.bool false, Value.bool false, Value.bool false, Value.bool false, Value.bool false, Value.bool false, Value.bool false, Value.bool false, Value.bool false, Value.bool false, Value.bool false, Value.bool false, Value.bool false, Value.bool false] 161)) w0.heap.size (List.replicate 32 false) := alloc_new _ _
 rw [← hW1] at k1 b1
 have hs1 : W1.heap.size = w0.heap.size + 1 := by rw [hW1]; simp
 obtain ⟨W2, hW2⟩ : ∃ W, W = W1.alloc (.cells #[.int .i64 (n : Nat)] 3) := ⟨_, rfl⟩
 have k2 := (KB.refl F0 W1).alloc (.cells #[.int .i64 (n : Nat)] 3)
 have b2 := alloc_new W1 (.cells #[.int .i64 (n : Nat)] 3)
 rw [← hW2] at k2 b2
 have q2 : QRow W2 w0.heap.size (.slice (some ⟨W1.heap.size, 0, none⟩) 1 1) [n] W1.heap.size 0 1 := ⟨rfl, Nat.le_refl _, by unfold maxLen; omega, k1.size, fun j hj => by
   simp only [List.length_cons, List.length_nil] at hj
   obtain rfl : j = 0 := by omega
   exact blk_cell b2 0, fun j hj => by
   obtain rfl : j = 0 := by omega
   exact ⟨by rw [blk_cell b2 (0 + 0)]; rfl, blk_frozen b2 _⟩, _, b2⟩
 have st0 : EndSt S n w0 w0.heap.size W2 (.slice (some ⟨W1.heap.size, 0, none⟩) 1 1) [n] (List.replicate 32 false) 65 :=
  ⟨k1.trans k2, Nat.le_refl _, b1.kbF k2, ⟨_, _, _, q2⟩, met_start S n, fun u hu => by
   simp only [List.mem_cons, List.not_mem_nil, or_false] at hu
   subst hu; exact ⟨Or.inl rfl, hn⟩, by simp [left]⟩
 have sh0 : Shut S n (List.replicate 32 false) (· ∈ [n]) := fun u hu => by
  rcases hu with rfl | hu
  ·exact Or.inl (by simp)
  ·rw [atB_rep] at hu; cases hu
 have HST := Lib.hid (And.intro st0 sh0)
 have HH := Lib.hid (And.intro h (And.intro hS (And.intro h32 h8)))
 have HW := Lib.hid (And.intro hW1 hW2)
 obtain ⟨LS, hLS⟩ : ∃ L, L = S.length := ⟨_, rfl⟩
 have HLS := Lib.hid hLS
 have hn' : n < LS := by rw [hLS]; exact hn
 rw [← hLS] at hc h32 ⊢
 have HN := Lib.hid hn
 clear k1 b1 hs1 k2 b2 q2 st0 sh0 hW1 hW2 h hS hLS h8 hn
 go_enter Tryz.func70, Tryz.ntmps70
 go_upto_region 2 with fail
 rw [← HW.out.1]
 go_wp2_with fail
 rw [← HW.out.2]
 go_loopg [6] 65 (fun g v wr => g ≤ 65 ∧ ∃ ws M, Hid (EndSt S n w0 w0.heap.size wr v ws M g ∧ Shut S n M (· ∈ ws)))
 case atStart => exact ⟨Nat.le_refl _, [n], _, Lib.hid HST.out⟩
 case round =>
  obtain ⟨hg65, ws, M, hst⟩ := hrel
  obtain ⟨wo, rfl⟩ : ∃ wo : World, wo = wr := ⟨_, rfl⟩
  obtain ⟨gb, o, cap, hq⟩ := hst.out.1.q
  cases ws with
  | nil =>
   have hv := hq.val
   simp only [List.length_nil] at hv
   subst hv
   have hn32 : n < M.length := by rw [hst.out.1.met.len]; omega
   have hcn := hst.out.1.arr.cell hn32
   have hfin : atB M n = endB S n := hst.out.1.met.end_ (fun u hu => Or.inr ((hst.out.2 u hu).resolve_left (fun h => by cases h)))
   rw [hfin] at hcn
   have hn3 : (n : Int) < 32 := by omega
   have hn4 : n < 32 := by omega
   have HK := Lib.hid hst.out.1.kb
   clear hst hq hfin hn32
   go_wp2_with fail
   go_ret
   exact ⟨rfl, HK.out⟩
  | cons u ws =>
   have hu := hst.out.1.ok u List.mem_cons_self
   have hv := hq.val
   obtain ⟨L, hL⟩ : ∃ L, L = (u :: ws).length := ⟨_, rfl⟩
   rw [← hL] at hv
   have hLp : 0 < L := by rw [hL]; simp
   have hLc : L ≤ cap := by rw [hL]; exact hq.le
   have hL0 : (0 : Int) < (L : Int) := by omega
   have hL1 : (1 : Int) ≤ (L : Int) := by omega
   have hLci : (L : Int) ≤ (cap : Int) := by omega
   have dL : decide ((0 : Int) < (L : Int)) = true := decide_eq_true hL0
   have cu : wo.cell? ⟨gb, o, none⟩ = some (.int .i64 (u : Nat)) := hq.at_ 0 (by simp)
   have HQ : Hid (∀ wx, wx = wo → ((cap = 1 → ws = [] ∧ QRow wx w0.heap.size (.slice (some ⟨gb, o, none⟩) 0 0) [] gb o 0 ∧ L = 1) ∧ (cap ≠ 1 → QRow wx w0.heap.size (.slice (some ⟨gb, o + 1, none⟩) (L - 1) (cap - 1)) ws gb (o + 1) (cap - 1)))) := Lib.hid (fun wx hx => by
    subst hx
    refine ⟨fun h1 => ?_, fun h1 => ?_⟩
    ·subst h1
     exact ⟨(hq.tail1).1, (hq.tail1).2, by omega⟩
    ·have := hq.tail h1
     rw [show L - 1 = ws.length by rw [hL]; simp]
     exact this)
   obtain ⟨sb, so, snm, sfa, sfc, rfl, -, hsl, hsc, hfd⟩ := HH.out.1 u hu.2
   have hsl := hst.out.1.kb.cell (p := ⟨sb, so + u * 2 + 1, none⟩) (fun x => x) hsl
   obtain ⟨F, hF⟩ : ∃ F, F = S.getD u [] := ⟨_, rfl⟩
   rw [← hF] at hsl hsc hfd
   obtain ⟨Lf, hLf⟩ : ∃ L, L = F.length := ⟨_, rfl⟩
   rw [← hLf] at hsl hsc
   have huL : u < LS := by rw [HLS.out]; exact hu.2
   have huI : (u : Int) < (LS : Int) := by omega
   have HU := Lib.hid (And.intro hu.1 (And.intro hF (And.intro hLf (And.intro hsc hfd))))
   subst hv
   have hLf100 : Lf ≤ 100 := by rw [hLf, hF]; exact HH.out.2.2.2 u
   clear hu hq hfd hF hLf hL
   go_upto_region 5 with fail
   go_cut [6] from 12 to 51 (fun v wc => wc = wo ∧ ∃ gb o cap, QRow wo w0.heap.size v ws gb o cap)
   case first =>
    by_cases hc1 : cap = 1
    ·obtain ⟨e1, e2, e3⟩ := (HQ.out _ rfl).1 hc1
     have HQ1 := Lib.hid e2
     subst hc1 e1 e3
     clear e2
     go_wp2_with fail
     go_meet
     exact ⟨rfl, _, _, _, HQ1.out⟩
    ·have HQ1 := Lib.hid ((HQ.out _ rfl).2 hc1)
     go_wp2_with fail
     go_meet
     exact ⟨rfl, _, _, _, HQ1.out⟩
   case rest =>
    obtain ⟨rfl, gb', o', cap', hq⟩ := hcut
    obtain ⟨g1, hg1⟩ : ∃ g1, gk = g1 + 1 := ⟨gk - 1, by have := hst.out.1.bnd; simp only [List.length_cons] at this; omega⟩
    have HI : Hid (InSt S n u 0 w0 w0.heap.size wc u6 ws M g1) := Lib.hid ⟨⟨hst.out.1.kb, hst.out.1.lo, hst.out.1.arr, ⟨_, _, _, hq⟩, hst.out.1.met, fun x hx => hst.out.1.ok x (List.mem_cons_of_mem _ hx), by
     have := hst.out.1.bnd; simp only [List.length_cons] at this; omega⟩, fun x hx => by
     rcases hst.out.2 x hx with h1 | h1
     ·rcases List.mem_cons.1 h1 with rfl | h1
      ·exact Or.inl (Or.inr rfl)
      ·exact Or.inl (Or.inl h1)
     ·exact Or.inr h1, fun j hj => by omega⟩
    obtain ⟨w3, rfl⟩ : ∃ w, w = wc := ⟨_, rfl⟩
    clear hq hst HQ cu
    subst hg1
    go_wp2_with fail
    go_loopg [26, 6] Lf (fun g2 iv v wr => ∃ i ws M, i ≤ Lf ∧ g2 = Lf - i ∧ iv = .int .i64 (i : Nat) ∧ Hid (InSt S n u i w0 w0.heap.size wr v ws M g1))
    case atStart => exact ⟨0, ws, M, by omega, by omega, rfl, HI⟩
    case round =>
     obtain ⟨i, ws2, M2, hi, rfl, rfl, hin⟩ := hrel
     by_cases hlt : i < Lf
     ·have hiI : (i : Int) < (Lf : Int) := by omega
      have dI : decide ((i : Int) < (Lf : Int)) = true := decide_eq_true hiI
      obtain ⟨fb, fo, fnm, fa', fc', rfl, hnm, hty, -⟩ := HU.out.2.2.2.2 i (by rw [← HU.out.2.2.1]; exact hlt)
      have hkb := hin.out.st.kb
      have n0 := hkb.cell (p := ⟨fb, fo + i * 6, none⟩) (fun x => x) hnm
      obtain ⟨t0, t1, t2, t3, t4⟩ := hty.kbF hkb
      have hFi : F.getD i ty0 = (fds S u).getD i ty0 := by rw [HU.out.2.1]; rfl
      rw [hFi] at t0 t1 t2 t3 t4
      obtain ⟨f, hf⟩ : ∃ f, f = (fds S u).getD i ty0 := ⟨_, rfl⟩
      rw [← hf] at t0 t1 t2 t3 t4
      have hmem : f ∈ fds S u := by
       rw [hf]; exact getD_mem (by have := HU.out.2.2.1; rw [HU.out.2.1] at this; show i < (S.getD u []).length; omega)
      have hil : i < (fds S u).length := by have := HU.out.2.2.1; rw [HU.out.2.1] at this; show i < (S.getD u []).length; omega
      obtain ⟨N, hN⟩ : ∃ N, N = f.of.length := ⟨_, rfl⟩
      rw [← hN] at t4
      clear hnm hty hFi hN hkb
      obtain ⟨wi, rfl⟩ : ∃ w, w = wr := ⟨_, rfl⟩
      obtain ⟨w4, hw4⟩ : ∃ w, w = wi.alloc (.cells #[.string fnm, .int .u8 f.k, .bool f.m, .int .i64 f.r, .int .i64 f.s, .slice fa' N fc'] 83) := ⟨_, rfl⟩
      have ka := (KB.refl F0 wi).alloc (.cells #[.string fnm, .int .u8 f.k, .bool f.m, .int .i64 f.r, .int .i64 f.s, .slice fa' N fc'] 83)
      have hb4 := alloc_new wi (.cells #[.string fnm, .int .u8 f.k, .bool f.m, .int .i64 f.r, .int .i64 f.s, .slice fa' N fc'] 83)
      rw [← hw4] at ka hb4
      have hin4 := hin.kbF ka
      have f1 : w4.cell? ⟨wi.heap.size, 1, none⟩ = some (.int .u8 f.k) := blk_cell hb4 1
      have f4 : w4.cell? ⟨wi.heap.size, 4, none⟩ = some (.int .i64 f.s) := blk_cell hb4 4
      have HW4 := Lib.hid hw4
      have HB4 := Lib.hid hb4
      have hz4 := hin4.st.kb.size
      clear hw4 hb4 ka hin
      by_cases hk5 : f.k = 5
      ·obtain ⟨j, hj⟩ : ∃ j : Nat, f.s = (j : Int) := ⟨f.s.toNat, by have := HH.out.2.1 u f hmem hk5; omega⟩
       have hjn : f.s.toNat = j := by omega
       have hjl : j < S.length := by rw [← hjn]; exact HH.out.2.1.lt hmem hk5
       have hj32 : j < 32 := by have := HH.out.2.2.1; omega
       have hjI : (j : Int) < 32 := by omega
       have hjM : j < M2.length := by rw [hin4.st.met.len]; exact hj32
       have am := hin4.st.arr.cell hjM
       have aF := blk_frozen hin4.st.arr j
       rw [hk5] at t0 f1
       rw [hj] at t3 f4
       cases hmet : atB M2 j with
       | true =>
        rw [hmet] at am
        have HP := Lib.hid (hin4.pass (by intro _; rw [← hf, hjn]; exact hmet))
        rw [hk5, hj] at HW4
        generalize f.m = fm at t1 HW4
        generalize f.r = fr at t2 HW4
        clear hin4 hmem hf hjn hjl hmet hk5 hj hil hjM aF HB4
        go_upto_region 9 with fail
        rw [← HW4.out]
        clear t0 t1 t2 t3 t4 n0
        go_wp2_with fail
        go_roundg (Lf - (i + 1))
        case measure => omega
        case rel => exact ⟨i + 1, ws2, M2, by omega, rfl, by go_num, HP⟩
       | false =>
        rw [hmet] at am
        obtain ⟨g6, o6, cap6, hq6⟩ := hin4.st.q
        have hws : ws2.length ≤ 1000 := by have := hin4.st.bnd; omega
        obtain ⟨w5, hw5⟩ : ∃ w, w = w4.setCell ⟨w0.heap.size, j, none⟩ (.bool true) := ⟨_, rfl⟩
        have ha5 := hin4.st.arr.set j
        have ks5 := kb_set w4 w0.heap.size j (.bool true)
        rw [← hw5] at ha5 ks5
        have hq5 := hq6.kb ks5 (fun e => by
         obtain ⟨cur, hcur⟩ := hq6.ty
         have h2 : w4.heap[w0.heap.size]? = some (.cells (M2.map Value.bool).toArray 161 (0, 0)) := hin4.st.arr
         rw [e, h2] at hcur
         simp only [Option.some.injEq, Obj.cells.injEq] at hcur
         exact absurd hcur.2.1 (by decide))
        have k05 : KB F0 w0 w5 := hin4.st.kb.oldS ks5 (fun k hk e => by omega)
        have e4 : w5.cell? ⟨wi.heap.size, 4, none⟩ = some (.int .i64 (j : Nat)) := by
         have h4 := ks5.heap (b := wi.heap.size) (fun e => by
          have h2 : w4.heap[w0.heap.size]? = some (.cells (M2.map Value.bool).toArray 161 (0, 0)) := hin4.st.arr
          have h3 := HB4.out
          rw [e, h2] at h3
          simp only [Option.some.injEq, Obj.cells.injEq] at h3
          exact absurd h3.2.1 (by decide)) HB4.out
         rw [← hj]
         exact blk_cell h4 4
        have HP := Lib.hid (fun (w' : World) (v' : Value) (gb o cap : Nat) (hk : KB F0 w0 w') (ha : ArrAt w' w0.heap.size (M2.set j true)) (hq : QRow w' w0.heap.size v' (ws2 ++ [j]) gb o cap) =>
         hin4.meet HH.out.2.1 HH.out.2.2.1 hil (hf ▸ hk5) (by rw [← hf]; exact hjn) hmet HU.out.1 hk ha hq)
        have HQ5 := Lib.hid (And.intro hq5 (And.intro ha5 k05))
        have HW5 := Lib.hid hw5
        have hz5 := k05.size
        rw [hk5, hj] at HW4
        generalize f.m = fm at t1 HW4
        generalize f.r = fr at t2 HW4
        clear hin4 hmem hf hjn hjl hmet hk5 hj hil hjM hq6 hq5 ha5 ks5 k05 hw5 HB4
        go_upto_region 9 with fail
        rw [← HW4.out]
        clear t0 t1 t2 t3 t4 n0
        go_upto_region 11 with fail
        rw [← HW5.out]
        clear f1 f4 am aF
        go_wp2_with (at_builtin; refine Stopped.out ?_)
        refine ⟨?_⟩
        have ka := (KB.refl F0 w5).alloc (.cells #[.int .i64 (j : Nat)] 3)
        have hq7 := HQ5.out.1.kbF ka
        have ha7 := HQ5.out.2.1.kbF ka
        have k07 := HQ5.out.2.2.trans ka
        refine appQ hq7 j rfl rfl rfl rfl (blk_cell (alloc_new _ _) 0) hws k07.size ?_
        intro v' w' g' o' cap' hq8 hk8
        have HP2 := Lib.hid (HP.out _ _ _ _ _ (k07.oldQ hk8 (Nat.le_refl _)) (ha7.kbQ hk8) hq8)
        clear hq8 hk8 hq7 ha7 k07 ka e4
        go_wp2_with fail
        go_roundg (Lf - (i + 1))
        case measure => omega
        case rel => exact ⟨i + 1, _, _, by omega, rfl, by go_num, HP2⟩
      ·have hk5b : (f.k != 5) = true := by simpa using hk5
       have hk5c : (f.k == 5) = false := by simpa using hk5
       have HP := Lib.hid (hin4.pass (by intro h; rw [← hf] at h; exact absurd h hk5))
       generalize f.k = fk at t0 f1 HW4 hk5b hk5c
       generalize f.m = fm at t1 HW4
       generalize f.r = fr at t2 HW4
       generalize f.s = fs at t3 f4 HW4
       clear hin4 hmem hf hk5 hil HB4
       go_upto_region 9 with fail
       rw [← HW4.out]
       clear t0 t1 t2 t3 t4 n0
       go_wp2_with fail
       go_roundg (Lf - (i + 1))
       case measure => omega
       case rel => exact ⟨i + 1, ws2, M2, by omega, rfl, by go_num, HP⟩
     ·obtain rfl : i = Lf := by omega
      have dI : decide ((i : Int) < (i : Int)) = false := decide_eq_false (by omega)
      have hFi : i = (fds S u).length := by rw [HU.out.2.2.1, HU.out.2.1]; rfl
      have HX : Hid (EndSt S n w0 w0.heap.size wr u6 ws2 M2 g1 ∧ Shut S n M2 (· ∈ ws2)) := Lib.hid ⟨hin.out.st, by have h := hin.out; rw [hFi] at h; exact h.close⟩
      clear hin hlt hFi
      go_wp2_with fail
      go_roundg g1
      case measure => omega
      case rel => exact ⟨by omega, ws2, M2, HX⟩

def InT (S : List (List Ty)) (t : Ty) : Prop := t.k = 5 → 0 ≤ t.s ∧ t.s < (S.length : Int)
theorem InR.inT {S : List (List Ty)} (h : InR S) {i : Nat} {f : Ty} (hf : f ∈ fds S i) : InT S f := h i f hf
theorem fds_mem {S : List (List Ty)} {u i : Nat} (h : i < (fds S u).length) : (fds S u).getD i ty0 ∈ fds S u := by
 rw [List.getD_eq_getElem?_getD, List.getElem?_eq_getElem h]; exact List.getElem_mem h
def wsum (S : List (List Ty)) (n u i : Nat) : Nat := (((fds S u).map (wF S n)).take i).sum
theorem wsum_zero (S : List (List Ty)) (n u : Nat) : wsum S n u 0 = 0 := by simp [wsum]
theorem wsum_succ {S : List (List Ty)} {n u i : Nat} (h : i < (fds S u).length) : wsum S n u (i + 1) = wsum S n u i + wF S n ((fds S u).getD i ty0) := by
 unfold wsum
 rw [sum_take_succ (by simpa using h)]
 congr 1
 simp [List.getD_eq_getElem?_getD, List.getElem?_eq_getElem h]
theorem wsum_le {S : List (List Ty)} {n u i : Nat} : wsum S n u i ≤ wsum S n u (fds S u).length := by
 unfold wsum
 have h1 := sum_take_le (l := (fds S u).map (wF S n)) i
 have h2 : ((fds S u).map (wF S n)).take (fds S u).length = (fds S u).map (wF S n) := List.take_of_length_le (by simp)
 rw [h2]; exact h1
theorem wF_struct {S : List (List Ty)} {n : Nat} {t : Ty} (h : t.k = 5) : wF S (n + 1) t = wsum S n t.s.toNat (fds S t.s.toNat).length := by
 unfold wsum
 rw [List.take_of_length_le (by simp)]
 simp [wF, h]
set_option maxRecDepth 100000 in
set_option maxHeartbeats 32000000 in
theorem tyWords_any (S : List (List Ty)) (hS : InR S) (h32 : S.length ≤ 32) (h8 : ∀ i, (fds S i).length ≤ 100) (d : Nat) (a : Option Addr) (c : Nat) : ∀ (n : Nat) (t : Ty) (ta : Option Addr) (tc : Nat) (w : World), FinD S n t → InT S t → StsAt d w a S →
  Calls Tryz.prog 62 #[.slice a S.length c, tyV t ta tc] w fun e w' => e = .returned (.int .i64 (min (wF S n t) 17 : Nat)) ∧ KB F0 w w' := by
 intro n
 induction n with
 | zero => intro t ta tc w h; exact h.elim
 | succ n ih =>
  intro t ta tc w hfin hin h
  obtain ⟨w0, rfl⟩ : ∃ w0, w0 = w := ⟨_, rfl⟩
  obtain ⟨W, hW⟩ : ∃ W, W = w0.alloc (.cells #[.int .u8 t.k, .bool t.m, .int .i64 t.r, .int .i64 t.s, .slice ta t.of.length tc] 26) := ⟨_, rfl⟩
  obtain ⟨kb, hb⟩ := boxTy w0 t ta tc
  rw [← hW] at kb hb
  have HW := Lib.hid hW
  have HB := Lib.hid (And.intro kb hb)
  have g0 : W.cell? ⟨w0.heap.size, 0, none⟩ = some (.int .u8 t.k) := blk_cell hb 0
  have g3 : W.cell? ⟨w0.heap.size, 3, none⟩ = some (.int .i64 t.s) := blk_cell hb 3
  obtain ⟨LS, hLS⟩ : ∃ L, L = S.length := ⟨_, rfl⟩
  have HLS := Lib.hid hLS
  rw [← hLS] at h32 ⊢
  clear kb hb hW hLS
  unfold tyV
  by_cases hk : t.k = 5
  ·obtain ⟨u, hu⟩ : ∃ u : Nat, t.s = (u : Int) := ⟨t.s.toNat, by have := hin hk; omega⟩
   have hun : t.s.toNat = u := by omega
   have huL : u < LS := by have := hin hk; rw [HLS.out]; omega
   have huI : (u : Int) < (LS : Int) := by omega
   obtain ⟨sb, so, snm, sfa, sfc, rfl, -, hsl0, hsc, hfd⟩ := h u (by rw [← HLS.out]; exact huL)
   have hsl := HB.out.1.cell (p := ⟨sb, so + u * 2 + 1, none⟩) (fun x => x) hsl0
   obtain ⟨F, hF⟩ : ∃ F, F = S.getD u [] := ⟨_, rfl⟩
   rw [← hF] at hsl hsc hfd
   obtain ⟨Lf, hLf⟩ : ∃ L, L = F.length := ⟨_, rfl⟩
   rw [← hLf] at hsl hsc
   have hLf100 : Lf ≤ 100 := by rw [hLf, hF]; exact h8 u
   have hLu : Lf = (fds S u).length := by rw [hLf, hF]; rfl
   have HF : Hid (∀ i, i < Lf → FinD S n ((fds S u).getD i ty0) ∧ InT S ((fds S u).getD i ty0)) := Lib.hid (fun i hi => by
    have hm := fds_mem (S := S) (u := u) (i := i) (by omega)
    exact ⟨hfin hk _ (by rw [hun]; exact hm), hS.inT hm⟩)
   have HU := Lib.hid (And.intro hF (And.intro hLf (And.intro hsc (And.intro hfd hLu))))
   have HR : Hid (wF S (n + 1) t = wsum S n u Lf) := Lib.hid (by rw [wF_struct hk, hun, hLu])
   have IH := Lib.hid (fun (i : Nat) (hi : i < Lf) (fa' : Option Addr) (fc' : Nat) (V : World) (hV : KB F0 w0 V) => ih ((fds S u).getD i ty0) fa' fc' V (HF.out i hi).1 (HF.out i hi).2 (h.kbF hV))
   rw [← HLS.out] at IH
   rw [hk] at g0
   rw [hu] at g3 HW
   rw [hu, hk]
   rw [hk] at HW
   generalize t.m = tm at HW ⊢
   generalize t.r = tr at HW ⊢
   generalize t.of.length = tl at HW ⊢
   rw [HR.out]
   have hfd2 := HU.out.2.2.2.1
   clear hfin hin h ih hsl0 hsc hfd hF hLf hLu hk hun hu hS h8 hfd2
   go_enter Tryz.func62, Tryz.ntmps62
   go_upto_region 1 with fail
   rw [← HW.out]
   go_wp2_with fail
   go_loopg [18, 5] Lf (fun g iv sv wr => ∃ i, i ≤ Lf ∧ g = Lf - i ∧ iv = .int .i64 (i : Nat) ∧ wsum S n u i ≤ 16 ∧ sv = .int .i64 (wsum S n u i : Nat) ∧ Hid (KB F0 w0 wr))
   case atStart => exact ⟨0, by omega, by omega, rfl, by rw [wsum_zero]; omega, by rw [wsum_zero]; rfl, Lib.hid HB.out.1⟩
   case round =>
    obtain ⟨i, hi, rfl, rfl, hs16, rfl, hkw⟩ := hrel
    obtain ⟨wi, rfl⟩ : ∃ w, w = wr := ⟨_, rfl⟩
    by_cases hlt : i < Lf
    ·have hiI : (i : Int) < (Lf : Int) := by omega
     have dI : decide ((i : Int) < (Lf : Int)) = true := decide_eq_true hiI
     obtain ⟨fb, fo, fnm, fa', fc', rfl, hnm, hty, -⟩ := HU.out.2.2.2.1 i (by rw [← HU.out.2.1]; exact hlt)
     have n0 := hkw.out.cell (p := ⟨fb, fo + i * 6, none⟩) (fun x => x) hnm
     obtain ⟨t0, t1, t2, t3, t4⟩ := hty.kbF hkw.out
     have hFi : F.getD i ty0 = (fds S u).getD i ty0 := by rw [HU.out.1]; rfl
     rw [hFi] at t0 t1 t2 t3 t4
     have IHi := Lib.hid (IH.out i hlt fa' fc')
     have hsu : wsum S n u (i + 1) = wsum S n u i + wF S n ((fds S u).getD i ty0) := wsum_succ (by rw [← HU.out.2.2.2.2]; exact hlt)
     have HTL := Lib.hid (show wsum S n u (i + 1) ≤ wsum S n u Lf from by rw [HU.out.2.2.2.2]; exact wsum_le)
     generalize (fds S u).getD i ty0 = f at t0 t1 t2 t3 t4 IHi hsu
     obtain ⟨x, hx⟩ : ∃ x, x = min (wF S n f) 17 := ⟨_, rfl⟩
     rw [← hx] at IHi
     unfold tyV at IHi
     have HX := Lib.hid (And.intro hx hsu)
     obtain ⟨s, hs⟩ : ∃ s, s = wsum S n u i := ⟨_, rfl⟩
     rw [← hs] at hs16 ⊢
     have HS := Lib.hid hs
     have hx17 : x ≤ 17 := by omega
     clear hnm hty hFi hx hsu hs
     generalize f.k = fk at t0 IHi
     generalize f.m = fm at t1 IHi
     generalize f.r = fr at t2 IHi
     generalize f.s = fs at t3 IHi
     generalize f.of.length = N at t4 IHi
     have ka := (KB.refl F0 wi).alloc (.cells #[.string fnm, .int .u8 fk, .bool fm, .int .i64 fr, .int .i64 fs, .slice fa' N fc'] 83)
     have KA := Lib.hid ka
     have hwr : IntKind.i64.wrap ((s : Int) + (x : Int)) = ((s + x : Nat) : Int) := by rw [w64 (by omega) (by omega)]; omega
     clear ka
     go_wp2_with fail
     refine (IHi.out _ (hkw.out.trans KA.out)).mono ?_
     rintro e w5 ⟨rfl, k5⟩
     have K5 := Lib.hid (hkw.out.trans (KA.out.trans k5))
     clear k5 n0 t0 t1 t2 t3 t4
     by_cases h16 : s + x ≤ 16
     ·have d16 : decide ((16 : Int) < (s : Int) + (x : Int)) = false := decide_eq_false (by omega)
      have d16n : decide (16 < s + x) = false := decide_eq_false (by omega)
      have HN : Hid (wsum S n u (i + 1) = s + x) := Lib.hid (by have := HX.out; have := HS.out; omega)
      go_wp2_with fail
      go_roundg (Lf - (i + 1))
      case measure => omega
      case rel => exact ⟨i + 1, by omega, rfl, by go_num, by rw [HN.out]; exact h16, by rw [HN.out]; first | rfl | go_num, K5⟩
     ·have d16 : decide ((16 : Int) < (s : Int) + (x : Int)) = true := decide_eq_true (by omega)
      have d16n : decide (16 < s + x) = true := decide_eq_true (by omega)
      have HN : Hid (min (wsum S n u Lf) 17 = 17) := Lib.hid (by have := HX.out; have := HS.out; have := HTL.out; omega)
      go_wp2_with fail
      go_ret
      exact ⟨ret_int (by rw [HN.out]; rfl), K5.out⟩
    ·obtain rfl : i = Lf := by omega
     have dI : decide ((i : Int) < (i : Int)) = false := decide_eq_false (by omega)
     have HN : Hid (min (wsum S n u i) 17 = wsum S n u i) := Lib.hid (by omega)
     go_wp2_with fail
     go_ret
     exact ⟨ret_int (by rw [HN.out]), hkw.out⟩
  ·have hk2 : (t.k != 5) = true := by simpa using hk
   have HR : Hid (min (wF S (n + 1) t) 17 = 1) := Lib.hid (by simp [wF, hk])
   rw [HR.out]
   generalize t.k = tk at g0 HW hk2 ⊢
   generalize t.m = tm at HW ⊢
   generalize t.r = tr at HW ⊢
   generalize t.s = ts at HW ⊢
   generalize t.of.length = tl at HW ⊢
   clear hk hfin hin h ih hS h8 g3
   go_enter Tryz.func62, Tryz.ntmps62
   go_upto_region 1 with fail
   rw [← HW.out]
   go_wp2_with fail
   go_ret
   exact ⟨rfl, HB.out.1⟩
end Go.Proofs.YtaeppaaolkcbbaaGreatDoor
