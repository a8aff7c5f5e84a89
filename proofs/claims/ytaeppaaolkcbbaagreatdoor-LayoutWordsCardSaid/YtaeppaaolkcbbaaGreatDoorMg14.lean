/- loanwordref06.endless. -/
import Derived.Test.YtaeppaaolkcbbaaGreatDoorMg05
import Derived.Test.YtaeppaaolkcbbaaGreatDoorMg13
namespace Go.Proofs.YtaeppaaolkcbbaaGreatDoor
open Go.RowKit

theorem Tryz.infoBoolZ : (Tryz.prog.info? 4).map (fun i => (i.zero, i.size, i.bytes)) = some (some (.bool false), 1, 1) := by kernel_rfl
theorem make_bools (n : Nat) (hn : n ≤ 1000000) (w : World) : (Instr.makeSlice 162 (.int .i64 (n : Nat)) (.int .i64 (n : Nat))).run Tryz.prog w = .ok (.slice (some ⟨w.heap.size, 0, none⟩) n n) (w.alloc (.cells ((List.replicate n false).map Value.bool).toArray 4)) := by
 obtain ⟨i, hi, hz0, hz1, hz2⟩ := info_parts Tryz.infoBoolZ
 have h := run_makeSlice (P := Tryz.prog) (w := w) 162 4 i _ Tryz.underlying162 hi hz0 .i64 .i64 (n : Nat) (n : Nat) (by omega) (by omega) (by rw [hz1]; simp; omega) (by rw [hz2]; simp; omega) (by omega)
 have e : ∀ m, m = n → madeCells (Value.bool false).cells m = ((List.replicate n false).map Value.bool).toArray := by
  rintro _ rfl
  apply Array.ext
  ·unfold madeCells; simp
  ·intro j h1 h2
   unfold madeCells
   simp [Value.cells, Nat.mod_one]
 rw [h, Int.toNat_natCast, e _ (by rw [hz1]; omega)]
structure ZSt (S : List (List Ty)) (k : Nat) (w0 : World) (X : Nat) (wr : World) (v : Value) (ws : List Nat) (M : List Bool) (n : Nat) : Prop where
 kb : KB F0 w0 wr
 lo : w0.heap.size ≤ X
 arr : wr.heap[X]? = some (.cells (M.map Value.bool).toArray 4 (0, 0))
 own : wr.ownsRow w0.heap.size 3 1 v ws.length (ws.map fun u => Value.int .i64 (u : Nat))
 len : M.length = S.length
 bnd : left M + ws.length ≤ S.length + 1
 k0 : k ∈ ws
 ok : ∀ u ∈ ws, (u = k ∨ Rch S k u) ∧ u < S.length
 mem : ∀ j, atB M j = true → j ∈ ws
 done : ∀ q, q < n → ∀ f ∈ fds S (ws.getD q 0), f.k = 5 → f.s.toNat ≠ k ∧ atB M f.s.toNat = true
theorem ZSt.no {S : List (List Ty)} {k : Nat} {w0 : World} {X : Nat} {wr : World} {v : Value} {ws : List Nat} {M : List Bool} {n : Nat} (h : ZSt S k w0 X wr v ws M n) (hn : n = ws.length) : endB S k = false := by
 subst hn
 have key : ∀ u ∈ ws, ∀ f ∈ fds S u, f.k = 5 → f.s.toNat ≠ k ∧ atB M f.s.toNat = true := fun u hu f hf hk => by
  obtain ⟨q, hq, rfl⟩ := List.getElem_of_mem hu
  have := h.done q hq f
  rw [List.getD_eq_getElem?_getD, List.getElem?_eq_getElem hq] at this
  exact this hf hk
 have all : ∀ j, Rch S k j → j ≠ k ∧ atB M j = true := by
  intro j hr
  induction hr with
  | one hf hk => exact key k h.k0 _ hf hk
  | more _ hf hk ih => exact key _ (h.mem _ ih.2) _ hf hk
 cases he : endB S k with
 | false => rfl
 | true => exact absurd rfl (all k (endB_iff.1 he)).1
structure ZIn (S : List (List Ty)) (k n u i : Nat) (w0 : World) (X : Nat) (wr : World) (v : Value) (ws : List Nat) (M : List Bool) : Prop where
 st : ZSt S k w0 X wr v ws M n
 at_ : n < ws.length ∧ ws.getD n 0 = u
 part : ∀ q, q < i → ((fds S u).getD q ty0).k = 5 → ((fds S u).getD q ty0).s.toNat ≠ k ∧ atB M ((fds S u).getD q ty0).s.toNat = true
section
variable {S : List (List Ty)} {k n u i : Nat} {w0 : World} {X : Nat} {wr : World} {v : Value} {ws : List Nat} {M : List Bool}
theorem ZSt.kbF (h : ZSt S k w0 X wr v ws M n) {w' : World} (hk : KB F0 wr w') : ZSt S k w0 X w' v ws M n :=
 ⟨h.kb.trans hk, h.lo, hk.heap (fun x => x) h.arr, own_kb h.own hk (fun _ _ x => x), h.len, h.bnd, h.k0, h.ok, h.mem, h.done⟩
theorem ZIn.kbF (h : ZIn S k n u i w0 X wr v ws M) {w' : World} (hk : KB F0 wr w') : ZIn S k n u i w0 X w' v ws M := ⟨h.st.kbF hk, h.at_, h.part⟩
theorem ZIn.next (h : ZIn S k n u i w0 X wr v ws M) (hi : i = (fds S u).length) : ZSt S k w0 X wr v ws M (n + 1) := by
 refine ⟨h.st.kb, h.st.lo, h.st.arr, h.st.own, h.st.len, h.st.bnd, h.st.k0, h.st.ok, h.st.mem, fun q hq f hf hk => ?_⟩
 rcases Nat.lt_or_eq_of_le (Nat.lt_succ_iff.1 hq) with h1 | rfl
 ·exact h.st.done q h1 f hf hk
 ·rw [h.at_.2] at hf
  obtain ⟨j, hj, rfl⟩ := List.getElem_of_mem hf
  have := h.part j (by omega)
  rw [List.getD_eq_getElem?_getD, List.getElem?_eq_getElem hj] at this
  exact this hk
theorem ZIn.pass (h : ZIn S k n u i w0 X wr v ws M) (hp : ((fds S u).getD i ty0).k = 5 → ((fds S u).getD i ty0).s.toNat ≠ k ∧ atB M ((fds S u).getD i ty0).s.toNat = true) : ZIn S k n u (i + 1) w0 X wr v ws M :=
 ⟨h.st, h.at_, fun j hj => by rcases Nat.lt_or_eq_of_le (Nat.lt_succ_iff.1 hj) with h1 | rfl; exact h.part j h1; exact hp⟩
theorem getD_app {ws : List Nat} {j q : Nat} (h : q < ws.length) : (ws ++ [j]).getD q 0 = ws.getD q 0 := by
 simp [List.getD_eq_getElem?_getD, List.getElem?_append_left h]
theorem ZIn.meet (hS : InR S) (h : ZIn S k n u i w0 X wr v ws M) (hi : i < (fds S u).length) (hf : ((fds S u).getD i ty0).k = 5) {j : Nat} (hj : ((fds S u).getD i ty0).s.toNat = j) (hjk : j ≠ k) (hn : atB M j = false) {w' : World} {v' : Value}
  (hk : KB F0 w0 w') (ha : w'.heap[X]? = some (.cells ((M.set j true).map Value.bool).toArray 4 (0, 0))) (ho : w'.ownsRow w0.heap.size 3 1 v' (ws ++ [j]).length ((ws ++ [j]).map fun u => Value.int .i64 (u : Nat))) : ZIn S k n u (i + 1) w0 X w' v' (ws ++ [j]) (M.set j true) := by
 have hm := getD_mem hi
 have hjl : j < S.length := hj ▸ hS.lt hm hf
 have hum : u ∈ ws := by
  rw [← h.at_.2, List.getD_eq_getElem?_getD, List.getElem?_eq_getElem h.at_.1]; exact List.getElem_mem h.at_.1
 have hr : Rch S k j := by
  rcases (h.st.ok u hum).1 with rfl | hr
  ·exact hj ▸ Rch.one hm hf
  ·exact hj ▸ Rch.more hr hm hf
 have hjM : j < M.length := by rw [h.st.len]; exact hjl
 have grow : ∀ x, atB M x = true → atB (M.set j true) x = true := fun x hx => by rw [atB_set hjM, hx]; rfl
 refine ⟨⟨hk, h.st.lo, ha, ho, by rw [List.length_set]; exact h.st.len, ?_, List.mem_append_left _ h.st.k0, fun x hx => ?_, fun x hx => ?_, fun q hq f hf hk => ?_⟩, ⟨?_, ?_⟩, fun q hq hk5 => ?_⟩
 ·have := left_set hjM hn
  have := h.st.bnd
  rw [List.length_append, List.length_cons, List.length_nil]; omega
 ·rcases List.mem_append.1 hx with hx | hx
  ·exact h.st.ok x hx
  ·simp only [List.mem_cons, List.not_mem_nil, or_false] at hx
   subst hx; exact ⟨Or.inr hr, hjl⟩
 ·rw [atB_set hjM] at hx
  simp only [Bool.or_eq_true, decide_eq_true_eq] at hx
  rcases hx with hx | rfl
  ·exact List.mem_append_left _ (h.st.mem x hx)
  ·exact List.mem_append_right _ (by simp)
 ·rw [getD_app (by have := h.at_.1; omega)] at hf
  have := h.st.done q hq f hf hk
  exact ⟨this.1, grow _ this.2⟩
 ·rw [List.length_append]; have := h.at_.1; omega
 ·rw [getD_app h.at_.1]; exact h.at_.2
 ·rcases Nat.lt_or_eq_of_le (Nat.lt_succ_iff.1 hq) with h1 | rfl
  ·have := h.part q h1 hk5
   exact ⟨this.1, grow _ this.2⟩
  ·rw [hj, atB_set hjM]; exact ⟨hjk, by simp⟩
end
theorem app_ints {ws : List Nat} {j : Nat} : (ws ++ [j]).map (fun u => Value.int .i64 (u : Nat)) = ws.map (fun u => Value.int .i64 (u : Nat)) ++ [.int .i64 (j : Nat)] := by simp
set_option maxRecDepth 100000 in
set_option maxHeartbeats 32000000 in
theorem rzEndless_any (S : List (List Ty)) (hS : InR S) (h32 : S.length ≤ 32) (h8 : ∀ i, (fds S i).length ≤ 100) (k d : Nat) (hk : k < S.length) (a : Option Addr) (c : Nat) (w : World) (h : StsAt d w a S) :
  Calls Tryz.prog 75 #[.slice a S.length c, .int .i64 k] w fun e w' => e = .returned (.bool (endB S k)) ∧ KB F0 w w' := by
 obtain ⟨w0, rfl⟩ : ∃ w0, w0 = w := ⟨_, rfl⟩
 obtain ⟨LS, hLS⟩ : ∃ L, L = S.length := ⟨_, rfl⟩
 have hk' : k < LS := by rw [hLS]; exact hk
 obtain ⟨W1, hW1⟩ : ∃ W, W = w0.alloc (.cells ((List.replicate LS false).map Value.bool).toArray 4) := ⟨_, rfl⟩
 have k1 : KB F0 w0 W1 := by rw [hW1]; exact (KB.refl _ _).alloc _
 have b1 : W1.heap[w0.heap.size]? = some (.cells ((List.replicate LS false).map Value.bool).toArray 4 (0, 0)) := by rw [hW1]; exact alloc_new _ _
 have HH := Lib.hid (And.intro h (And.intro hS (And.intro h32 (And.intro h8 hk))))
 have HLS := Lib.hid hLS
 rw [← hLS] at h32 ⊢
 have MK := make_bools LS (by omega) w0
 rw [← hW1] at MK
 have HB := Lib.hid (And.intro k1 b1)
 clear k1 b1 hW1 h hS hLS h8 hk
 go_enter Tryz.func75, Tryz.ntmps75
 go_upto_region 3 with fail
 clear MK
 go_wp2_with (at_builtin; refine Stopped.out ?_)
 refine ⟨?_⟩
 obtain ⟨W2, hW2⟩ : ∃ W, W = W1.alloc (.cells #[.int .i64 (k : Nat)] 3) := ⟨_, rfl⟩
 have k2 : KB F0 W1 W2 := by rw [hW2]; exact (KB.refl _ _).alloc _
 have hnb : W2.heap[W1.heap.size]? = some (.cells #[.int .i64 (k : Nat)] 3 (0, 0)) := by rw [hW2]; exact alloc_new _ _
 rw [show W1.alloc (.cells #[.int .i64 (k : Nat)] 3) = W2 from hW2.symm]
 have s1 := HB.out.1.size
 have s2 := k2.size
 refine app1 40 3 w0.heap.size (.int .i64 (k : Nat)) Tryz.infoIntV Tryz.underlying40 rfl (v := .slice none 0 0) (n := 0) (xs := []) ⟨rfl, Or.inl ⟨rfl, rfl⟩⟩ rfl rfl rfl rfl (blk_cell hnb 0) rfl (by unfold maxLen; omega) (by omega) (by omega) ?_
 intro v3 w3 hown hgr
 obtain ⟨va, vc, rfl, -⟩ := own_shape hown
 have k3 : KB F0 W2 w3 := (KB.refl _ _).grown hgr (fun k e h => by cases e)
 have Z0 : Hid (ZSt S k w0 w0.heap.size w3 (.slice va (0 + 1) vc) [k] (List.replicate LS false) 0) := Lib.hid ⟨(HB.out.1.trans k2).trans k3, Nat.le_refl _, (k2.trans k3).heap (fun x => x) HB.out.2, hown, by rw [List.length_replicate]; exact HLS.out, (by
  show List.count false _ + 1 ≤ _
  rw [List.count_replicate_self, HLS.out]; exact Nat.le_refl _), by simp, (fun u hu => by
  obtain rfl : u = k := by simpa using hu
  exact ⟨Or.inl rfl, HH.out.2.2.2.2⟩), (fun j hj => by rw [atB_rep] at hj; cases hj), fun q hq => by omega⟩
 clear hown hgr k2 k3 hnb hW2 s1 s2
 go_upto_region 5 with fail
 go_loopg [7, 5] (LS + 1) (fun g nv tv wr => ∃ (n N : Nat) (ws : List Nat) (M : List Bool) (ta : Option Addr) (tc : Nat), n ≤ N ∧ N ≤ LS + 1 ∧ g = LS + 1 - n ∧ nv = .int .i64 (n : Nat) ∧ tv = .slice ta N tc ∧ Hid (ZSt S k w0 w0.heap.size wr (.slice ta N tc) ws M n ∧ ws.length = N))
 case atStart => exact ⟨0, 0 + 1, _, _, _, _, by omega, by omega, by omega, rfl, rfl, Lib.hid ⟨Z0.out, rfl⟩⟩
 case round =>
  obtain ⟨n, N, ws, M, ta, tc, hn, hN, rfl, rfl, rfl, hst⟩ := hrel
  obtain ⟨wo, rfl⟩ : ∃ x : World, x = wr := ⟨_, rfl⟩
  by_cases hlt : n < N
  ·have hltI : (n : Int) < (N : Int) := by omega
   have dn : decide ((n : Int) < (N : Int)) = true := decide_eq_true hltI
   have hnw : n < ws.length := by rw [hst.out.2]; exact hlt
   have hown := hst.out.1.own
   rw [hst.out.2] at hown
   obtain ⟨a2, c2, e2, hNc, -, hcl, -⟩ := own_shape hown
   cases e2
   obtain ⟨tg, rfl, -, hcell⟩ := hcl n (by omega)
   obtain ⟨u, hu⟩ : ∃ u, u = ws.getD n 0 := ⟨_, rfl⟩
   have hcu : wo.cell? ⟨tg, n, none⟩ = some (.int .i64 (u : Nat)) := by
    rw [hcell, hu]; simp [List.getD_eq_getElem?_getD, hnw]
   have hum : u ∈ ws := by rw [hu, List.getD_eq_getElem?_getD, List.getElem?_eq_getElem hnw]; exact List.getElem_mem hnw
   have huL : u < LS := by rw [HLS.out]; exact (hst.out.1.ok u hum).2
   have huI : (u : Int) < (LS : Int) := by omega
   obtain ⟨sb, so, snm, sfa, sfc, rfl, -, hsl0, hsc, hfd⟩ := HH.out.1 u (by rw [← HLS.out]; exact huL)
   have hsl := hst.out.1.kb.cell (p := ⟨sb, so + u * 2 + 1, none⟩) (fun x => x) hsl0
   obtain ⟨F, hF⟩ : ∃ F, F = S.getD u [] := ⟨_, rfl⟩
   rw [← hF] at hsl hsc hfd
   obtain ⟨Lf, hLf⟩ : ∃ L, L = F.length := ⟨_, rfl⟩
   rw [← hLf] at hsl hsc
   have hLf100 : Lf ≤ 100 := by rw [hLf, hF]; exact HH.out.2.2.2.1 u
   have HU := Lib.hid (And.intro hF (And.intro hLf (And.intro hsc hfd)))
   have HLF : Hid (Lf = (fds S u).length) := Lib.hid (by rw [hLf, hF]; rfl)
   have HIN : Hid (ZIn S k n u 0 w0 w0.heap.size wo (.slice (some ⟨tg, 0, none⟩) N tc) ws M ∧ ws.length = N) := Lib.hid ⟨⟨hst.out.1, ⟨hnw, hu.symm⟩, fun q hq => by omega⟩, hst.out.2⟩
   clear hst hown hcl hcell hum hu hsl0 hsc hfd hF hLf hnw
   go_upto_region 9 with fail
   clear hcu hsl
   go_loopg [9, 5] Lf (fun g iv tv wr => ∃ (i N : Nat) (ws : List Nat) (M : List Bool) (ta : Option Addr) (tc : Nat), i ≤ Lf ∧ n < N ∧ N ≤ LS + 1 ∧ g = Lf - i ∧ iv = .int .i64 (i : Nat) ∧ tv = .slice ta N tc ∧ Hid (ZIn S k n u i w0 w0.heap.size wr (.slice ta N tc) ws M ∧ ws.length = N))
   case atStart => exact ⟨0, N, ws, M, _, _, by omega, hlt, hN, by omega, rfl, rfl, HIN⟩
   case round =>
    obtain ⟨i, N, ws, M, ta, tc, hi, hnN, hN, rfl, rfl, rfl, hin⟩ := hrel
    obtain ⟨wi, rfl⟩ : ∃ x : World, x = wr := ⟨_, rfl⟩
    by_cases hil : i < Lf
    ·have hiI : (i : Int) < (Lf : Int) := by omega
     have dI : decide ((i : Int) < (Lf : Int)) = true := decide_eq_true hiI
     obtain ⟨fb, fo, fnm, fa', fc', rfl, hnm, hty, -⟩ := HU.out.2.2.2 i (by rw [← HU.out.2.1]; exact hil)
     obtain ⟨t0, t1, t2, t3, t4⟩ := hty.kbF hin.out.1.st.kb
     have hFi : F.getD i ty0 = (fds S u).getD i ty0 := by rw [HU.out.1]; rfl
     rw [hFi] at t0 t1 t2 t3 t4
     obtain ⟨f, hf⟩ : ∃ f, f = (fds S u).getD i ty0 := ⟨_, rfl⟩
     rw [← hf] at t0 t1 t2 t3 t4
     have hmem : f ∈ fds S u := by rw [hf]; exact getD_mem (by rw [← HLF.out]; exact hil)
     obtain ⟨NN, hNN⟩ : ∃ N, N = f.of.length := ⟨_, rfl⟩
     rw [← hNN] at t4
     obtain ⟨w4, hw4⟩ : ∃ w, w = wi.alloc (.cells #[.int .u8 f.k, .bool f.m, .int .i64 f.r, .int .i64 f.s, .slice fa' NN fc'] 26) := ⟨_, rfl⟩
     have ka : KB F0 wi w4 := by rw [hw4]; exact (KB.refl _ _).alloc _
     have hb4 : w4.heap[wi.heap.size]? = some (.cells #[.int .u8 f.k, .bool f.m, .int .i64 f.r, .int .i64 f.s, .slice fa' NN fc'] 26 (0, 0)) := by rw [hw4]; exact alloc_new _ _
     have f0 : w4.cell? ⟨wi.heap.size, 0, none⟩ = some (.int .u8 f.k) := blk_cell hb4 0
     have f3 : w4.cell? ⟨wi.heap.size, 3, none⟩ = some (.int .i64 f.s) := blk_cell hb4 3
     have HW4 := Lib.hid hw4
     have HB4 := Lib.hid hb4
     have hin4 : Hid (ZIn S k n u i w0 w0.heap.size w4 (.slice ta N tc) ws M ∧ ws.length = N) := Lib.hid ⟨hin.out.1.kbF ka, hin.out.2⟩
     clear hw4 hb4 ka hin hnm hty hFi hNN
     by_cases hk5 : f.k = 5
     ·obtain ⟨j, hj⟩ : ∃ j : Nat, f.s = (j : Int) := ⟨f.s.toNat, by have := HH.out.2.1 u f hmem hk5; omega⟩
      have hjn : f.s.toNat = j := by omega
      have hjl : j < LS := by rw [← hjn, HLS.out]; exact HH.out.2.1.lt hmem hk5
      have hjI : (j : Int) < (LS : Int) := by omega
      rw [hk5] at t0 f0 HW4
      rw [hj] at t3 f3 HW4
      generalize f.m = fm at t1 HW4
      generalize f.r = fr at t2 HW4
      by_cases hjk : j = k
      ·have HE : Hid (endB S k = true) := Lib.hid (endB_iff.2 (by
        have hum : u ∈ ws := by
         have h1 := hin4.out.1.at_
         rw [← h1.2, List.getD_eq_getElem?_getD, List.getElem?_eq_getElem h1.1]; exact List.getElem_mem h1.1
        have hkj : f.s.toNat = k := by rw [hjn]; exact hjk
        rcases (hin4.out.1.st.ok u hum).1 with e | hr
        ·rw [e] at hmem
         have := Rch.one hmem hk5
         rwa [hkj] at this
        ·have := Rch.more hr hmem hk5
         rwa [hkj] at this))
       have ej : ((j : Int) == (k : Int)) = true := by simp [hjk]
       have KK := Lib.hid hin4.out.1.st.kb
       clear hin4 hmem hf hjn hjl hjk hk5 hj HB4
       go_upto_region 12 with fail
       rw [← HW4.out]
       clear t0 t1 t2 t3 t4
       go_wp2_with fail
       go_ret
       exact ⟨ret_eq (congrArg Value.bool HE.out), KK.out⟩
      ·have ej : ((j : Int) == (k : Int)) = false := by simpa using fun e => hjk (by omega)
       have hjM : j < M.length := by rw [hin4.out.1.st.len, ← HLS.out]; exact hjl
       have am : w4.cell? ⟨w0.heap.size, j, none⟩ = some (.bool (atB M j)) := by
        rw [blk_cell hin4.out.1.st.arr]; simp [atB, List.getD_eq_getElem?_getD, List.getElem?_eq_getElem hjM]
       have aF := blk_frozen hin4.out.1.st.arr j
       cases hmet : atB M j with
       | true =>
        rw [hmet] at am
        have HP : Hid (ZIn S k n u (i + 1) w0 w0.heap.size w4 (.slice ta N tc) ws M ∧ ws.length = N) := Lib.hid ⟨hin4.out.1.pass (by intro _; rw [← hf, hjn]; exact ⟨hjk, hmet⟩), hin4.out.2⟩
        clear hin4 hmem hf hjn hmet hk5 hj hjM aF HB4 hjk
        go_upto_region 12 with fail
        rw [← HW4.out]
        clear t0 t1 t2 t3 t4
        go_wp2_with fail
        go_roundg (Lf - (i + 1))
        case measure => omega
        case rel => exact ⟨i + 1, N, ws, M, ta, tc, by omega, hnN, hN, rfl, by go_num, rfl, HP⟩
       | false =>
        rw [hmet] at am
        obtain ⟨w5, hw5⟩ : ∃ w, w = w4.setCell ⟨w0.heap.size, j, none⟩ (.bool true) := ⟨_, rfl⟩
        have ks5 := kb_set w4 w0.heap.size j (.bool true)
        have ha5 : w5.heap[w0.heap.size]? = some (.cells ((M.set j true).map Value.bool).toArray 4 (0, 0)) := by
         rw [hw5, setCell_blk (i := j) hin4.out.1.st.arr (.bool true), List.map_set]; simp
        rw [← hw5] at ks5
        have hown5 := own_kb hin4.out.1.st.own ks5 (fun q hq e => by
         obtain ⟨c1, h3, -⟩ := own_block hin4.out.1.st.own hq
         exact obj_ne h3 hin4.out.1.st.arr (by decide) e)
        have k05 : KB F0 w0 w5 := hin4.out.1.st.kb.oldS ks5 (fun k hk e => by omega)
        have e3 : w5.cell? ⟨wi.heap.size, 3, none⟩ = some (.int .i64 (j : Nat)) := by
         have h4 := ks5.heap (b := wi.heap.size) (fun e => obj_ne HB4.out hin4.out.1.st.arr (by decide) e) HB4.out
         rw [← hj]
         exact blk_cell h4 3
        have HP := Lib.hid (fun (w' : World) (v' : Value) (hk : KB F0 w0 w') (ha : w'.heap[w0.heap.size]? = some (.cells ((M.set j true).map Value.bool).toArray 4 (0, 0))) (ho : w'.ownsRow w0.heap.size 3 1 v' (ws ++ [j]).length ((ws ++ [j]).map fun u => Value.int .i64 (u : Nat))) =>
         hin4.out.1.meet HH.out.2.1 (by rw [← HLF.out]; exact hil) (hf ▸ hk5) (by rw [← hf]; exact hjn) hjk hmet hk ha ho)
        have hbnd : N + 1 ≤ LS + 1 := by
         have h1 := left_set hjM hmet
         have h2 := hin4.out.1.st.bnd
         have h3 := hin4.out.2
         rw [HLS.out]; omega
        have HQ5 := Lib.hid (And.intro hown5 (And.intro ha5 (And.intro k05 hin4.out.2)))
        have HW5 := Lib.hid hw5
        have hz5 := k05.size
        clear hin4 hmem hf hjn hmet hk5 hj hjM hjk HB4 ha5 ks5 k05 hw5 hown5
        go_upto_region 12 with fail
        rw [← HW4.out]
        clear t0 t1 t2 t3 t4
        go_upto_region 17 with fail
        rw [← HW5.out]
        clear f0 f3 am aF
        go_wp2_with (at_builtin; refine Stopped.out ?_)
        refine ⟨?_⟩
        obtain ⟨w6, hw6⟩ : ∃ W, W = w5.alloc (.cells #[.int .i64 (j : Nat)] 3) := ⟨_, rfl⟩
        have k6 : KB F0 w5 w6 := by rw [hw6]; exact (KB.refl _ _).alloc _
        have hnb : w6.heap[w5.heap.size]? = some (.cells #[.int .i64 (j : Nat)] 3 (0, 0)) := by rw [hw6]; exact alloc_new _ _
        rw [show w5.alloc (.cells #[.int .i64 (j : Nat)] 3) = w6 from hw6.symm]
        have hown6 := own_kb HQ5.out.1 k6 (fun _ _ x => x)
        rw [HQ5.out.2.2.2] at hown6
        have s6 := k6.size
        refine app1 40 3 w0.heap.size (.int .i64 (j : Nat)) Tryz.infoIntV Tryz.underlying40 rfl hown6 rfl rfl rfl rfl (blk_cell hnb 0) rfl (by unfold maxLen; omega) (by omega) (by omega) ?_
        intro v' w' hown' hgr
        obtain ⟨va', vc', e', -⟩ := own_shape hown'
        have ha6 := k6.heap (fun x => x) HQ5.out.2.1
        have ha7 : w'.heap[w0.heap.size]? = some (.cells ((M.set j true).map Value.bool).toArray 4 (0, 0)) := by
         rw [hgr.block w0.heap.size (heap_lt ha6) (fun e => by
          obtain ⟨c1, h3, -⟩ := own_block hown6 e.symm
          exact obj_ne h3 ha6 (by decide) rfl)]; exact ha6
        have k7 : KB F0 w0 w' := (HQ5.out.2.2.1.trans k6).grown hgr (fun q e h => by
         have := (hown6.lt q e).1; omega)
        have hlen : (ws ++ [j]).length = N + 1 := by rw [List.length_append, HQ5.out.2.2.2]; rfl
        have HP2 : Hid (ZIn S k n u (i + 1) w0 w0.heap.size w' v' (ws ++ [j]) (M.set j true) ∧ (ws ++ [j]).length = N + 1) := Lib.hid ⟨HP.out _ _ k7 ha7 (by rw [hlen, app_ints]; exact hown'), hlen⟩
        rw [e'] at HP2 ⊢
        clear hown' hown6 hgr ha6 ha7 k7 k6 hnb hw6 e3 e' hlen s6 HP HQ5
        go_wp2_with fail
        go_roundg (Lf - (i + 1))
        case measure => omega
        case rel => exact ⟨i + 1, N + 1, _, _, va', vc', by omega, by omega, hbnd, rfl, by go_num, rfl, HP2⟩
     ·have hk5b : (f.k != 5) = true := by simpa using hk5
      have hk5c : (f.k == 5) = false := by simpa using hk5
      have HP : Hid (ZIn S k n u (i + 1) w0 w0.heap.size w4 (.slice ta N tc) ws M ∧ ws.length = N) := Lib.hid ⟨hin4.out.1.pass (by intro h; rw [← hf] at h; exact absurd h hk5), hin4.out.2⟩
      generalize f.k = fk at t0 f0 HW4 hk5b hk5c
      generalize f.m = fm at t1 HW4
      generalize f.r = fr at t2 HW4
      generalize f.s = fs at t3 f3 HW4
      clear hin4 hmem hf hk5 HB4
      go_upto_region 12 with fail
      rw [← HW4.out]
      clear t0 t1 t2 t3 t4
      go_wp2_with fail
      go_roundg (Lf - (i + 1))
      case measure => omega
      case rel => exact ⟨i + 1, N, ws, M, ta, tc, by omega, hnN, hN, rfl, by go_num, rfl, HP⟩
    ·obtain rfl : i = Lf := by omega
     have dI : decide ((i : Int) < (i : Int)) = false := decide_eq_false (by omega)
     have HN : Hid (ZSt S k w0 w0.heap.size wi (.slice ta N tc) ws M (n + 1) ∧ ws.length = N) := Lib.hid ⟨hin.out.1.next HLF.out, hin.out.2⟩
     clear hin hil
     go_wp2_with fail
     go_roundg (LS + 1 - (n + 1))
     case measure => omega
     case rel => exact ⟨n + 1, N, ws, M, ta, tc, by omega, hN, rfl, by go_num, rfl, HN⟩
  ·obtain rfl : n = N := by omega
   have dn : decide ((n : Int) < (n : Int)) = false := decide_eq_false (by omega)
   have HE : Hid (endB S k = false) := Lib.hid (hst.out.1.no hst.out.2.symm)
   have KK := Lib.hid hst.out.1.kb
   clear hst
   go_wp2_with fail
   go_ret
   exact ⟨ret_eq (congrArg Value.bool HE.out), KK.out⟩
end Go.Proofs.YtaeppaaolkcbbaaGreatDoor
