/- graph.implied and its closure: what types' regions imply. graph.implied. -/
import Derived.Test.YtaeppaaolkcbbaaGreatDoorMg27
import Derived.Test.YtaeppaaolkcbbaaGreatDoorMg20
namespace Go.Proofs.YtaeppaaolkcbbaaGreatDoor
open Go.RowKit

def Arr88 (w : World) (X : Nat) (M : List Bool) : Prop := w.heap[X]? = some (.cells (M.map Value.bool).toArray 184 (0, 0))
theorem Arr88.kb {S : Nat → Prop} {w w' : World} {X : Nat} {M : List Bool} (h : Arr88 w X M) (hk : KB S w w') (hS : ¬ S X) : Arr88 w' X M := hk.heap hS h
theorem Arr88.cell {w : World} {X : Nat} {M : List Bool} (h : Arr88 w X M) {j : Nat} (hj : j < M.length) : w.cell? ⟨X, j, none⟩ = some (.bool (M.getD j false)) := by
 rw [blk_cell h j]
 simp [List.getD_eq_getElem?_getD, List.getElem?_eq_getElem hj]
theorem Arr88.set {w : World} {X : Nat} {M : List Bool} (h : Arr88 w X M) (j : Nat) : Arr88 (w.setCell ⟨X, j, none⟩ (.bool true)) X (M.set j true) := by
 have h1 := setCell_blk (i := j) h (.bool true)
 unfold Arr88
 rw [h1, List.map_set]
 simp
def impR (s : Int) (M : List Bool) (r : List Int) : List Bool := r.foldl (fun M x => M.set (x.toNat * 8 + s.toNat) true) M
def impF (M : List Bool) : List Int → List Bool
 | [] => M
 | s :: r => impF (impR s M r) r
theorem impR_len (s : Int) : ∀ (r : List Int) (M : List Bool), (impR s M r).length = M.length := by
 intro r
 induction r with
 | nil => exact fun _ => rfl
 | cons x r ih => exact fun M => by unfold impR; rw [List.foldl_cons]; exact (ih _).trans (by simp)
theorem impR_snoc (s : Int) (M : List Bool) (r : List Int) (x : Int) : impR s M (r ++ [x]) = (impR s M r).set (x.toNat * 8 + s.toNat) true := by simp [impR]
set_option maxRecDepth 100000 in
set_option maxHeartbeats 32000000 in
theorem grImplied1_any (X B3 B4 : Nat) (h3 : B3 ≠ X) (h4 : B4 ≠ X) : ∀ (l : List Int) (M : List Bool) (a : Option Addr) (c : Nat) (w : World), (∀ x ∈ l, 0 ≤ x ∧ x < 8) → M.length = 64 → l.length ≤ 1000000 → l.length ≤ c → IntsAt w a l → (∀ b o, a = some ⟨b, o, none⟩ → b ≠ X) → Arr88 w X M →
  w.cell? ⟨B3, 0, none⟩ = some (.pointer (some ⟨X, 0, none⟩)) → w.cell? ⟨B4, 0, none⟩ = some (.func (.func 163) #[] #[.pointer (some ⟨B3, 0, none⟩), .pointer (some ⟨B4, 0, none⟩)]) →
  Calls Tryz.prog 163 #[.slice a l.length c, .pointer (some ⟨B3, 0, none⟩), .pointer (some ⟨B4, 0, none⟩)] w fun e w' => e = .returned (.tuple #[]) ∧ KB (· = X) w w' ∧ Arr88 w' X (impF M l) := by
 intro l
 induction l with
 | nil =>
  intro M a c w _ _ _ _ _ _ hA _ _
  obtain ⟨w0, rfl⟩ : ∃ w0, w0 = w := ⟨_, rfl⟩
  have HA := Lib.hid hA
  clear hA
  go_enter Tryz.func163, Tryz.ntmps163
  go_wp2_with fail
  exact bodyPost_ret (v := .tuple #[]) (by apply results_none; rfl) rfl ⟨rfl, KB.refl _ _, HA.out⟩
 | cons s r ih =>
  intro M a c w hr hM hl hc hI hb hA c3 c4
  obtain ⟨w0, rfl⟩ : ∃ w0, w0 = w := ⟨_, rfl⟩
  obtain ⟨b, o, rfl, i0⟩ := hI 0 (by simp)
  have hbX := hb b o rfl
  obtain ⟨i, hi⟩ : ∃ i : Nat, s = (i : Nat) := ⟨s.toNat, by have := hr s (by simp); omega⟩
  have hi8 : i < 8 := by have := hr s (by simp); omega
  have i0' : w0.cell? ⟨b, o, none⟩ = some (.int .i64 (i : Nat)) := by rw [← hi]; exact i0
  obtain ⟨m, hm⟩ : ∃ m, m = r.length := ⟨_, rfl⟩
  have hlen : (s :: r).length = m + 1 := by rw [hm]; rfl
  rw [hlen] at hl hc ⊢
  have HH := Lib.hid (And.intro hr (And.intro hM (And.intro hI (And.intro hm (And.intro hA (And.intro c3 (And.intro c4 hi)))))))
  have hb1 : (1 : Int) ≤ ((m + 1 : Nat) : Int) := by omega
  have hne : ((m + 1 : Nat) : Int) ≠ 0 := by omega
  have hnat : ((((m + 1 : Nat) : Int) == 0) = false) := by simpa using hne
  clear hr hM hI hm hA hlen i0 hb c3 c4
  have IH := Lib.hid ih
  clear ih
  by_cases hc1 : c = 1
  ·obtain rfl : m = 0 := by omega
   subst hc1
   obtain rfl : r = [] := List.eq_nil_of_length_eq_zero HH.out.2.2.2.1.symm
   go_enter Tryz.func163, Tryz.ntmps163
   go_wp2_with fail
   go_loopw [12] (fun kv wr => kv = .int .i64 ((0 : Nat) : Int) ∧ wr = w0) (fun _ _ => 0)
   case atStart => exact ⟨rfl, rfl⟩
   case round =>
    obtain ⟨rfl, rfl⟩ := hrel
    have c3 := HH.out.2.2.2.2.2.1
    have c4 := HH.out.2.2.2.2.2.2.1
    have H9 := Lib.hid (fun V (hV : KB F0 wr V) => IH.out M (some ⟨b, o, none⟩) 0 V (fun x hx => by cases hx) HH.out.2.1 (by simp) (by simp) (fun q hq => by simp at hq) (fun b2 o2 e => by simp only [Option.some.injEq, Addr.mk.injEq, and_true] at e; rw [← e.1]; exact hbX) (HH.out.2.2.2.2.1.kb hV (fun x => x)) (hV.cell (p := ⟨B3, 0, none⟩) (fun x => x) c3) (hV.cell (p := ⟨B4, 0, none⟩) (fun x => x) c4))
    go_upto_region 6 with fail
    refine wp_region_rv 3 GQ (kindV []) (by kernel_rfl) (by kernel_rfl) GQ.trans GQ.refl (GQ.start _) (kindV_mono _) ?_
    simp only [pT, pU, pV, pW]
    iterate 3 (refine rv_det (by kernel_rfl) rfl (by intro w hG hH; obtain ⟨n, rfl⟩ := hG; go_simp; first | done | with_reducible rfl) ?_; simp only [Act.put, pA, pZ, pS])
    refine rv_nil (fun w hG hH => ?_)
    obtain ⟨n, rfl⟩ := hG
    clear hH
    obtain ⟨V, hV⟩ : ∃ V, V = wr.drewN n := ⟨_, rfl⟩
    have kV : KB F0 wr V := by rw [hV]; exact (KB.refl _ _).drewN _
    rw [← hV]
    have H8 := Lib.hid (H9.out V kV)
    have KV := Lib.hid kV
    clear hV kV c4 H9
    go_wp2_with fail
    refine H8.out.mono ?_
    rintro e w9 ⟨rfl, k9, a9⟩
    have HE := Lib.hid (And.intro ((KV.out.mono (fun _ _ x => x.elim)).trans k9) a9)
    clear k9 a9
    go_wp2_with fail
    go_end0
    exact ⟨rfl, HE.out.1, HE.out.2⟩
  ·go_enter Tryz.func163, Tryz.ntmps163
   go_wp2_with fail
   go_loopw [12] (fun kv wr => ∃ k : Nat, k ≤ m ∧ kv = .int .i64 (k : Nat) ∧ Hid (KB (· = X) w0 wr ∧ Arr88 wr X (impR s M (r.take k)))) (fun kv _ => m - (intOf kv).toNat)
   case atStart => exact ⟨0, by omega, rfl, Lib.hid ⟨KB.refl _ _, HH.out.2.2.2.2.1⟩⟩
   case round =>
    obtain ⟨k, hk, rfl, hst⟩ := hrel
    by_cases hlt : k < m
    ·have hkI : (k : Int) < (m : Int) := by omega
     have dk : decide ((k : Int) < (m : Int)) = true := decide_eq_true hkI
     have hkr : k < r.length := by rw [← HH.out.2.2.2.1]; exact hlt
     obtain ⟨j, hj⟩ : ∃ j : Nat, r.getD k 0 = (j : Nat) := ⟨(r.getD k 0).toNat, by
      have := HH.out.1 (r.getD k 0) (by rw [List.getD_eq_getElem?_getD, List.getElem?_eq_getElem hkr]; exact List.mem_cons_of_mem _ (List.getElem_mem _)); omega⟩
     have hj8 : j < 8 := by
      have := HH.out.1 (r.getD k 0) (by rw [List.getD_eq_getElem?_getD, List.getElem?_eq_getElem hkr]; exact List.mem_cons_of_mem _ (List.getElem_mem _)); omega
     have ik : wr.cell? ⟨b, o + 1 + k, none⟩ = some (.int .i64 (j : Nat)) := by
      obtain ⟨b2, o2, e2, h2⟩ := HH.out.2.2.1 (k + 1) (by simp; omega)
      simp only [Option.some.injEq, Addr.mk.injEq, and_true] at e2
      obtain ⟨rfl, rfl⟩ := e2
      rw [← hj]
      have h5 := hst.out.1.cell (p := ⟨b, o + (k + 1), none⟩) (fun e => hbX e) h2
      rw [show o + 1 + k = o + (k + 1) by omega]
      exact h5
     have i0 : wr.cell? ⟨b, o, none⟩ = some (.int .i64 (i : Nat)) := hst.out.1.cell (p := ⟨b, o, none⟩) (fun e => hbX e) i0'
     have c3 := hst.out.1.cell (p := ⟨B3, 0, none⟩) (fun e => h3 e) HH.out.2.2.2.2.2.1
     have HJ := Lib.hid hj
     have hiI : (i : Int) < 8 := by omega
     have hjI : (j : Int) < 8 := by omega
     clear hj
     go_upto_region 4 with fail
     refine wp_region_rv 8 GQ (kindV []) (by kernel_rfl) (by kernel_rfl) GQ.trans GQ.refl (GQ.start _) (kindV_mono _) ?_
     simp only [pT, pU, pV, pW]
     iterate 8 (refine rv_det (by kernel_rfl) rfl (by intro w hG hH; obtain ⟨n, rfl⟩ := hG; go_simp; first | done | with_reducible rfl) ?_; simp only [Act.put, pA, pZ, pS])
     refine rv_nil (fun w hG hH => ?_)
     obtain ⟨n, rfl⟩ := hG
     clear hH
     obtain ⟨V, hV⟩ : ∃ V, V = wr.drewN n := ⟨_, rfl⟩
     have kV : KB F0 wr V := by rw [hV]; exact (KB.refl _ _).drewN _
     rw [← hV]
     have hA := hst.out.2.kb kV (fun x => x)
     have hc := hA.cell (j := j * 8 + i) (by rw [impR_len, HH.out.2.1]; omega)
     have hf := blk_frozen hA (j * 8 + i)
     have HN : Hid (KB (· = X) w0 (V.setCell ⟨X, j * 8 + i, none⟩ (.bool true)) ∧ Arr88 (V.setCell ⟨X, j * 8 + i, none⟩ (.bool true)) X (impR s M (r.take (k + 1)))) := Lib.hid ⟨(hst.out.1.trans (kV.mono (fun _ _ x => x.elim))).trans (kb_set V X _ _), by
      rw [List.take_add_one, List.getElem?_eq_getElem hkr]
      show Arr88 _ X (impR s M (r.take k ++ [r[k]]))
      have hj := HJ.out
      rw [List.getD_eq_getElem?_getD, List.getElem?_eq_getElem hkr] at hj
      change r[k] = (j : Int) at hj
      have e : r[k].toNat * 8 + s.toNat = j * 8 + i := by have h1 := HH.out.2.2.2.2.2.2.2; omega
      rw [impR_snoc, e]
      exact hA.set _⟩
     clear hV kV hA ik i0 c3
     go_wp2_with fail
     exact ⟨⟨k + 1, by omega, by go_num, HN⟩, by simp [intOf]; omega⟩
    ·obtain rfl : k = m := by omega
     have dk : decide ((k : Int) < (k : Int)) = false := decide_eq_false (by omega)
     have c4 := hst.out.1.cell (p := ⟨B4, 0, none⟩) (fun e => h4 e) HH.out.2.2.2.2.2.2.1
     have HI : ∀ V, KB F0 wr V → Calls Tryz.prog 163 #[.slice (some ⟨b, o + 1, none⟩) k (c - 1), .pointer (some ⟨B3, 0, none⟩), .pointer (some ⟨B4, 0, none⟩)] V fun e w' => e = .returned (.tuple #[]) ∧ KB (· = X) V w' ∧ Arr88 w' X (impF M (s :: r)) := fun V hV => by
      have hkV : KB (· = X) w0 V := hst.out.1.trans (hV.mono (fun _ _ x => x.elim))
      have h := IH.out (impR s M r) (some ⟨b, o + 1, none⟩) (c - 1) V (fun x hx => HH.out.1 x (List.mem_cons_of_mem _ hx)) (by rw [impR_len]; exact HH.out.2.1) (by rw [← HH.out.2.2.2.1]; omega) (by rw [← HH.out.2.2.2.1]; omega)
       (fun q hq => by
        obtain ⟨b2, o2, e2, h2⟩ := HH.out.2.2.1 (q + 1) (by simp; omega)
        simp only [Option.some.injEq, Addr.mk.injEq, and_true] at e2
        obtain ⟨rfl, rfl⟩ := e2
        refine ⟨b, o + 1, rfl, ?_⟩
        rw [show o + 1 + q = o + (q + 1) by omega]
        exact hkV.cell (p := ⟨b, o + (q + 1), none⟩) (fun e => hbX e) h2)
       (fun b2 o2 e => by simp only [Option.some.injEq, Addr.mk.injEq, and_true] at e; rw [← e.1]; exact hbX)
       (by have h9 := hst.out.2.kb hV (fun x => x); rw [HH.out.2.2.2.1, List.take_length] at h9; exact h9)
       (hkV.cell (p := ⟨B3, 0, none⟩) (fun e => h3 e) HH.out.2.2.2.2.2.1) (hkV.cell (p := ⟨B4, 0, none⟩) (fun e => h4 e) HH.out.2.2.2.2.2.2.1)
      rw [← HH.out.2.2.2.1] at h
      exact h
     have HI2 := Lib.hid HI
     have HK := Lib.hid hst.out.1
     have hbk1 : (1 : Int) ≤ (k : Int) + 1 := by omega
     clear HI hst
     go_upto_region 6 with fail
     refine wp_region_rv 3 GQ (kindV []) (by kernel_rfl) (by kernel_rfl) GQ.trans GQ.refl (GQ.start _) (kindV_mono _) ?_
     simp only [pT, pU, pV, pW]
     iterate 3 (refine rv_det (by kernel_rfl) rfl (by intro w hG hH; obtain ⟨n, rfl⟩ := hG; go_simp; first | done | with_reducible rfl) ?_; simp only [Act.put, pA, pZ, pS])
     refine rv_nil (fun w hG hH => ?_)
     obtain ⟨n, rfl⟩ := hG
     clear hH
     obtain ⟨V, hV⟩ : ∃ V, V = wr.drewN n := ⟨_, rfl⟩
     have kV : KB F0 wr V := by rw [hV]; exact (KB.refl _ _).drewN _
     rw [← hV]
     have H9 := Lib.hid (HI2.out V kV)
     have KV := Lib.hid (HK.out.trans (kV.mono (fun _ _ x => x.elim)))
     clear hV kV c4
     go_wp2_with fail
     refine H9.out.mono ?_
     rintro e w9 ⟨rfl, k9, a9⟩
     have HE := Lib.hid (And.intro (KV.out.trans k9) a9)
     clear k9 a9
     go_wp2_with fail
     go_end0
     exact ⟨rfl, HE.out.1, HE.out.2⟩

def regX (t : Ty) : List Int := if lookB 32 48 t = true then regsF 48 t else []
def RegV (n : Nat) (v : Value) : Prop := ∃ ga gc, v = .slice ga n gc
def RegW (B : Nat) (l : List Int) (v : Value) (w : World) : Prop := ∃ ga gc, v = .slice ga l.length gc ∧ l.length ≤ gc ∧ IntsAt w ga l ∧ ∀ b o, ga = some ⟨b, o, none⟩ → B ≤ b
theorem regW_lasts (B : Nat) (l : List Int) : Lasts (RegW B l) := fun v a b hG ⟨ga, gc, h1, h2, h3, h4⟩ => ⟨ga, gc, h1, h2, h3.kb hG (fun _ _ _ x => x), h4⟩
theorem regW_own {w : World} {B C : Nat} (hB : C ≤ B) {v : Value} {l : List Int} (h : w.ownsRow B 3 1 v l.length (intsV l)) : RegW C l v w := by
 rcases h.2 with ⟨h1, h2⟩ | ⟨g, cap, cur, h1, h2, h3, h4, h5, h6, h7⟩
 ·exact ⟨none, 0, by rw [h1, h2], by omega, fun k hk => by omega, fun b o e => by cases e⟩
 ·refine ⟨_, cap, h1, h4, fun k hk => ⟨g, 0, rfl, ?_⟩, fun b o e => by simp only [Option.some.injEq, Addr.mk.injEq, and_true] at e; omega⟩
  rw [blk_cell h3, Nat.zero_add]
  have h8 : (intsV l)[k]? = some (.int .i64 (l.getD k 0)) := by
   simp [intsV, List.getD_eq_getElem?_getD, List.getElem?_eq_getElem hk]
  rw [← h7, List.getElem?_take, if_pos (by omega)] at h8
  simpa using h8
def impT (M : List Bool) (L : List Ty) : List Bool := L.foldl (fun M t => impF M (regX t)) M
theorem impT_snoc (M : List Bool) (L : List Ty) (t : Ty) : impT M (L ++ [t]) = impF (impT M L) (regX t) := by simp [impT]
theorem impF_len : ∀ (l : List Int) (M : List Bool), (impF M l).length = M.length := by
 intro l
 induction l with
 | nil => exact fun _ => rfl
 | cons s r ih => exact fun M => (ih _).trans (impR_len s r M)
theorem impT_len : ∀ (L : List Ty) (M : List Bool), (impT M L).length = M.length := by
 intro L
 induction L with
 | nil => exact fun _ => rfl
 | cons t L ih => exact fun M => (ih _).trans (impF_len _ M)
set_option maxRecDepth 100000 in
set_option maxHeartbeats 32000000 in
theorem grImplied_any (L : List Ty) (hl : L.length ≤ 1000000) (a : Option Addr) (c X : Nat) (M : List Bool) (hM : M.length = 64) (wb w : World) (hwb : KB F0 wb w) (hX : wb.heap.size ≤ X) (hT : TysAt 49 wb a L) (hr : ∀ t ∈ L, ∀ r ∈ regX t, 0 ≤ r ∧ r < 8) (hs : ∀ t ∈ L, (regX t).length ≤ 1000000) (hA : Arr88 w X M) :
  Calls Tryz.prog 155 #[.slice a L.length c, .pointer (some ⟨X, 0, none⟩)] w fun e w' => e = .returned (.tuple #[]) ∧ KB (· = X) w w' ∧ Arr88 w' X (impT M L) := by
 obtain ⟨w0, rfl⟩ : ∃ w0, w0 = w := ⟨_, rfl⟩
 have hXl := heap_lt hA
 obtain ⟨N, hN⟩ : ∃ N, N = L.length := ⟨_, rfl⟩
 rw [← hN] at hl ⊢
 obtain ⟨W, hW⟩ : ∃ W, W = w0.alloc (.cells #[.pointer (some ⟨X, 0, none⟩)] 186) := ⟨_, rfl⟩
 have kW : KB F0 w0 W := by rw [hW]; exact (KB.refl _ _).alloc _
 have bW : W.heap[w0.heap.size]? = some (.cells #[.pointer (some ⟨X, 0, none⟩)] 186 (0, 0)) := by rw [hW]; exact alloc_new _ _
 have hsz : W.heap.size = w0.heap.size + 1 := by rw [hW]; simp
 have HW := Lib.hid hW
 have HH := Lib.hid (And.intro hN (And.intro hM (And.intro hwb (And.intro hT (And.intro hr (And.intro hs hA))))))
 clear hN hM hwb hT hr hs hA hW
 go_enter Tryz.func155, Tryz.ntmps155
 go_upto_region 1 with fail
 rw [← HW.out]
 go_upto_region 2 with fail
 obtain ⟨W2, hW2⟩ : ∃ W2, W2 = W.alloc (.cells #[.nilFunc] 230) := ⟨_, rfl⟩
 have k2 : KB F0 W W2 := by rw [hW2]; exact (KB.refl _ _).alloc _
 have b2 : W2.heap[w0.heap.size + 1]? = some (.cells #[.nilFunc] 230 (0, 0)) := by rw [hW2, ← hsz]; exact alloc_new _ _
 rw [← hW2]
 have d0 : W2.cell? ⟨w0.heap.size + 1, 0, none⟩ = some .nilFunc := blk_cell b2 0
 have f0 := blk_frozen b2 0
 have hso : (store ⟨w0.heap.size + 1, 0, none⟩ (.func (.func 163) #[] #[.pointer (some ⟨w0.heap.size, 0, none⟩), .pointer (some ⟨w0.heap.size + 1, 0, none⟩)])).run Tryz.prog W2 = .ok () (W2.setCell ⟨w0.heap.size + 1, 0, none⟩ (.func (.func 163) #[] #[.pointer (some ⟨w0.heap.size, 0, none⟩), .pointer (some ⟨w0.heap.size + 1, 0, none⟩)])) := by
  rw [run_store _ _ _ _ _ rfl]
  simp [d0, f0]
 clear hW2
 go_upto_region 3 with fail
 obtain ⟨W3, hW3⟩ : ∃ W3, W3 = W2.setCell ⟨w0.heap.size + 1, 0, none⟩ (.func (.func 163) #[] #[.pointer (some ⟨w0.heap.size, 0, none⟩), .pointer (some ⟨w0.heap.size + 1, 0, none⟩)]) := ⟨_, rfl⟩
 rw [← hW3]
 have b3 := setCell_blk (i := 0) b2 (.func (.func 163) #[] #[.pointer (some ⟨w0.heap.size, 0, none⟩), .pointer (some ⟨w0.heap.size + 1, 0, none⟩)])
 rw [← hW3] at b3
 have c4 : W3.cell? ⟨w0.heap.size + 1, 0, none⟩ = some (.func (.func 163) #[] #[.pointer (some ⟨w0.heap.size, 0, none⟩), .pointer (some ⟨w0.heap.size + 1, 0, none⟩)]) := blk_cell b3 0
 have hk3 : KB (· = w0.heap.size + 1) W2 W3 := by rw [hW3]; exact kb_set _ _ _ _
 have c3 : W3.cell? ⟨w0.heap.size, 0, none⟩ = some (.pointer (some ⟨X, 0, none⟩)) := hk3.cell (p := ⟨w0.heap.size, 0, none⟩) (fun e => by have e' : w0.heap.size = w0.heap.size + 1 := e; omega) (blk_cell (k2.heap (fun x => x) bW) 0)
 have K3 := Lib.hid ((kW.trans k2).oldS hk3 (fun k hk e => by have e' : k = w0.heap.size + 1 := e; omega))
 have HC := Lib.hid (And.intro c3 c4)
 clear hW3 b3 hk3 b2 k2 d0 f0 kW bW c3 c4 hso
 go_wp2_with fail
 go_loopw [10] (fun kv wr => ∃ k : Nat, k ≤ N ∧ kv = .int .i64 (k : Nat) ∧ Hid (KB (· = X) W3 wr ∧ Arr88 wr X (impT M (L.take k)))) (fun kv _ => N - (intOf kv).toNat)
 case atStart => exact ⟨0, by omega, rfl, Lib.hid ⟨KB.refl _ _, HH.out.2.2.2.2.2.2.kb K3.out (fun x => x)⟩⟩
 case round =>
  obtain ⟨k, hk, rfl, hst⟩ := hrel
  have KB0 : Hid (KB F0 wb wr) := Lib.hid ((HH.out.2.2.1.trans K3.out).oldS hst.out.1 (fun i hi e => by have e' : i = X := e; omega))
  by_cases hlt : k < N
  ·have hkI : (k : Int) < (N : Int) := by omega
   have dk : decide ((k : Int) < (N : Int)) = true := decide_eq_true hkI
   have hkL : k < L.length := by rw [← HH.out.1]; exact hlt
   obtain ⟨tb, tf, ta, tc, rfl, hty, hta⟩ := (HH.out.2.2.2.1.kbF KB0.out) k hkL
   have e2 : L.getD k ty0 = L[k] := by rw [List.getD_eq_getElem?_getD, List.getElem?_eq_getElem hkL]; rfl
   rw [e2] at hty hta
   obtain ⟨t, ht⟩ : ∃ t, t = L[k] := ⟨_, rfl⟩
   rw [← ht] at hty hta
   obtain ⟨t0, t1, t2, t3, t4⟩ := hty
   have hmem : t ∈ L := by rw [ht]; exact List.getElem_mem _
   have HT : Hid (L.take (k + 1) = L.take k ++ [t]) := Lib.hid (by rw [List.take_add_one, List.getElem?_eq_getElem hkL, ht]; rfl)
   have HM := Lib.hid hmem
   clear ht e2 hmem
   go_upto_region 6 with fail
   obtain ⟨w2, h2⟩ : ∃ w2, w2 = wr.alloc (.cells #[.int .u8 t.k, .bool t.m, .int .i64 t.r, .int .i64 t.s, .slice ta t.of.length tc] 26) := ⟨_, rfl⟩
   obtain ⟨kt, bt⟩ := boxTy wr t ta tc
   rw [← h2] at kt bt ⊢
   clear h2 t0 t1 t2 t3 t4
   obtain ⟨t0, t1, t2, t3, t4⟩ := TyCells.of_block bt
   simp only [Nat.zero_add] at t0 t1 t2 t3 t4
   have hk2 : KB (· = X) W3 w2 := hst.out.1.trans (kt.mono (fun _ _ x => x.elim))
   have c4 : w2.cell? ⟨w0.heap.size + 1, 0, none⟩ = some (.func (.func 163) #[] #[.pointer (some ⟨w0.heap.size, 0, none⟩), .pointer (some ⟨w0.heap.size + 1, 0, none⟩)]) := hk2.cell (p := ⟨w0.heap.size + 1, 0, none⟩) (fun e => by have e' : w0.heap.size + 1 = X := e; omega) HC.out.2
   have RG := Lib.hid (fun V (hV : KB F0 w2 V) => tyRegions_any t ta tc V (hta.kbF (kt.trans hV)))
   have H2 := Lib.hid (And.intro kt hk2)
   unfold tyV at RG
   obtain ⟨n, hn⟩ : ∃ n, n = (regX t).length := ⟨_, rfl⟩
   have HNN := Lib.hid hn
   clear bt kt hk2 hta hn
   refine wp_region_rv 3 GK (kindW [(2, RegV n, RegW w2.heap.size (regX t))]) (by kernel_rfl) (by kernel_rfl) (kb_trans _) (kb_refl _) (kb_start _ _) (kindW_mono _ (by intro p hp; simp only [List.mem_cons, List.not_mem_nil, or_false] at hp; rcases hp with rfl <;> exact regW_lasts _ _)) ?_
   simp only [pT, pU, pV, pW]
   refine rv_det (by kernel_rfl) rfl (by intro w hG hH; have hc0 := kc hG (c4); go_simp; first | done | with_reducible rfl) ?_
   simp only [Act.put, pA, pZ, pS]
   refine rv_det (by kernel_rfl) rfl (by intro w hG hH; have hc0 := kc hG (t0); have hc1 := kc hG (t1); have hc2 := kc hG (t2); have hc3 := kc hG (t3); have hc4 := kc hG (t4); go_simp; first | done | with_reducible rfl) ?_
   simp only [Act.put, pA, pZ, pS]
   refine rv_rel (by kernel_rfl) rfl ⟨_, none, 0, rfl⟩ (by
    intro w hG hH
    refine opVal_call (by go_simp; first | done | exact ⟨⟨rfl, rfl⟩, rfl⟩) ?_
    refine (RG.out _ hG).mono ?_
    rintro e w' ⟨v, rfl, hown, hk⟩
    have hrw := regW_own (l := regX t) (C := w2.heap.size) hG.size hown
    obtain ⟨ga, gc, h1, h2, h3, h4⟩ := hrw
    exact ⟨_, rfl, ⟨ga, gc, by rw [HNN.out]; exact h1⟩, hk, ⟨ga, gc, h1, h2, h3, h4⟩⟩) ?_
   rintro v ⟨ga, gc, rfl⟩
   simp only [Act.put, pA, pZ, pS]
   refine rv_nil (fun w hG hH => ?_)
   obtain ⟨ga', gc', e1, e2, e3, e4⟩ := hH _ List.mem_cons_self
   rw [← HNN.out] at e1
   simp only [Value.slice.injEq, true_and] at e1
   obtain ⟨rfl, rfl⟩ := e1
   have hkw : KB (· = X) W3 w := H2.out.2.trans (hG.mono (fun _ _ x => x.elim))
   have H9 := Lib.hid (grImplied1_any X w0.heap.size (w0.heap.size + 1) (by omega) (by omega) (regX t) (impT M (L.take k)) ga gc w (HH.out.2.2.2.2.1 t HM.out) (by rw [impT_len]; exact HH.out.2.1) (HH.out.2.2.2.2.2.1 t HM.out) e2 e3
    (fun b o e => by
     have h1 := e4 b o e
     have h2 := hst.out.2
     have h3 := heap_lt h2
     have h4 := H2.out.1.size
     omega) (hst.out.2.kb (H2.out.1.trans hG) (fun x => x))
    (hkw.cell (p := ⟨w0.heap.size, 0, none⟩) (fun e => by have e' : w0.heap.size = X := e; omega) HC.out.1) (hkw.cell (p := ⟨w0.heap.size + 1, 0, none⟩) (fun e => by have e' : w0.heap.size + 1 = X := e; omega) HC.out.2))
   rw [← HNN.out] at H9
   have KW9 := Lib.hid hkw
   clear hH hG e2 e3 e4 hkw c4 t0 t1 t2 t3 t4 RG
   go_wp2_with fail
   refine H9.out.mono ?_
   rintro e w9 ⟨rfl, k9, a9⟩
   have HN : Hid (KB (· = X) W3 w9 ∧ Arr88 w9 X (impT M (L.take (k + 1)))) := Lib.hid ⟨KW9.out.trans k9, by rw [HT.out, impT_snoc]; exact a9⟩
   clear k9 a9
   go_wp2_with fail
   exact ⟨⟨k + 1, by omega, by go_num, HN⟩, by simp [intOf]; omega⟩
  ·obtain rfl : k = N := by omega
   have dk : decide ((k : Int) < (k : Int)) = false := decide_eq_false (by omega)
   have HE : Hid (KB (· = X) w0 wr ∧ Arr88 wr X (impT M L)) := Lib.hid ⟨(K3.out.mono (fun _ _ x => x.elim)).trans hst.out.1, by have h := hst.out.2; rw [HH.out.1, List.take_length] at h; exact h⟩
   clear hst
   go_wp2_with fail
   go_end0
   exact ⟨rfl, HE.out.1, HE.out.2⟩
end Go.Proofs.YtaeppaaolkcbbaaGreatDoor
