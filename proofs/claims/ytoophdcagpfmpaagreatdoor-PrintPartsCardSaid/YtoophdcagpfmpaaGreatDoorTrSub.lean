/- tree.Sub. -/
import Derived.Test.YtoophdcagpfmpaaGreatDoorMg15
import Derived.Test.YtoophdcagpfmpaaGreatDoorTreeZ
namespace Go.Proofs.YtoophdcagpfmpaaGreatDoor
open Go.RowKit

/-- A result that lies in a cell, and one in a slot. -/
theorem ret_cell_tmp {fn : Func} {R : Ending → World → Prop} {a : Act} {w : World} {p u X : Nat} {v : Value} (h : fn.results = #[.cell p 24, .tmp u]) (hp : a.tmps.getD p undef = .pointer (some ⟨X, 0, none⟩))
    (_hc : w.cell? ⟨X, 0, none⟩ = some v) (hd : a.defers = []) (hR : R (.returned (.tuple #[.agg #[v], a.tmps.getD u undef])) w) : bodyPost Tryz.prog fn R .ret a w := by
  refine bodyPost_ret (v := .tuple #[.agg #[v], a.tmps.getD u undef]) ?_ hd hR
  rw [results_cell_tmp h, hp]
  go_simp
/-- A part of a row of nodes. -/
theorem NodesAt.part {w : World} {b off : Nat} {ts : List Nd} (h : NodesAt w (some ⟨b, off, none⟩) ts) (n m : Nat) (_hm : n + m ≤ ts.length) : NodesAt w (some ⟨b, off + n * 5, none⟩) ((ts.drop n).take m) := by
  intro k hk
  have hk' : k < m := by simp at hk; omega
  obtain ⟨b', off', e, hnd⟩ := h (n + k) (by omega)
  simp only [Option.some.injEq, Addr.mk.injEq, and_true] at e
  obtain ⟨rfl, rfl⟩ := e
  refine ⟨b, off + n * 5, rfl, ?_⟩
  have e2 : ((ts.drop n).take m).getD k nd0 = ts.getD (n + k) nd0 := by
    simp [List.getD_eq_getElem?_getD, hk']
  rw [e2, show off + n * 5 + k * 5 = off + (n + k) * 5 by omega]
  exact hnd
/-- The part of a tree below a node, as a tree. -/
def subN (ts : List Nd) (n : Nat) : List Nd := ((ts.drop n).take (En ts n - n)).map (shN (-(n : Int)))
def subOk (ts : List Nd) (n : Int) : Bool := mayN ts && decide (0 ≤ n) && decide (n < (ts.length : Int))
def subT (ts : List Nd) (n : Int) : List Nd := if subOk ts n = true then subN ts n.toNat else []
def subE (ts : List Nd) (n : Int) : Nat := if subOk ts n = true then 0 else 2
theorem mem_part {ts : List Nd} {n m : Nat} {x : Nd} (h : x ∈ (ts.drop n).take m) : x ∈ ts := List.mem_of_mem_drop (List.mem_of_mem_take h)
theorem subN_len {ts : List Nd} (hg : Good ts) {n : Nat} (hn : n < ts.length) : (subN ts n).length = En ts n - n := by
  obtain ⟨-, h1, h2⟩ := En_spec hg hn
  simp [subN]; omega
theorem kids_of_mem {ts : List Nd} {n m : Nat} {x : Nd} (hx : x ∈ (ts.drop n).take m) : ∃ i, n ≤ i ∧ i < ts.length ∧ x = ts.getD i nd0 := by
  obtain ⟨k, hk, rfl⟩ := List.getElem_of_mem hx
  simp at hk
  refine ⟨n + k, by omega, by omega, ?_⟩
  simp [List.getD_eq_getElem?_getD, show n + k < ts.length by omega]

set_option maxRecDepth 100000 in
set_option maxHeartbeats 8000000 in
theorem sub_any (ts : List Nd) (hlen : ts.length < 100000000) (hok : ∀ x ∈ ts, NdOk x) (a : Option Addr) (cap : Nat) (hcap : ts.length ≤ cap) (n : Int) (_hn1 : -9223372036854775808 ≤ n) (_hn2 : n ≤ 9223372036854775807) (w : World) (hts : NodesAt w a ts) (hT : Tab w) :
    Calls Tryz.prog 27 #[.agg #[.slice a ts.length cap], .int .i64 n] w fun e w' => ∃ v ls, e = .returned (.tuple #[.agg #[v], .int .i64 (subE ts n : Nat)]) ∧ OwnTs w' w.heap.size v (subT ts n) ls ∧ KB F0 w w' := by
  obtain ⟨w0, rfl⟩ : ∃ w0, w0 = w := ⟨_, rfl⟩
  obtain ⟨N, hN⟩ : ∃ N, N = ts.length := ⟨_, rfl⟩
  have Hmay := Lib.hid (fun (W : World) (h : KB F0 w0 W) => may_any ts hlen hok a cap W (hts.kbF h) (hT.kb h))
  have HTS := Lib.hid (And.intro hts (And.intro hT hok))
  rw [← hN] at Hmay hlen hcap ⊢
  have HN := Lib.hid hN
  obtain ⟨W1, hW1⟩ : ∃ W1, W1 = ((w0.alloc (.cells #[.slice a N cap] 24)).alloc (.cells #[.slice none 0 0] 24)) := ⟨_, rfl⟩
  have k1 : KB F0 w0 W1 := by rw [hW1]; exact ((KB.refl _ _).alloc _).alloc _
  have b0 : W1.cell? ⟨w0.heap.size, 0, none⟩ = some (.slice a N cap) := by
    rw [hW1]; exact ((KB.refl F0 _).alloc _).cell (p := ⟨w0.heap.size, 0, none⟩) (fun x => x) (new_cell _ _ _ 0)
  have hs0 : (w0.alloc (.cells #[.slice a N cap] 24)).heap.size = w0.heap.size + 1 := by simp
  have b1 : W1.cell? ⟨w0.heap.size + 1, 0, none⟩ = some (.slice none 0 0) := by
    rw [hW1, ← hs0]; exact new_cell _ _ _ 0
  have hfz : W1.frozen? ⟨w0.heap.size + 1, 0, none⟩ = false := by
    have := alloc_new (w0.alloc (.cells #[.slice a N cap] 24)) (.cells #[.slice none 0 0] 24)
    rw [← hW1, hs0] at this
    simp [World.frozen?, this]
  have hs1 : W1.heap.size = w0.heap.size + 2 := by rw [hW1]; simp
  obtain ⟨R, hR⟩ : ∃ R, R = subT ts n := ⟨_, rfl⟩
  obtain ⟨E, hE⟩ : ∃ E, E = subE ts n := ⟨_, rfl⟩
  rw [← hR, ← hE]
  have HR := Lib.hid (And.intro hR hE)
  have H1 := Lib.hid (And.intro k1 (And.intro b0 (And.intro b1 (And.intro hfz hs1))))
  have HW1 := Lib.hid hW1
  clear hts hT hok hN hR hE k1 b0 b1 hfz hs1 hs0 hW1
  go_enter Tryz.func27, Tryz.ntmps27
  go_wp2_with fail
  rw [← HW1.out]
  refine (Hmay.out W1 H1.out.1).mono ?_
  rintro e W2 ⟨rfl, hk2⟩
  have b0 := hk2.cell (p := ⟨w0.heap.size, 0, none⟩) (fun x => x) H1.out.2.1
  have b1 := hk2.cell (p := ⟨w0.heap.size + 1, 0, none⟩) (fun x => x) H1.out.2.2.1
  have hfz : W2.frozen? ⟨w0.heap.size + 1, 0, none⟩ = false := by
    rw [World.frozen?_of_block (w := W1) (hk2.block (w0.heap.size + 1) (by rw [H1.out.2.2.2.2]; omega) (fun x => x))]; exact H1.out.2.2.2.1
  have HK2 := Lib.hid (H1.out.1.trans hk2)
  have Hfail : Hid (subOk ts n = false → (∃ ls, OwnTs ((W2.setCell ⟨w0.heap.size + 1, 0, none⟩ (.slice none 0 0))) w0.heap.size (.slice none 0 0) R ls) ∧ E = 2) := Lib.hid (fun h => by
    rw [HR.out.1, HR.out.2, subT, subE, h, if_neg (by decide), if_neg (by decide)]
    exact ⟨⟨[], ownTs_nil _ _⟩, rfl⟩)
  have Hkf : Hid (∀ v, KB F0 w0 (W2.setCell ⟨w0.heap.size + 1, 0, none⟩ v)) := Lib.hid (fun v => HK2.out.setCell (p := ⟨w0.heap.size + 1, 0, none⟩) (fun h => by
    have h1 : w0.heap.size + 1 < w0.heap.size := h; omega) v)
  have Hc1 := Lib.hid (World.cell?_setCell_same W2 ⟨w0.heap.size + 1, 0, none⟩ (.slice none 0 0) b1)
  clear hk2
  obtain ⟨m, hm⟩ : ∃ m, m = mayN ts := ⟨_, rfl⟩
  rw [← hm]
  have Hm := Lib.hid hm
  clear hm
  cases m
  · obtain ⟨⟨ls, hls⟩, hE⟩ := Hfail.out (by rw [subOk, ← Hm.out]; rfl)
    have HL := Lib.hid (And.intro hls hE)
    clear hls hE
    go_wp2
    (try simp only [Exit.inBlock, Exit.then])
    refine ret_cell_tmp rfl rfl Hc1.out rfl ?_
    exact ⟨_, ls, by rw [HL.out.2]; rfl, HL.out.1, Hkf.out _⟩
  · by_cases hneg : n < 0
    · obtain ⟨⟨ls, hls⟩, hE⟩ := Hfail.out (by rw [subOk, ← Hm.out]; simp [show ¬ 0 ≤ n by omega])
      have HL := Lib.hid (And.intro hls hE)
      have d1 : decide (n < 0) = true := by simpa using hneg
      clear hls hE hneg
      go_wp2
      (try simp only [Exit.inBlock, Exit.then])
      refine ret_cell_tmp rfl rfl Hc1.out rfl ?_
      exact ⟨_, ls, by rw [HL.out.2]; rfl, HL.out.1, Hkf.out _⟩
    · have d1 : decide (n < 0) = false := by simpa using hneg
      obtain ⟨q, rfl⟩ := Int.eq_ofNat_of_zero_le (show 0 ≤ n by omega)
      by_cases hbig : N ≤ q
      · obtain ⟨⟨ls, hls⟩, hE⟩ := Hfail.out (by rw [subOk, ← Hm.out, ← HN.out]; simp [show ¬ q < N by omega])
        have HL := Lib.hid (And.intro hls hE)
        clear hls hE hneg
        go_wp2
        (try simp only [Exit.inBlock, Exit.then])
        refine ret_cell_tmp rfl rfl Hc1.out rfl ?_
        exact ⟨_, ls, by rw [HL.out.2]; rfl, HL.out.1, Hkf.out _⟩
      · have hqN : q < N := by omega
        have hqN' : q < ts.length := by rw [← HN.out]; exact hqN
        obtain ⟨hg, hl16, hall, hdp⟩ := may_parts Hm.out.symm
        obtain ⟨he1, he2, he3⟩ := En_spec hg hqN'
        have hRE : R = subN ts q ∧ E = 0 := by
          rw [HR.out.1, HR.out.2, subT, subE, show subOk ts (q : Nat) = true by rw [subOk, ← Hm.out, ← HN.out]; simp [hqN], if_pos rfl, if_pos rfl]
          exact ⟨rfl, rfl⟩
        have hab := above_any ts (by omega) hg.1 (good_down hg) a cap W2 (HTS.out.1.kbF HK2.out)
        have hd := depths_above hg
        have hdb := depth_below hd ts.length q _ hqN' (by omega) he1
        have hdh := depth_behind hg hd q hqN' _ he1
        have hln := hd.len
        have hae := aboveN_le (good_down hg) ts.length (Nat.le_refl _)
        change ∀ j, (aboveL ts).getD j 0 ≤ ts.length at hae
        obtain ⟨D, hD⟩ : ∃ D, D = aboveL ts := ⟨_, rfl⟩
        rw [← hD] at hab hdb hdh hln hae
        obtain ⟨F, hF⟩ : ∃ F, F = En ts q := ⟨_, rfl⟩
        rw [← hF] at he2 he3 hdb hdh
        rw [← HN.out] at hab hdh he3 hln hl16 hae
        have HD := Lib.hid (And.intro hdb (And.intro hdh hae))
        have Hab := Lib.hid hab
        have HG := Lib.hid (And.intro hg (And.intro hF hRE))
        clear hab hdb hdh hD hg hF hRE hall hdp he1 hneg hbig hd hae hqN'
        go_wp2_with fail
        refine Hab.out.mono ?_
        rintro e W3 ⟨v, rfl, hown, hk3⟩
        obtain ⟨da, dc, rfl, hdc, hdm, hcells, -⟩ := own_shape hown
        obtain ⟨g, rfl, hg3, -⟩ := hcells 0 (by omega)
        have b0 := hk3.cell (p := ⟨w0.heap.size, 0, none⟩) (fun x => x) b0
        have b1 := hk3.cell (p := ⟨w0.heap.size + 1, 0, none⟩) (fun x => x) b1
        have hsz2 : w0.heap.size + 1 < W2.heap.size := heap_ltc (p := ⟨w0.heap.size + 1, 0, none⟩) (by assumption)
        have hfz3 : W3.frozen? ⟨w0.heap.size + 1, 0, none⟩ = false := by
          rw [World.frozen?_of_block (w := W2) (hk3.block (w0.heap.size + 1) hsz2 (fun x => x))]; exact hfz
        have hcl : ∀ j, j < N → W3.cell? ⟨g, j, none⟩ = some (.int .i64 (D.getD j 0 : Nat)) := fun j hj => by
          obtain ⟨g', e, -, hc⟩ := hcells j (by omega)
          simp only [Option.some.injEq, Addr.mk.injEq, and_true] at e
          subst e
          rw [hc, nats_get (by omega)]
        have HC := Lib.hid hcl
        have HK3 := Lib.hid (HK2.out.trans hk3)
        unfold maxLen at hdm
        clear hcells hown hk3 hcl Hfail Hkf Hc1 hsz2 hfz Hab
        have hNb : N ≤ 16384 := hl16
        obtain ⟨b, off, rfl, -⟩ := HTS.out.1 q (by rw [← HN.out]; exact hqN)
        have Hsh : Hid (∀ W, KB F0 w0 W → Calls Tryz.prog 61 #[.slice (some ⟨b, off + q * 5, none⟩) (F - q) (cap - q), .int .i64 (-(q : Int))] W fun e w' => ∃ v ls, e = .returned v ∧ OwnTs w' W.heap.size v R ls ∧ KB F0 W w') := Lib.hid (fun W hW => by
          have hlenp : ((ts.drop q).take (F - q)).length = F - q := by
            have := HN.out
            simp; omega
          have h := shifted_any ((ts.drop q).take (F - q)) (by rw [hlenp]; omega) (fun x hx => HTS.out.2.2 x (mem_part hx)) (fun x hx => by
            obtain ⟨i, hi1, hi2, rfl⟩ := kids_of_mem hx
            have h1 := good_len HG.out.1 hi2
            have := HN.out
            unfold kids at h1
            omega) (some ⟨b, off + q * 5, none⟩) (cap - q) (-(q : Int)) (fun x hx c hc => by
            obtain ⟨i, hi1, hi2, rfl⟩ := kids_of_mem hx
            have h1 := good_down HG.out.1 i hi2 c hc
            have := HN.out
            omega) W (((HTS.out.1).kbF hW).part q (F - q) (by have := HN.out; omega))
          rw [hlenp] at h
          rw [HG.out.2.2.1, subN, ← HG.out.2.1]
          exact h)
        go_wp2_with fail
        go_loopw [7] (fun ev wr => ∃ f : Nat, q + 1 ≤ f ∧ f ≤ F ∧ ev = .int .i64 f ∧ KB F0 W3 wr) (fun ev _ => N - (intOf ev).toNat)
        case atStart => exact ⟨q + 1, by omega, by omega, by go_num, KB.refl _ _⟩
        case round =>
          obtain ⟨f, hf1, hf2, rfl, hkb⟩ := hrel
          have hcq := hkb.cell (p := ⟨g, q, none⟩) (fun x => x) (HC.out q hqN)
          have b0 := hkb.cell (p := ⟨w0.heap.size, 0, none⟩) (fun x => x) b0
          have HKw := Lib.hid hkb
          have hdq := HD.out.2.2 q
          by_cases hfF : f < F
          · have hfN : f < N := by omega
            have hcf := hkb.cell (p := ⟨g, f, none⟩) (fun x => x) (HC.out f hfN)
            have hlt := HD.out.1 f (by omega) hfF
            have hdf := HD.out.2.2 f
            clear hkb
            generalize D.getD q 0 = dq at hcq hlt hdq
            generalize D.getD f 0 = df at hcf hlt hdf
            go_wp2_with fail
            refine wp_region_rv 15 GQ (kindV []) (by kernel_rfl) (by kernel_rfl) GQ.trans GQ.refl (GQ.start _) (kindV_mono _) ?_
            simp only [List.take_succ_cons, List.take_zero, List.drop_succ_cons, List.drop_zero]
            iterate 15 (refine rv_det (by kernel_rfl) rfl (by intro w hG hH; obtain ⟨n, rfl⟩ := hG; go_simp; first | done | with_reducible rfl) ?_; simp only [Act.put, List.setIfInBounds_toArray, List.set_cons_zero, List.set_cons_succ])
            refine rv_nil (fun w hG hH => ?_)
            obtain ⟨n, rfl⟩ := hG
            clear hH
            have HKn := Lib.hid (HKw.out.drewN n)
            clear hcq hcf b0
            go_wp2
            go_roundw
            case rel => exact ⟨f + 1, by omega, by omega, by go_num, HKn.out⟩
            case measure => simp [intOf]; omega
          · obtain rfl : f = F := by omega
            have b1 := hkb.cell (p := ⟨w0.heap.size + 1, 0, none⟩) (fun x => x) b1
            have hfz : wr.frozen? ⟨w0.heap.size + 1, 0, none⟩ = false := by
              rw [World.frozen?_of_block (w := W3) (hkb.block (w0.heap.size + 1) (heap_ltc (p := ⟨w0.heap.size + 1, 0, none⟩) (by assumption)) (fun x => x))]; exact hfz3
            by_cases hfN : f < N
            · have hcf := hkb.cell (p := ⟨g, f, none⟩) (fun x => x) (HC.out f hfN)
              have hle := HD.out.2.1 hfN
              have hdf := HD.out.2.2 f
              clear hkb
              generalize D.getD q 0 = dq at hcq hle hdq
              generalize D.getD f 0 = df at hcf hle hdf
              go_wp2_with fail
              refine wp_region_rv 15 GQ (kindV []) (by kernel_rfl) (by kernel_rfl) GQ.trans GQ.refl (GQ.start _) (kindV_mono _) ?_
              simp only [List.take_succ_cons, List.take_zero, List.drop_succ_cons, List.drop_zero]
              iterate 15 (refine rv_det (by kernel_rfl) rfl (by intro w hG hH; obtain ⟨n, rfl⟩ := hG; go_simp; first | done | with_reducible rfl) ?_; simp only [Act.put, List.setIfInBounds_toArray, List.set_cons_zero, List.set_cons_succ])
              refine rv_nil (fun w hG hH => ?_)
              obtain ⟨n, rfl⟩ := hG
              clear hH
              go_wp2_with fail
              refine (Hsh.out _ (HK3.out.trans (HKw.out.drewN n))).mono ?_
              rintro e W5 ⟨v, ls, rfl, hown, hk5⟩
              obtain ⟨a5, c5, rfl, -⟩ := hown.nodes
              have hwr := (HK3.out.trans HKw.out).size
              have b1 := hk5.cell (p := ⟨w0.heap.size + 1, 0, none⟩) (fun x => x) b1
              have hsw : w0.heap.size + 1 < wr.heap.size := heap_ltc (p := ⟨w0.heap.size + 1, 0, none⟩) (by assumption)
              have hfz : W5.frozen? ⟨w0.heap.size + 1, 0, none⟩ = false := by
                rw [World.frozen?_of_block (w := wr.drewN n) (hk5.block (w0.heap.size + 1) hsw (fun x => x))]; exact hfz
              have kX : KB (fun k => k = w0.heap.size + 1) W5 (W5.setCell ⟨w0.heap.size + 1, 0, none⟩ (.slice a5 R.length c5)) := (KB.refl (fun k => k = w0.heap.size + 1) W5).setCell (p := ⟨w0.heap.size + 1, 0, none⟩) (fun _ => rfl) _
              have hown6 := (hown.kb kX (fun g h1 h2 e => by
                have h3 : wr.heap.size ≤ g := h1
                omega)).base (B' := w0.heap.size) hwr
              have hkf : KB F0 w0 (W5.setCell ⟨w0.heap.size + 1, 0, none⟩ (.slice a5 R.length c5)) := ((HK3.out.trans (HKw.out.drewN n)).trans hk5).setCell (p := ⟨w0.heap.size + 1, 0, none⟩) (fun h => by
                have h1 : w0.heap.size + 1 < w0.heap.size := h; omega) _
              have Hc1 := Lib.hid (World.cell?_setCell_same W5 ⟨w0.heap.size + 1, 0, none⟩ (.slice a5 R.length c5) b1)
              have HF := Lib.hid (And.intro hown6 hkf)
              clear hown hk5 kX hown6 hkf
              go_wp2
              (try simp only [Exit.inBlock, Exit.then])
              refine ret_cell_tmp rfl rfl Hc1.out rfl ?_
              exact ⟨_, ls, by rw [HG.out.2.2.2]; rfl, HF.out.1, HF.out.2⟩
            · obtain rfl : f = N := by omega
              clear hkb
              go_wp2_with fail
              refine wp_region_rv 15 GQ (kindV []) (by kernel_rfl) (by kernel_rfl) GQ.trans GQ.refl (GQ.start _) (kindV_mono _) ?_
              simp only [List.take_succ_cons, List.take_zero, List.drop_succ_cons, List.drop_zero]
              iterate 5 (refine rv_det (by kernel_rfl) rfl (by intro w hG hH; obtain ⟨n, rfl⟩ := hG; go_simp; first | done | with_reducible rfl) ?_; simp only [Act.put, List.setIfInBounds_toArray, List.set_cons_zero, List.set_cons_succ])
              iterate 9 (refine rv_skip (by kernel_rfl) ?_; simp only [Act.put, List.setIfInBounds_toArray, List.set_cons_zero, List.set_cons_succ])
              refine rv_det (by kernel_rfl) rfl (by intro w hG hH; obtain ⟨n, rfl⟩ := hG; go_simp; first | done | with_reducible rfl) ?_
              simp only [Act.put, List.setIfInBounds_toArray, List.set_cons_zero, List.set_cons_succ]
              refine rv_nil (fun w hG hH => ?_)
              obtain ⟨n, rfl⟩ := hG
              clear hH
              go_wp2_with fail
              refine (Hsh.out _ (HK3.out.trans (HKw.out.drewN n))).mono ?_
              rintro e W5 ⟨v, ls, rfl, hown, hk5⟩
              obtain ⟨a5, c5, rfl, -⟩ := hown.nodes
              have hwr := (HK3.out.trans HKw.out).size
              have b1 := hk5.cell (p := ⟨w0.heap.size + 1, 0, none⟩) (fun x => x) b1
              have hsw : w0.heap.size + 1 < wr.heap.size := heap_ltc (p := ⟨w0.heap.size + 1, 0, none⟩) (by assumption)
              have hfz : W5.frozen? ⟨w0.heap.size + 1, 0, none⟩ = false := by
                rw [World.frozen?_of_block (w := wr.drewN n) (hk5.block (w0.heap.size + 1) hsw (fun x => x))]; exact hfz
              have kX : KB (fun k => k = w0.heap.size + 1) W5 (W5.setCell ⟨w0.heap.size + 1, 0, none⟩ (.slice a5 R.length c5)) := (KB.refl (fun k => k = w0.heap.size + 1) W5).setCell (p := ⟨w0.heap.size + 1, 0, none⟩) (fun _ => rfl) _
              have hown6 := (hown.kb kX (fun g h1 h2 e => by
                have h3 : wr.heap.size ≤ g := h1
                omega)).base (B' := w0.heap.size) hwr
              have hkf : KB F0 w0 (W5.setCell ⟨w0.heap.size + 1, 0, none⟩ (.slice a5 R.length c5)) := ((HK3.out.trans (HKw.out.drewN n)).trans hk5).setCell (p := ⟨w0.heap.size + 1, 0, none⟩) (fun h => by
                have h1 : w0.heap.size + 1 < w0.heap.size := h; omega) _
              have Hc1 := Lib.hid (World.cell?_setCell_same W5 ⟨w0.heap.size + 1, 0, none⟩ (.slice a5 R.length c5) b1)
              have HF := Lib.hid (And.intro hown6 hkf)
              clear hown hk5 kX hown6 hkf
              go_wp2
              (try simp only [Exit.inBlock, Exit.then])
              refine ret_cell_tmp rfl rfl Hc1.out rfl ?_
              exact ⟨_, ls, by rw [HG.out.2.2.2]; rfl, HF.out.1, HF.out.2⟩
end Go.Proofs.YtoophdcagpfmpaaGreatDoor
