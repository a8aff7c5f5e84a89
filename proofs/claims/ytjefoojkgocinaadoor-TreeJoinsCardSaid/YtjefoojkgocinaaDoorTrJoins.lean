/- The law TreeJoins. -/
import Derived.Test.YtjefoojkgocinaaDoorTrHeld
import Derived.Test.YtjefoojkgocinaaDoorTrCJoin
import Derived.Test.YtjefoojkgocinaaDoorTrTrees
namespace Go.Proofs.YtjefoojkgocinaaDoor
open Go.RowKit

set_option maxRecDepth 100000 in
set_option maxHeartbeats 8000000 in
theorem treeJoins_any (x : Nd) (hx : NdOk x) (xa : Option Addr) (xc : Nat) (hxc : x.l.length ≤ xc) (_hxm : xc ≤ 9223372036854775807) (l : List (List Nd)) (hok : NdOks l) (a : Option Addr) (cap : Nat) (hcap : l.length ≤ cap) (_hcm : cap ≤ 9223372036854775807) (w : World)
    (h1 : IntsAt w xa x.l) (h2 : TreesAt w a l) (hT : Tab w) :
    Calls Tryd.prog 3 #[.agg #[.int .u8 (x.k : Nat), .int .i64 x.at_, .int .i64 x.n, .string x.s, .slice xa x.l.length xc], .slice a l.length cap] w fun e w' => e = .returned (.bool true) ∧ KB F0 w w' := by
  obtain ⟨w0, rfl⟩ : ∃ w0, w0 = w := ⟨_, rfl⟩
  have AW := Lib.hid (fun (W : World) (h : KB F0 w0 W) => awake_any W (hT.kb h))
  have HTS := Lib.hid (And.intro h1 (And.intro h2 (And.intro hT (And.intro hx hok))))
  obtain ⟨N, hN⟩ : ∃ N, N = l.length := ⟨_, rfl⟩
  obtain ⟨M, hM⟩ : ∃ M, M = x.l.length := ⟨_, rfl⟩
  rw [← hN] at hcap ⊢
  rw [← hM] at hxc ⊢
  have HN := Lib.hid (And.intro hN hM)
  obtain ⟨W1, hW1⟩ : ∃ W1, W1 = w0.alloc (.cells #[.int .u8 (x.k : Nat), .int .i64 x.at_, .int .i64 x.n, .string x.s, .slice xa M xc] 25) := ⟨_, rfl⟩
  have k1 : KB F0 w0 W1 := by rw [hW1]; exact (KB.refl _ _).alloc _
  have h0h : W1.heap[w0.heap.size]? = some (.cells #[.int .u8 (x.k : Nat), .int .i64 x.at_, .int .i64 x.n, .string x.s, .slice xa M xc] 25 (0, 0)) := by
    rw [hW1]; exact alloc_new _ _
  have hs1 : W1.heap.size = w0.heap.size + 1 := by rw [hW1]; simp
  have H1 := Lib.hid (And.intro k1 (And.intro h0h hs1))
  have HW1 := Lib.hid hW1
  have b4 : W1.cell? ⟨w0.heap.size, 4, none⟩ = some (.slice xa M xc) := blk_cell h0h 4
  rw [hW1] at b4
  clear h1 h2 hT hx hok hN hM hs1 hW1 k1 h0h
  by_cases hN3 : 300 < N
  · have d1 : decide ((300 : Int) < (N : Int)) = true := decide_eq_true (by omega)
    go_enter Tryd.func3, Tryd.ntmps3
    go_wp2_with fail
    rw [← HW1.out]
    refine (AW.out W1 H1.out.1).mono ?_
    rintro e W2 ⟨rfl, k2⟩
    have K2 := Lib.hid (H1.out.1.trans k2)
    clear k2
    go_wp2
    go_ret
    exact ⟨rfl, K2.out⟩
  have d1 : decide ((300 : Int) < (N : Int)) = false := decide_eq_false (by omega)
  by_cases hM3 : 16392 < M
  · have d2 : decide ((16392 : Int) < (M : Int)) = true := decide_eq_true (by omega)
    go_enter Tryd.func3, Tryd.ntmps3
    go_wp2_with fail
    rw [← HW1.out]
    refine (AW.out W1 H1.out.1).mono ?_
    rintro e W2 ⟨rfl, k2⟩
    have K2 := Lib.hid (H1.out.1.trans k2)
    clear k2
    go_wp2
    go_ret
    exact ⟨rfl, K2.out⟩
  have d2 : decide ((16392 : Int) < (M : Int)) = false := decide_eq_false (by omega)
  go_enter Tryd.func3, Tryd.ntmps3
  go_wp2_with fail
  rw [← HW1.out]
  clear b4
  go_loopw [7, 5, 6] (fun kv sv ov wr => ∃ (k s : Nat) (vs : List Value), k ≤ N ∧ kv = .int .i64 k ∧ sv = .int .i64 s ∧ s ≤ 60000 ∧ OwnTrs wr W1.heap.size ov (l.take k) vs ∧ KB F0 W1 wr ∧
      Hid (∀ c ∈ l.take k, c.length ≤ 16392 ∧ ∀ x ∈ c, x.l.length ≤ 16392)) (fun kv _ _ _ => N - (intOf kv).toNat)
  case atStart => exact ⟨0, 0, [], by omega, rfl, rfl, by omega, ownTrs_nil _ _, KB.refl _ _, Lib.hid (fun c hc => by simp at hc)⟩
  case round =>
    obtain ⟨k, s, vs, hk, rfl, rfl, hs, hown, hkb, hbd⟩ := hrel
    by_cases hlt : k < N
    · have hlt' : k < l.length := by rw [← HN.out.1]; exact hlt
      obtain ⟨b, off, rfl, ta, tc, hcl0, hnd, hc1, hc2⟩ := HTS.out.2.1 k hlt'
      have hcok := HTS.out.2.2.2.2 _ (trees_mem hlt')
      have htk := take_getD (d := []) hlt'
      have hdl : (l.take k).length = k := by rw [List.length_take]; omega
      have Hbd := Lib.hid (fun (h : (l.getD k []).length ≤ 16392 ∧ ∀ x ∈ l.getD k [], x.l.length ≤ 16392) => (show ∀ y ∈ l.take (k + 1), y.length ≤ 16392 ∧ ∀ x ∈ y, x.l.length ≤ 16392 from fun y hy => by
        rw [htk] at hy
        rcases List.mem_append.1 hy with hy | hy
        · exact hbd.out y hy
        · rw [List.mem_singleton] at hy; rw [hy]; exact h))
      generalize l.getD k [] = c at hcl0 hcok htk hnd hc1 Hbd
      obtain ⟨done, hdone⟩ : ∃ done, done = l.take k := ⟨_, rfl⟩
      rw [← hdone] at hown htk hdl
      have FT := Lib.hid (fun (W : World) (h : KB F0 w0 W) => fits_any c ta tc hc1 hc2 W (hnd.kbF h))
      have OW := Lib.hid (fun (hb : c.length ≤ 16392 ∧ ∀ x ∈ c, x.l.length ≤ 16392) (W : World) (h : KB F0 w0 W) => cown_any c (by omega) (fun x hx => by have := hb.2 x hx; omega) ta tc W (hnd.kbF h))
      obtain ⟨L, hL⟩ : ∃ L, L = c.length := ⟨_, rfl⟩
      rw [← hL] at hcl0 hc1 FT OW Hbd
      have HL := Lib.hid (And.intro hL (And.intro htk hdl))
      have hkb0 := H1.out.1.trans hkb
      have hcl := hkb0.cell (p := ⟨b, off + k, none⟩) (fun x => x) hcl0
      have HK := Lib.hid (And.intro hown (And.intro hkb hkb0))
      have Hcl := Lib.hid hcl0
      clear hown hkb hkb0 hcl0 hnd hcok hbd hdone hL htk
      go_wp2_with fail
      refine (FT.out wr HK.out.2.2).mono ?_
      rintro e W2 ⟨f, rfl, hf, k2⟩
      have K2 := Lib.hid (And.intro (HK.out.2.1.trans k2) (HK.out.2.2.trans k2))
      have HO2 := Lib.hid (HK.out.1.kbF k2)
      have Hf := Lib.hid hf
      clear k2 hf hcl
      cases f
      case false =>
        go_wp2_with fail
        refine (AW.out W2 K2.out.2).mono ?_
        rintro e W3 ⟨rfl, k3⟩
        have K3 := Lib.hid (K2.out.2.trans k3)
        clear k3
        go_wp2
        go_ret
        exact ⟨rfl, K3.out⟩
      by_cases hs3 : 32784 < s
      · have d3 : decide ((32784 : Int) < (s : Int)) = true := decide_eq_true (by omega)
        go_wp2_with fail
        refine (AW.out W2 K2.out.2).mono ?_
        rintro e W3 ⟨rfl, k3⟩
        have K3 := Lib.hid (K2.out.2.trans k3)
        clear k3
        go_wp2
        go_ret
        exact ⟨rfl, K3.out⟩
      have d3 : decide ((32784 : Int) < (s : Int)) = false := decide_eq_false (by omega)
      have hb := Lib.hid (Hf.out (by first | rfl | trivial))
      have hL1 : L ≤ 16392 := hb.out.1
      have hcl := K2.out.2.cell (p := ⟨b, off + k, none⟩) (fun x => x) Hcl.out
      go_wp2_with fail
      refine (OW.out hb.out W2 K2.out.2).mono ?_
      rintro e W3 ⟨u, ls, rfl, hu, k3⟩
      obtain ⟨ua, uc, rfl, -⟩ := hu.nodes
      have hs2 := K2.out.1.size
      have K3 := Lib.hid (And.intro (K2.out.1.trans k3) (K2.out.2.trans k3))
      have HO3 := Lib.hid (And.intro (HO2.out.kbF k3) (OwnTs.base hu (B' := W1.heap.size) hs2))
      clear k3 hu hcl
      go_wp2_with (at_builtin; refine Stopped.out ?_)
      refine ⟨?_⟩
      have ka : KB F0 W3 (W3.alloc (.cells #[.slice ua c.length uc] 31)) := (KB.refl _ _).alloc _
      have HA := Lib.hid (And.intro (HO3.out.1.kbF ka) (And.intro (HO3.out.2.kbF ka) (K3.out.1.trans ka)))
      have hs3' : W1.heap.size ≤ W3.heap.size := K3.out.1.size
      refine app1 26 31 W1.heap.size (.slice ua c.length uc) Tryd.infoTree Tryd.underlying26' rfl HA.out.1.row rfl rfl rfl rfl (new_cell _ _ _ 0) rfl (by unfold maxLen; omega) (by omega) (by simp; omega) ?_
      intro v' w' hown' hgr
      have hpush := HA.out.1.push HA.out.2.1 hown' hgr
      have hkb' := HA.out.2.2.grown hgr (fun g e h => by
        obtain ⟨-, -, hb⟩ := own_block HA.out.1.row e
        omega)
      rw [← HL.out.2.1] at hpush
      have HP := Lib.hid (And.intro hpush hkb')
      have Hbd' := Lib.hid (Hbd.out hb.out)
      clear hpush hkb' hown' hgr ka
      go_wp2
      go_roundw
      case rel => exact ⟨k + 1, s + L, _, by omega, by go_num, by go_num, by omega, HP.out.1, HP.out.2, Hbd'⟩
      case measure => simp [intOf]; omega
    · obtain rfl : k = N := by omega
      obtain ⟨Wl, rfl⟩ : ∃ Wl, Wl = wr := ⟨_, rfl⟩
      have hall : l.take k = l := List.take_of_length_le (by rw [← HN.out.1]; exact Nat.le_refl _)
      rw [hall] at hown
      have hbnd : ∀ c ∈ l, c.length ≤ 16392 ∧ ∀ x ∈ c, x.l.length ≤ 16392 := by
        have h := hbd.out
        rw [hall] at h
        exact h
      obtain ⟨oa, oc, rfl, -, hoc1, hoc2⟩ := hown.at_
      have e1 : Value.slice oa l.length oc = .slice oa k oc := by rw [HN.out.1]
      rw [← HN.out.1] at hoc1
      rw [e1] at hown ⊢
      have hkb0 := H1.out.1.trans hkb
      have hbx := hkb.heap (fun x => x) H1.out.2.1
      have b0 : Wl.cell? ⟨w0.heap.size, 0, none⟩ = some (.int .u8 (x.k : Nat)) := blk_cell hbx 0
      have b1 : Wl.cell? ⟨w0.heap.size, 1, none⟩ = some (.int .i64 x.at_) := blk_cell hbx 1
      have b2 : Wl.cell? ⟨w0.heap.size, 2, none⟩ = some (.int .i64 x.n) := blk_cell hbx 2
      have b3 : Wl.cell? ⟨w0.heap.size, 3, none⟩ = some (.string x.s) := blk_cell hbx 3
      have b4 : Wl.cell? ⟨w0.heap.size, 4, none⟩ = some (.slice xa M xc) := blk_cell hbx 4
      have kV : KB F0 Wl (Wl.alloc (.cells #[.int .u8 (x.k : Nat), .int .i64 x.at_, .int .i64 x.n, .string x.s, .slice xa M xc] 25)) := (KB.refl _ _).alloc _
      have bv4 := kV.cell (p := ⟨w0.heap.size, 4, none⟩) (fun x => x) b4
      have hX := alloc_new Wl (.cells #[.int .u8 (x.k : Nat), .int .i64 x.at_, .int .i64 x.n, .string x.s, .slice xa M xc] 25)
      have HK := Lib.hid (And.intro hown (And.intro hkb (And.intro hkb0 (And.intro hbx (And.intro hbnd (And.intro kV hX))))))
      clear hown hkb hkb0 hbx hbnd kV hX hall hbd e1
      go_wp2_with (at_builtin; refine Stopped.out ?_)
      refine ⟨?_⟩
      obtain ⟨V, hV⟩ : ∃ V, V = Wl.alloc (.cells #[.int .u8 (x.k : Nat), .int .i64 x.at_, .int .i64 x.n, .string x.s, .slice xa M xc] 25) := ⟨_, rfl⟩
      have hVs : V.heap.size = Wl.heap.size + 1 := by rw [hV]; simp
      rw [← hV] at bv4 HK ⊢
      obtain ⟨X, hXe⟩ : ∃ X, X = Wl.heap.size := ⟨_, rfl⟩
      rw [← hXe] at hVs HK ⊢
      have hXW : W1.heap.size ≤ X := by rw [hXe]; exact HK.out.2.1.size
      have hW1w : W1.heap.size = w0.heap.size + 1 := H1.out.2.2
      have HXe := Lib.hid (And.intro hXe hV)
      clear hV hXe b0 b1 b2 b3 b4 bv4
      refine wpList_append_copy 23 3 (X + 1) Tryd.infoInt Tryd.underlying23 rfl rfl rfl rfl x.l (by rw [HN.out.2]) (HTS.out.1.kbF (HK.out.2.2.1.trans HK.out.2.2.2.2.2.1)) (by omega) (by omega) ?_
      intro lv W2 hlv hkc
      have hX2 := hkc.heap (fun x => x) HK.out.2.2.2.2.2.2
      obtain ⟨lva, lvc, rfl, -⟩ := own_shape hlv
      have y4 : W2.cell? ⟨X, 4, none⟩ = some (.slice xa M xc) := blk_cell hX2 4
      have y4f := blk_frozen hX2 4
      have ks := kb_set W2 X 4 (.slice lva M lvc)
      obtain ⟨W3, hW3⟩ : ∃ W3, W3 = W2.setCell ⟨X, 4, none⟩ (.slice lva M lvc) := ⟨_, rfl⟩
      have hX3 : W3.heap[X]? = some (.cells #[.int .u8 (x.k : Nat), .int .i64 x.at_, .int .i64 x.n, .string x.s, .slice lva M lvc] 25 (0, 0)) := by
        rw [hW3]; exact setCell_blk (i := 4) hX2 (.slice lva M lvc)
      have hlv3 : W3.ownsRow (X + 1) 3 1 (.slice lva M lvc) M (ints x.l) := by
        rw [hW3]
        exact own_kb hlv ks (fun g e1 e2 => by
          obtain ⟨cu, h1, h2⟩ := own_block hlv e1
          omega)
      have k3 : KB F0 Wl W3 := by
        rw [hW3]
        exact (HK.out.2.2.2.2.2.1.trans hkc).setCell (p := ⟨X, 4, none⟩) (fun h => by
          have h1 : X < Wl.heap.size := h
          have := HXe.out.1
          omega) (.slice lva M lvc)
      have hi3 : IntsAt W3 lva x.l := by
        rw [HN.out.2] at hlv3
        obtain ⟨la', lc', e, hi, -⟩ := own_ints hlv3
        simp only [Value.slice.injEq] at e
        obtain ⟨rfl, -, -⟩ := e
        exact hi
      have hX3s : X < W3.heap.size := heap_lt hX3
      have HW3 := Lib.hid hW3
      have HQ := Lib.hid (And.intro hX3 (And.intro hlv3 (And.intro hi3 (And.intro k3 (HK.out.2.2.1.trans k3)))))
      have x0 : W3.cell? ⟨X, 0, none⟩ = some (.int .u8 (x.k : Nat)) := blk_cell hX3 0
      have x1 : W3.cell? ⟨X, 1, none⟩ = some (.int .i64 x.at_) := blk_cell hX3 1
      have x2 : W3.cell? ⟨X, 2, none⟩ = some (.int .i64 x.n) := blk_cell hX3 2
      have x3 : W3.cell? ⟨X, 3, none⟩ = some (.string x.s) := blk_cell hX3 3
      have x4 : W3.cell? ⟨X, 4, none⟩ = some (.slice lva M lvc) := blk_cell hX3 4
      rw [hW3] at x0 x1 x2 x3 x4
      clear hlv hkc hX2 ks hW3 hX3 hlv3 k3 hi3 hVs
      have hll : ∀ c ∈ l, c.length ≤ 20000 := fun c hc => by have := (HK.out.2.2.2.2.1 c hc).1; omega
      have JO := Lib.hid (fun (W : World) (h : KB F0 W3 W) => join_any x HTS.out.2.2.2.1 lva M lvc l (by have := HN.out.1; omega) hll HTS.out.2.2.2.2 oa oc W ((HK.out.1.kbF (HQ.out.2.2.2.1.trans h)).treesAt) (HTS.out.2.2.1.kb (HQ.out.2.2.2.2.trans h)))
      have CJ := Lib.hid (fun (W : World) (h : KB F0 W3 W) => cjoin_any x HTS.out.2.2.2.1 xa M xc l (by have := HN.out.1; omega) hll HTS.out.2.2.2.2 a cap W (HTS.out.2.1.kbF (HQ.out.2.2.2.2.trans h)) (HTS.out.2.2.1.kb (HQ.out.2.2.2.2.trans h)))
      have hRok : ∀ y ∈ joinT x l, NdOk y := joinT_ok HTS.out.2.2.2.1 HTS.out.2.2.2.2
      have hRl : (joinT x l).length < 100000000 := by
        have h1 := joinT_len (x := x) (l := l)
        have h2 := sizes_le hll
        have := HN.out.1
        omega
      obtain ⟨R, hR⟩ : ∃ R, R = joinT x l := ⟨_, rfl⟩
      obtain ⟨E, hE⟩ : ∃ E, E = joinE x l := ⟨_, rfl⟩
      rw [← HN.out.1] at JO CJ
      rw [← hR] at JO CJ hRok hRl
      rw [← hE] at JO CJ
      have HR := Lib.hid (And.intro hRok hRl)
      clear hR hE hRok hRl hll
      go_wp2_with fail
      rw [← HW3.out]
      clear x0 x1 x2 x3 x4 y4 y4f
      -- the first Join
      refine (JO.out W3 (KB.refl _ _)).mono ?_
      rintro e W4 ⟨v1, ls1, rfl, ho1, k4⟩
      obtain ⟨a1, c1, rfl, -⟩ := ho1.nodes
      obtain ⟨W5, hW5⟩ : ∃ W5, W5 = W4.alloc (.cells #[.slice a1 R.length c1] 31) := ⟨_, rfl⟩
      have kV : KB F0 W4 W5 := by rw [hW5]; exact (KB.refl _ _).alloc _
      have hav : W5.heap[W4.heap.size]? = some (.cells #[.slice a1 R.length c1] 31 (0, 0)) := by rw [hW5]; exact alloc_new _ _
      have k35 := k4.trans kV
      have hX5 := k35.heap (fun x => x) HQ.out.1
      have x0 : W5.cell? ⟨X, 0, none⟩ = some (.int .u8 (x.k : Nat)) := blk_cell hX5 0
      have x1 : W5.cell? ⟨X, 1, none⟩ = some (.int .i64 x.at_) := blk_cell hX5 1
      have x2 : W5.cell? ⟨X, 2, none⟩ = some (.int .i64 x.n) := blk_cell hX5 2
      have x3 : W5.cell? ⟨X, 3, none⟩ = some (.string x.s) := blk_cell hX5 3
      have x4 : W5.cell? ⟨X, 4, none⟩ = some (.slice lva M lvc) := blk_cell hX5 4
      rw [hW5] at x0 x1 x2 x3 x4
      have HW5 := Lib.hid hW5
      have hs34 := k4.size
      have h5 := Lib.hid (And.intro ho1 (And.intro kV (And.intro hav (And.intro k35 hX5))))
      clear ho1 k4 kV hav k35 hX5 hW5
      go_wp2_with fail
      rw [← HW5.out]
      clear x0 x1 x2 x3 x4
      -- the second Join
      refine (JO.out W5 h5.out.2.2.2.1).mono ?_
      rintro e W6 ⟨v2, ls2, rfl, ho2, k6⟩
      obtain ⟨a2, c2, rfl, -⟩ := ho2.nodes
      obtain ⟨W7, hW7⟩ : ∃ W7, W7 = W6.alloc (.cells #[.slice a2 R.length c2] 31) := ⟨_, rfl⟩
      have kV : KB F0 W6 W7 := by rw [hW7]; exact (KB.refl _ _).alloc _
      have hbv : W7.heap[W6.heap.size]? = some (.cells #[.slice a2 R.length c2] 31 (0, 0)) := by rw [hW7]; exact alloc_new _ _
      have k57 := k6.trans kV
      have k37 := h5.out.2.2.2.1.trans k57
      have hb7 := (HQ.out.2.2.2.1.trans k37).heap (fun x => x) HK.out.2.2.2.1
      have b0 : W7.cell? ⟨w0.heap.size, 0, none⟩ = some (.int .u8 (x.k : Nat)) := blk_cell hb7 0
      have b1 : W7.cell? ⟨w0.heap.size, 1, none⟩ = some (.int .i64 x.at_) := blk_cell hb7 1
      have b2 : W7.cell? ⟨w0.heap.size, 2, none⟩ = some (.int .i64 x.n) := blk_cell hb7 2
      have b3 : W7.cell? ⟨w0.heap.size, 3, none⟩ = some (.string x.s) := blk_cell hb7 3
      have b4 : W7.cell? ⟨w0.heap.size, 4, none⟩ = some (.slice xa M xc) := blk_cell hb7 4
      rw [hW7] at b0 b1 b2 b3 b4
      have HW7 := Lib.hid hW7
      have hs57 : W5.heap.size ≤ W6.heap.size := k6.size
      have h7 := Lib.hid (And.intro ho2 (And.intro kV (And.intro hbv (And.intro k37 k57))))
      clear ho2 k6 kV hbv k37 k57 hb7 hW7
      go_wp2_with fail
      rw [← HW7.out]
      clear b0 b1 b2 b3 b4
      -- the document's
      refine (CJ.out W7 h7.out.2.2.2.1).mono ?_
      rintro e W8 ⟨v3, ls3, rfl, ho3, k8⟩
      obtain ⟨a3, c3, rfl, -⟩ := ho3.nodes
      obtain ⟨W9, hW9⟩ : ∃ W9, W9 = W8.alloc (.cells #[.slice a3 R.length c3] 31) := ⟨_, rfl⟩
      have kV : KB F0 W8 W9 := by rw [hW9]; exact (KB.refl _ _).alloc _
      have hcv : W9.heap[W8.heap.size]? = some (.cells #[.slice a3 R.length c3] 31 (0, 0)) := by rw [hW9]; exact alloc_new _ _
      have k79 := k8.trans kV
      have k59 := h7.out.2.2.2.2.trans k79
      have pA : W9.cell? ⟨W4.heap.size, 0, none⟩ = some (.slice a1 R.length c1) := blk_cell (k59.heap (fun x => x) h5.out.2.2.1) 0
      have pB : W9.cell? ⟨W6.heap.size, 0, none⟩ = some (.slice a2 R.length c2) := blk_cell (k79.heap (fun x => x) h7.out.2.2.1) 0
      have pW : W9.cell? ⟨W8.heap.size, 0, none⟩ = some (.slice a3 R.length c3) := blk_cell hcv 0
      rw [hW9] at pA pB pW
      have hE1 : ((E : Int) != (E : Int)) = false := by simp
      have HW9 := Lib.hid hW9
      have h9 := Lib.hid (And.intro ho3 (And.intro kV (And.intro k79 (And.intro k59 (h7.out.2.2.2.1.trans k79)))))
      obtain ⟨ga, hsp⟩ := h5.out.1.spE
      have hA4 := h5.out.1.at_
      have k49 := h5.out.2.1.trans k59
      have HD := Lib.hid (held_any R HR.out.2 HR.out.1 W3.heap.size W4.heap.size W5.heap.size W7.heap.size ga c1 c2 c3 a1 a2 a3 ls1 ls2 ls3 _ W9 (fun h0 => ⟨(hsp h0).1.kb k49, (hsp h0).2⟩) hA4.2.1 hA4.2.2 k49.size (hA4.1.kbF k49)
        ((h7.out.1.kbF h7.out.2.1).kbF k79) (ho3.kbF kV) h5.out.2.1.size (Nat.le_trans h5.out.2.1.size h7.out.2.2.2.2.size))
      clear ho3 k8 kV hcv k79 k59 hW9 hsp hA4 k49
      go_wp2_with fail
      rw [← HW9.out]
      clear pA pB pW
      refine HD.out.mono ?_
      rintro e W10 ⟨rfl, kS⟩
      have C10 := (h9.out.2.2.2.2.mono (S' := SE W3.heap.size W4.heap.size) (fun _ _ x => x.elim)).trans kS
      have K10 := Lib.hid ((HQ.out.2.2.2.2.trans h9.out.2.2.2.2).above kS (fun k hk => by have := hk.1; have := HQ.out.2.2.2.2.size; omega))
      have hs3k := HQ.out.2.2.2.1.size
      have hT10 := HK.out.1.kbF HQ.out.2.2.2.1
      have hT10' := hT10.kb C10 (fun g _ h2 h3 => by have := h3.1; omega)
      have hX10 := C10.heap (fun h => by have := h.1; omega) HQ.out.1
      have hb10 := C10.heap (fun h => by have := h.1; have := HXe.out.1; omega) (HQ.out.2.2.2.1.heap (fun x => x) HK.out.2.2.2.1)
      have hi10 : IntsAt W10 lva x.l := by
        have h := own_kb HQ.out.2.1 C10 (fun g e1 e2 => by
          obtain ⟨cu, h1, h2⟩ := own_block HQ.out.2.1 e1
          have := heap_lt h1
          have := e2.1
          omega)
        rw [HN.out.2] at h
        obtain ⟨la', lc', e, hi, -⟩ := own_ints h
        simp only [Value.slice.injEq] at e
        obtain ⟨rfl, -, -⟩ := e
        exact hi
      have H10 := Lib.hid (And.intro hT10'.treesAt (And.intro hX10 (And.intro hb10 hi10)))
      clear kS C10 hT10 hT10' hX10 hb10 hi10
      go_wp2_with fail
      go_loopw [15] (fun kv wr => ∃ j : Nat, j ≤ k ∧ kv = .int .i64 j ∧ KB F0 W10 wr) (fun kv _ => k - (intOf kv).toNat)
      case atStart => exact ⟨0, by omega, rfl, KB.refl _ _⟩
      case round =>
        obtain ⟨j, hj, rfl, hkb⟩ := hrel
        by_cases hlt : j < k
        · have hlt' : j < l.length := by rw [← HN.out.1]; exact hlt
          obtain ⟨b1, o1, rfl, t1, u1, q1, n1, -⟩ := H10.out.1 j hlt'
          obtain ⟨b2, o2, rfl, t2, u2, q2, n2, -⟩ := HTS.out.2.1 j hlt'
          have hcok := HTS.out.2.2.2.2 _ (trees_mem hlt')
          have hcl := (HK.out.2.2.2.2.1 _ (trees_mem hlt')).1
          have r1 := hkb.cell (p := ⟨b1, o1 + j, none⟩) (fun x => x) q1
          have r2 := (K10.out.trans hkb).cell (p := ⟨b2, o2 + j, none⟩) (fun x => x) q2
          have EQ := Lib.hid (fun (W : World) (h : KB F0 wr W) => (eqT_refl true (l.getD j [])) ▸ cequal_any (l.getD j []) (l.getD j []) true (by omega) hcok hcok t1 t2 u1 u2 W (n1.kbF (hkb.trans h)) (n2.kbF ((K10.out.trans hkb).trans h)))
          generalize l.getD j [] = c at q1 q2 r1 r2 EQ hcl
          obtain ⟨L, hL⟩ : ∃ L, L = c.length := ⟨_, rfl⟩
          rw [← hL] at q1 q2 r1 r2 EQ
          have HK2 := Lib.hid hkb
          have R0 : ∀ w, GK wr w → w.cell? ⟨b1, o1 + j, none⟩ = some (.slice t1 L u1) := fun w hG => KB.cell hG (p := ⟨b1, o1 + j, none⟩) (fun x => x) r1
          have R1 : ∀ w, GK wr w → w.cell? ⟨b2, o2 + j, none⟩ = some (.slice t2 L u2) := fun w hG => KB.cell hG (p := ⟨b2, o2 + j, none⟩) (fun x => x) r2
          clear hkb n1 n2 q1 q2 hcok hL
          go_wp2_with fail
          refine wp_region_rv 10 GK (kindW [(8, fun v => v = .bool true, fun _ _ => True)]) (by kernel_rfl) (by kernel_rfl) (kb_trans _) (kb_refl _) (kb_start _ _) (kindW_mono _ (by
            intro p hp; simp only [List.mem_cons, List.not_mem_nil, or_false] at hp; subst hp; exact lasts_true)) ?_
          simp only [List.take_succ_cons, List.take_zero, List.drop_succ_cons, List.drop_zero]
          iterate 8 (refine rv_det (by kernel_rfl) rfl (by intro w hG hH; have hc0 := R0 w hG; have hc1 := R1 w hG; go_simp; first | done | with_reducible rfl) ?_; simp only [Act.put, List.setIfInBounds_toArray, List.set_cons_zero, List.set_cons_succ])
          refine rv_rel (by kernel_rfl) rfl ⟨_, rfl⟩ (by
            intro w hG hH
            refine opVal_call (by go_simp; first | done | exact ⟨⟨rfl, rfl⟩, rfl⟩) ?_
            refine (EQ.out w hG).mono ?_
            rintro e w' ⟨rfl, hq⟩
            exact ⟨_, rfl, rfl, hq, trivial⟩) ?_
          rintro v rfl
          simp only [Act.put, List.setIfInBounds_toArray, List.set_cons_zero, List.set_cons_succ]
          iterate 1 (refine rv_det (by kernel_rfl) rfl (by intro w hG hH; go_simp; first | done | with_reducible rfl) ?_; simp only [Act.put, List.setIfInBounds_toArray, List.set_cons_zero, List.set_cons_succ])
          refine rv_nil (fun w hG hH => ?_)
          have K22 := Lib.hid (HK2.out.trans hG)
          clear hG hH R0 R1 r1 r2
          go_wp2
          go_roundw
          case rel => exact ⟨j + 1, by omega, by go_num, K22.out⟩
          case measure => simp [intOf]; omega
        · obtain rfl : j = k := by omega
          have HK2 := Lib.hid (K10.out.trans hkb)
          have HK3 := Lib.hid hkb
          obtain ⟨Wm, rfl⟩ : ∃ Wm, Wm = wr := ⟨_, rfl⟩
          clear hkb
          go_wp2_with fail
          go_loopw [16] (fun kv wr => ∃ q : Nat, q ≤ M ∧ kv = .int .i64 q ∧ KB F0 W10 wr) (fun kv _ => M - (intOf kv).toNat)
          case atStart => exact ⟨0, by omega, rfl, HK3.out⟩
          case round =>
            obtain ⟨q, hq, rfl, hkb⟩ := hrel
            have hb := hkb.heap (fun x => x) H10.out.2.2.1
            have hX := hkb.heap (fun x => x) H10.out.2.1
            have b4 : wr.cell? ⟨w0.heap.size, 4, none⟩ = some (.slice xa M xc) := blk_cell hb 4
            have x4 : wr.cell? ⟨X, 4, none⟩ = some (.slice lva M lvc) := blk_cell hX 4
            by_cases hqt : q < M
            · have hqt' : q < x.l.length := by rw [← HN.out.2]; exact hqt
              obtain ⟨b1, o1, rfl, q1⟩ := H10.out.2.2.2 q hqt'
              obtain ⟨b2, o2, rfl, q2⟩ := HTS.out.1 q hqt'
              have r1 := hkb.cell (p := ⟨b1, o1 + q, none⟩) (fun x => x) q1
              have r2 := (K10.out.trans hkb).cell (p := ⟨b2, o2 + q, none⟩) (fun x => x) q2
              generalize x.l.getD q 0 = z at q1 q2 r1 r2
              have hz : (z != z) = false := by simp
              have HK4 := Lib.hid hkb
              have hlvc : M ≤ lvc := by
                obtain ⟨a', c', e, h1, h2, -⟩ := own_shape HQ.out.2.1
                simp only [Value.slice.injEq] at e
                omega
              clear hkb q1 q2 hb hX
              go_wp2_with fail
              refine wp_region_rv 11 GQ (kindV []) (by kernel_rfl) (by kernel_rfl) GQ.trans GQ.refl (GQ.start _) (kindV_mono _) ?_
              simp only [List.take_succ_cons, List.take_zero, List.drop_succ_cons, List.drop_zero]
              iterate 11 (refine rv_det (by kernel_rfl) rfl (by intro w hG hH; obtain ⟨n, rfl⟩ := hG; go_simp; first | done | with_reducible rfl) ?_; simp only [Act.put, List.setIfInBounds_toArray, List.set_cons_zero, List.set_cons_succ])
              refine rv_nil (fun w hG hH => ?_)
              obtain ⟨n, rfl⟩ := hG
              clear hH
              have K5 := Lib.hid (HK4.out.drewN n)
              clear b4 x4 r1 r2
              go_wp2
              go_roundw
              case rel => exact ⟨q + 1, by omega, by go_num, K5.out⟩
              case measure => simp [intOf]; omega
            · obtain rfl : q = M := by omega
              have HK4 := Lib.hid (K10.out.trans hkb)
              clear hkb hb hX
              go_wp2_with fail
              refine (AW.out wr HK4.out).mono ?_
              rintro e W12 ⟨rfl, k12⟩
              have K12 := Lib.hid (HK4.out.trans k12)
              clear k12
              go_wp2
              go_ret
              exact ⟨rfl, K12.out⟩
end Go.Proofs.YtjefoojkgocinaaDoor
