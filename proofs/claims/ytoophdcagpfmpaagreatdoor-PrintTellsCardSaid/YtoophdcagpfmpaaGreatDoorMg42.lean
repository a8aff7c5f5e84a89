/- The walk of loanwordref03.asks. The order of a tree's numbers; the walk of loanwordref03.walk. -/
import Derived.Test.YtoophdcagpfmpaaGreatDoorMg24
import Derived.Test.YtoophdcagpfmpaaGreatDoorMg41
import Derived.Test.YtoophdcagpfmpaaGreatDoorTreeU
namespace Go.Proofs.YtoophdcagpfmpaaGreatDoor
open Go.RowKit

/-- Is a node as its kind asks (the document's)? -/
def casksN (ts : List Nd) (x : Nd) : Bool := x.l.all (inB ts) && decide (x.l.length ≤ 16384) && fieldsB x.k x.at_ x.n x.s && chB x.k x.n x.s (x.l.map (kindOf ts))
theorem fieldsB_lim {k : Nat} {at_ n : Int} {s : ByteArray} (h : fieldsB k at_ n s = true) : (k = 4 → 0 ≤ n ∧ n ≤ 8) ∧ (k = 16 → n = 0 ∨ n = 1) := by
  unfold fieldsB at h
  simp only [Bool.and_eq_true, decide_eq_true_eq] at h
  obtain ⟨⟨⟨⟨-, h1, h2⟩, -⟩, -⟩, -⟩ := h
  constructor
  · rintro rfl
    exact ⟨h1, h2⟩
  · rintro rfl
    have h1' : (0 : Int) ≤ n := h1
    have h2' : n ≤ (1 : Int) := h2
    omega

set_option maxRecDepth 100000 in
set_option maxHeartbeats 8000000 in
theorem casks_any (a : Option Addr) (ts : List Nd) (cap i : Nat) (w : World) (_hlen : ts.length ≤ 20000) (hi : i < ts.length) (hts : NodesAt w a ts) (hok : ∀ x ∈ ts, NdOk x) (hT : Tab w) :
    Calls Tryz.prog 85 #[.agg #[.slice a ts.length cap], .int .i64 i] w fun e w' => e = .returned (.bool (casksN ts (ts.getD i nd0))) ∧ KB F0 w w' := by
  obtain ⟨w0, rfl⟩ : ∃ w0, w0 = w := ⟨_, rfl⟩
  obtain ⟨r, hr⟩ : ∃ r, r = casksN ts (ts.getD i nd0) := ⟨_, rfl⟩
  rw [← hr]
  obtain ⟨b, off, rfl, hx⟩ := hts i hi
  have hxo := hok _ (getD_memN hi)
  obtain ⟨x, hxd⟩ : ∃ x, x = ts.getD i nd0 := ⟨_, rfl⟩
  rw [← hxd] at hr hx hxo
  have Hr : Hid (r = (x.l.all (inB ts) && decide (x.l.length ≤ 16384) && fieldsB x.k x.at_ x.n x.s && chB x.k x.n x.s (x.l.map (kindOf ts)))) := Lib.hid hr
  obtain ⟨N, hN⟩ : ∃ N, N = ts.length := ⟨_, rfl⟩
  have ka := (KB.refl F0 w0).alloc (.cells #[.slice (some ⟨b, off, none⟩) N cap] 24)
  have hx1 := hx.kbF ka
  obtain ⟨la, lc, hl4, hints, hlc, hlm⟩ := hx1.l
  have c0 := hx1.k
  have c1 := hx1.at_
  have c2 := hx1.n
  have c3 := hx1.s
  have Hints := Lib.hid hints
  have HTS := Lib.hid (And.intro hts (And.intro hT (And.intro hok hxo)))
  have hat1 := hxo.at1
  have hat2 := hxo.at2
  obtain ⟨M, hM⟩ : ∃ M, M = x.l.length := ⟨_, rfl⟩
  rw [← hN] at _hlen hi ⊢
  rw [← hM] at hl4 hlc
  have HN := Lib.hid hN
  have HM := Lib.hid hM
  have hiN : (i : Int) < (N : Int) := by omega
  unfold maxLen at hlm
  clear hr hx hx1 hints hts hT hok hxo hxd ka hN hM
  go_enter Tryz.func85, Tryz.ntmps85
  go_wp2_with fail
  obtain ⟨B1, hB1⟩ : ∃ B1, B1 = ((w0.alloc (.cells #[.slice (some ⟨b, off, none⟩) N cap] 24)).alloc (.cells #[.int .u8 (x.k : Nat), .int .i64 x.at_, .int .i64 x.n, .string x.s, .slice la M lc] 44)) := ⟨_, rfl⟩
  rw [← hB1]
  have kA : KB F0 (w0.alloc (.cells #[.slice (some ⟨b, off, none⟩) N cap] 24)) B1 := by rw [hB1]; exact (KB.refl _ _).alloc _
  have k1 : KB F0 w0 B1 := ((KB.refl _ _).alloc _).trans kA
  have bt : B1.cell? ⟨w0.heap.size, 0, none⟩ = some (.slice (some ⟨b, off, none⟩) N cap) := kA.cell (p := ⟨w0.heap.size, 0, none⟩) (fun x => x) (new_cell _ _ _ 0)
  have hs1 : (w0.alloc (.cells #[.slice (some ⟨b, off, none⟩) N cap] 24)).heap.size = w0.heap.size + 1 := by simp
  have bx : ∀ q, B1.cell? ⟨w0.heap.size + 1, q, none⟩ = (#[.int .u8 (x.k : Nat), .int .i64 x.at_, .int .i64 x.n, .string x.s, .slice la M lc] : Array Value)[q]? := fun q => by
    rw [hB1, ← hs1]; exact new_cell _ _ _ q
  have hI := Hints.out.kbF kA
  have H1 := Lib.hid (And.intro k1 (And.intro bt (And.intro bx (And.intro hI (HTS.out.1.kbF k1)))))
  clear hB1 kA k1 bt hs1 bx hI Hints c0 c1 c2 c3 hl4
  go_loopw [7, 6] (fun iv v wr => ∃ j : Nat, j ≤ M ∧ j ≤ 16384 ∧ iv = .int .i64 j ∧ wr.ownsRow B1.heap.size 41 1 v j (kvals ts (x.l.take j)) ∧ Hid (∀ c ∈ x.l.take j, inB ts c = true) ∧ KB F0 B1 wr) (fun iv _ _ => M - (intOf iv).toNat)
  case atStart => exact ⟨0, by omega, by omega, rfl, World.ownsRow_nil _ _ _ _, (fun c hc => by simp at hc), KB.refl _ _⟩
  case round =>
    obtain ⟨j, hj, hj16, rfl, hown, hin, hkb⟩ := hrel
    have f4 := hkb.cell (p := ⟨w0.heap.size + 1, 4, none⟩) (fun x => x) (H1.out.2.2.1 4)
    by_cases hlt : j < M
    · obtain ⟨lb, lo, rfl, hcl⟩ := (H1.out.2.2.2.1) j (by rw [← HM.out]; exact hlt)
      have hcl := hkb.cell (p := ⟨lb, lo + j, none⟩) (fun x => x) hcl
      have hbt := hkb.cell (p := ⟨w0.heap.size, 0, none⟩) (fun x => x) H1.out.2.1
      have hmem := getD_memI (l := x.l) (k := j) (by rw [← HM.out]; exact hlt)
      have hrg := HTS.out.2.2.2.l _ hmem
      have htake : Hid (x.l.take (j + 1) = x.l.take j ++ [x.l.getD j 0]) := Lib.hid (by
        rw [List.take_succ_eq_append_getElem (by rw [← HM.out]; exact hlt), List.getD_eq_getElem?_getD, List.getElem?_eq_getElem (by rw [← HM.out]; exact hlt)]; rfl)
      have Hmem := Lib.hid hmem
      generalize x.l.getD j 0 = c at hcl hrg htake Hmem
      clear hmem
      have HK := Lib.hid (And.intro hown (And.intro hin hkb))
      clear hown hin hkb
      by_cases hc0 : c < 0
      · have hr2 : Hid (r = false) := Lib.hid (by
          rw [Hr.out]
          have : x.l.all (inB ts) = false := by rw [List.all_eq_false]; exact ⟨c, Hmem.out, by simp [inB]; omega⟩
          rw [this, Bool.false_and, Bool.false_and, Bool.false_and])
        have t1 : decide (c < 0) = true := by simpa using hc0
        clear hc0
        go_wp2
        go_ret
        exact ⟨ret_eq (by rw [hr2.out]; rfl), H1.out.1.trans HK.out.2.2⟩
      · have t1 : decide (c < 0) = false := by simpa using hc0
        obtain ⟨q, rfl⟩ := Int.eq_ofNat_of_zero_le (show 0 ≤ c by omega)
        by_cases hcN : N ≤ q
        · have hr2 : Hid (r = false) := Lib.hid (by
            rw [Hr.out]
            have : x.l.all (inB ts) = false := by rw [List.all_eq_false]; exact ⟨q, Hmem.out, by simp [inB, ← HN.out]; omega⟩
            rw [this, Bool.false_and, Bool.false_and, Bool.false_and])
          clear hc0
          go_wp2
          go_ret
          exact ⟨ret_eq (by rw [hr2.out]; rfl), H1.out.1.trans HK.out.2.2⟩
        · have hqN : (q : Int) < (N : Int) := by omega
          have hqn : q < N := by omega
          by_cases hbig : 16384 ≤ j
          · have hr2 : Hid (r = false) := Lib.hid (by
              rw [Hr.out, decide_eq_false (show ¬ x.l.length ≤ 16384 by rw [← HM.out]; omega)]; simp)
            have t2 : decide ((16384 : Int) ≤ (j : Int)) = true := by simp; omega
            clear hc0 hbig
            go_wp2
            go_ret
            exact ⟨ret_eq (by rw [hr2.out]; rfl), H1.out.1.trans HK.out.2.2⟩
          · have t2 : decide ((16384 : Int) ≤ (j : Int)) = false := by simp; omega
            have hj1 : j + 1 ≤ 16384 := by omega
            clear hbig
            obtain ⟨nb, no, e, hnd⟩ := H1.out.2.2.2.2 q (by rw [← HN.out]; exact hqn)
            simp only [Option.some.injEq, Addr.mk.injEq, and_true] at e
            obtain ⟨rfl, rfl⟩ := e
            have ck := HK.out.2.2.cell (p := ⟨b, off + q * 5, none⟩) (fun x => x) hnd.k
            obtain ⟨kq, hkq⟩ : ∃ kq, kq = (ts.getD q nd0).k := ⟨_, rfl⟩
            rw [← hkq] at ck
            have Hkq := Lib.hid hkq
            clear hkq hnd hc0 hcN
            go_wp2_with (at_builtin; refine Stopped.out ?_)
            refine ⟨?_⟩
            refine app1 150 41 B1.heap.size (.int .u8 (kq : Nat)) Tryz.infoKind Tryz.underlying150 rfl (HK.out.1.alloc _) rfl rfl rfl rfl (new_cell _ _ _ 0) rfl (by unfold maxLen; omega) (by omega) (by have := HK.out.2.2.size; simp; omega) ?_
            intro v' w' hown' hgr
            have hk' : KB F0 B1 w' := (HK.out.2.2.alloc _).grown hgr (own_ge HK.out.1 (Nat.le_refl _))
            have HK' : Hid (w'.ownsRow B1.heap.size 41 1 v' (j + 1) (kvals ts (x.l.take (j + 1))) ∧ (∀ c ∈ x.l.take (j + 1), inB ts c = true) ∧ KB F0 B1 w') := Lib.hid (by
              refine ⟨?_, ?_, hk'⟩
              · rw [htake.out]
                unfold kvals at hown' ⊢
                rw [List.map_append, List.map_cons, List.map_nil]
                have : kindOf ts (q : Int) = kq := by unfold kindOf; rw [Int.toNat_natCast, Hkq.out]
                rw [this]; exact hown'
              · rw [htake.out]
                intro c hc
                rw [List.mem_append, List.mem_singleton] at hc
                rcases hc with hc | rfl
                · exact HK.out.2.1.out c hc
                · simp [inB, ← HN.out]; omega)
            clear hown' hgr hk' ck
            go_wp2
            go_roundw
            case rel => exact ⟨j + 1, by omega, hj1, by go_num, HK'.out.1, HK'.out.2.1, HK'.out.2.2⟩
            case measure => simp [intOf]; omega
    · obtain rfl : M = j := by omega
      obtain ⟨va, vcap, rfl, hvc, -, hv0, -⟩ := own_shape hown
      have htk : x.l.take M = x.l := List.take_of_length_le (by rw [← HM.out]; exact Nat.le_refl _)
      rw [htk] at hv0 hin
      have hr3 : Hid (r = (fieldsB x.k x.at_ x.n x.s && chB x.k x.n x.s (x.l.map (kindOf ts)))) := Lib.hid (by
        rw [Hr.out]
        have : x.l.all (inB ts) = true := by rw [List.all_eq_true]; exact hin.out
        rw [this, decide_eq_true (show x.l.length ≤ 16384 by rw [← HM.out]; exact hj16)]; simp)
      have hKA : KindsAt wr va (x.l.map (kindOf ts)) := by
        intro q hq
        rw [List.length_map] at hq
        obtain ⟨g, e, _, hc⟩ := hv0 q (by rw [Nat.mul_one, HM.out]; exact hq)
        refine ⟨g, 0, e, ?_⟩
        rw [Nat.zero_add, hc]
        unfold kvals
        simp [List.getD_eq_getElem?_getD, hq]
      have hlenK : (x.l.map (kindOf ts)).length = M := by rw [List.length_map]; exact HM.out.symm
      have hb256 : ∀ y ∈ x.l.map (kindOf ts), y < 256 := by
        intro y hy
        rw [List.mem_map] at hy
        obtain ⟨c, _, rfl⟩ := hy
        unfold kindOf
        by_cases hin2 : c.toNat < ts.length
        · exact (HTS.out.2.2.1 _ (getD_memN hin2)).k
        · rw [List.getD_eq_getElem?_getD, List.getElem?_eq_none (by omega)]; exact nd0_ok.k
      have Kw := Lib.hid (H1.out.1.trans hkb)
      have hxk := HTS.out.2.2.2.k
      have f0 := hkb.cell (p := ⟨w0.heap.size + 1, 0, none⟩) (fun x => x) (H1.out.2.2.1 0)
      have f1 := hkb.cell (p := ⟨w0.heap.size + 1, 1, none⟩) (fun x => x) (H1.out.2.2.1 1)
      have f2 := hkb.cell (p := ⟨w0.heap.size + 1, 2, none⟩) (fun x => x) (H1.out.2.2.1 2)
      have f3 := hkb.cell (p := ⟨w0.heap.size + 1, 3, none⟩) (fun x => x) (H1.out.2.2.1 3)
      have HF := Lib.hid (fields_any x.k HTS.out.2.2.2.k x.at_ x.n x.s la M lc wr HTS.out.2.2.2.s HTS.out.2.2.2.n2)
      have hch := fun W (hk : KB F0 wr W) (hf : fieldsB x.k x.at_ x.n x.s = true) => children_any x.k x.at_ x.n x.s la M lc va (x.l.map (kindOf ts)) vcap W (by rw [hlenK]; exact hj16) hb256 (hKA.kbF hk) (fieldsB_lim hf).1 (fieldsB_lim hf).2
      rw [hlenK] at hch
      have HCh := Lib.hid hch
      generalize chB x.k x.n x.s (x.l.map (kindOf ts)) = bc at HCh hr3
      generalize fieldsB x.k x.at_ x.n x.s = bf at HF HCh hr3
      have Kc := Lib.hid hkb
      obtain ⟨k, hk⟩ : ∃ k, k = x.k := ⟨_, rfl⟩
      rw [← hk] at HF HCh f0 hxk
      clear hown hkb hv0 hin htk hKA hlenK hch hk Hr hb256
      cases bf
      · go_wp2_with fail
        refine HF.out.mono ?_
        rintro e w' ⟨rfl, hk'⟩
        go_wp2_with fail
        go_ret
        exact ⟨ret_eq (by rw [hr3.out]; rfl), Kw.out.trans hk'⟩
      · cases bc
        all_goals
          go_wp2_with fail
          refine HF.out.mono ?_
          rintro e w' ⟨rfl, hk'⟩
          replace f0 := hk'.cell (p := ⟨w0.heap.size + 1, 0, none⟩) (fun x => x) f0
          replace f1 := hk'.cell (p := ⟨w0.heap.size + 1, 1, none⟩) (fun x => x) f1
          replace f2 := hk'.cell (p := ⟨w0.heap.size + 1, 2, none⟩) (fun x => x) f2
          replace f3 := hk'.cell (p := ⟨w0.heap.size + 1, 3, none⟩) (fun x => x) f3
          replace f4 := hk'.cell (p := ⟨w0.heap.size + 1, 4, none⟩) (fun x => x) f4
          have HC := Lib.hid (HCh.out _ hk' (by first | rfl | trivial))
          go_wp2_with fail
          refine HC.out.mono ?_
          rintro e w'' ⟨rfl, hk''⟩
          go_wp2
          go_ret
          exact ⟨ret_eq (by rw [hr3.out]; rfl), (Kw.out.trans hk').trans hk''⟩
end Go.Proofs.YtoophdcagpfmpaaGreatDoor

namespace Go.Proofs.YtoophdcagpfmpaaGreatDoor
open Go.RowKit

/-- What walk answers. -/
def WRes (N : Nat) : Option Nat → Ending → Prop
  | some k, e => e = .returned (.tuple #[.int .i64 (k : Nat), .int .i64 0])
  | none, e => ∃ at_ : Nat, at_ < N ∧ e = .returned (.tuple #[.int .i64 (-1), .int .i64 (at_ : Nat)])

set_option maxRecDepth 100000 in
set_option maxHeartbeats 8000000 in
theorem cwalk_any (ts : List Nd) (hlen : ts.length ≤ 20000) (hok : ∀ x ∈ ts, NdOk x) (a : Option Addr) (cap : Nat) (f : Nat) : ∀ (n : Nat) (nx : Int) (w : World), n < ts.length → ts.length ≤ n + f → nx = (n : Int) + 1 → NodesAt w a ts →
    Calls Tryz.prog 84 #[.agg #[.slice a ts.length cap], .int .i64 n, .int .i64 nx] w fun e w' => WRes ts.length (walkF ts f n) e ∧ KB F0 w w' := by
  induction f with
  | zero => intro n nx w h1 h2; omega
  | succ f ih =>
    intro n nx w hi hf hnx hts
    subst hnx
    obtain ⟨w0, rfl⟩ : ∃ w0, w0 = w := ⟨_, rfl⟩
    obtain ⟨r, hr⟩ : ∃ r, r = walkF ts (f + 1) n := ⟨_, rfl⟩
    rw [← hr]
    obtain ⟨b, off, rfl, hx⟩ := hts n hi
    have hxo := hok _ (getD_memN hi)
    obtain ⟨x, hxd⟩ : ∃ x, x = ts.getD n nd0 := ⟨_, rfl⟩
    rw [← hxd] at hx hxo
    have Hr : Hid (r = walkC (walkF ts f) ts.length x.l (n + 1)) := Lib.hid (by rw [hr, hxd]; rfl)
    obtain ⟨N, hN⟩ : ∃ N, N = ts.length := ⟨_, rfl⟩
    obtain ⟨la, lc, hl4, hints, hlc, hlm⟩ := hx.l
    have Ih := Lib.hid ih
    have HTS := Lib.hid (And.intro hts hxo)
    obtain ⟨M, hM⟩ : ∃ M, M = x.l.length := ⟨_, rfl⟩
    rw [← hN] at hlen hi hf ⊢
    rw [← hM] at hl4 hlc
    have HN := Lib.hid hN
    have HM := Lib.hid hM
    have hiN : (n : Int) < (N : Int) := by omega
    unfold maxLen at hlm
    have H4 := Lib.hid (And.intro hl4 hints)
    clear hr hx hts hok hxo hxd hN hM ih hl4 hints
    go_enter Tryz.func84, Tryz.ntmps84
    go_wp2_with fail
    obtain ⟨B1, hB1⟩ : ∃ B1, B1 = (w0.alloc (.cells #[.slice (some ⟨b, off, none⟩) N cap] 24)) := ⟨_, rfl⟩
    rw [← hB1]
    have k1 : KB F0 w0 B1 := by rw [hB1]; exact (KB.refl _ _).alloc _
    have bt : B1.cell? ⟨w0.heap.size, 0, none⟩ = some (.slice (some ⟨b, off, none⟩) N cap) := by rw [hB1]; exact new_cell _ _ _ 0
    have H1 := Lib.hid (And.intro k1 (And.intro bt (And.intro (k1.cell (p := ⟨b, off + n * 5 + 4, none⟩) (fun x => x) H4.out.1) (And.intro (H4.out.2.kbF k1) (HTS.out.1.kbF k1)))))
    clear hB1 k1 bt H4
    go_loopw [8, 2] (fun iv mv wr => ∃ j m : Nat, j ≤ M ∧ n < m ∧ m ≤ N ∧ iv = .int .i64 j ∧ mv = .int .i64 m ∧ Hid (r = walkC (walkF ts f) ts.length (x.l.drop j) m) ∧ KB F0 B1 wr) (fun iv _ _ => M - (intOf iv).toNat)
    case atStart => exact ⟨0, n + 1, by omega, by omega, by omega, rfl, rfl, (by rw [List.drop_zero]; exact Hr), KB.refl _ _⟩
    case round =>
      obtain ⟨j, m, hj, hnm, hmN, rfl, rfl, hw, hkb⟩ := hrel
      have f4 := hkb.cell (p := ⟨b, off + n * 5 + 4, none⟩) (fun x => x) H1.out.2.2.1
      have hbt := hkb.cell (p := ⟨w0.heap.size, 0, none⟩) (fun x => x) H1.out.2.1
      have HK := Lib.hid hkb
      by_cases hlt : j < M
      · obtain ⟨lb, lo, rfl, hcl⟩ := (H1.out.2.2.2.1) j (by rw [← HM.out]; exact hlt)
        have hcl := hkb.cell (p := ⟨lb, lo + j, none⟩) (fun x => x) hcl
        have hrg := HTS.out.2.l _ (getD_memI (l := x.l) (k := j) (by rw [← HM.out]; exact hlt))
        have hdrop : Hid (x.l.drop j = x.l.getD j 0 :: x.l.drop (j + 1)) := Lib.hid (by
          rw [List.drop_eq_getElem_cons (by rw [← HM.out]; exact hlt), List.getD_eq_getElem?_getD, List.getElem?_eq_getElem (by rw [← HM.out]; exact hlt)]; rfl)
        generalize x.l.getD j 0 = c at hcl hrg hdrop
        have hw' : Hid (r = if c = (m : Int) ∧ m < N then (walkF ts f m).bind (walkC (walkF ts f) ts.length (x.l.drop (j + 1))) else none) := Lib.hid (by
          rw [hw.out, hdrop.out, walkC, ← HN.out])
        clear hkb hw hdrop
        by_cases hcm : c = (m : Int)
        · by_cases hmN2 : m < N
          · subst hcm
            have hr2 : Hid (r = (walkF ts f m).bind (walkC (walkF ts f) ts.length (x.l.drop (j + 1)))) := Lib.hid (by rw [hw'.out, if_pos ⟨rfl, hmN2⟩])
            have HC := Lib.hid (Ih.out m ((m : Int) + 1) wr (by rw [← HN.out]; exact hmN2) (by have := HN.out; omega) rfl (H1.out.2.2.2.2.kbF HK.out))
            have hle : Hid (∀ k, walkF ts f m = some k → m < k ∧ k ≤ N) := Lib.hid (by
              intro k hk
              have := walkF_le ts f m k (by rw [← HN.out]; exact hmN2) hk
              rw [← HN.out] at this; exact this)
            rw [← HN.out] at HC
            clear hw' Hr
            generalize walkF ts f m = o at HC hr2 hle
            cases o with
            | none =>
              go_wp2_with fail
              refine HC.out.mono ?_
              rintro e w' ⟨⟨q, hq, rfl⟩, hk'⟩
              go_wp2
              go_ret2
              refine ⟨?_, (H1.out.1.trans HK.out).trans hk'⟩
              rw [hr2.out]
              exact ⟨q, hq, rfl⟩
            | some k =>
              have hk1 := (hle.out k rfl).1
              have hk2 := (hle.out k rfl).2
              have hr3 : Hid (r = walkC (walkF ts f) ts.length (x.l.drop (j + 1)) k) := hr2
              clear hr2 hle
              go_wp2_with fail
              refine HC.out.mono ?_
              rintro e w' ⟨rfl, hk'⟩
              go_wp2
              go_roundw
              case rel => exact ⟨j + 1, k, by omega, by omega, by omega, by go_num, rfl, hr3, HK.out.trans hk'⟩
              case measure => simp [intOf]; omega
          · have hr2 : Hid (r = none) := Lib.hid (by rw [hw'.out, if_neg (fun h => hmN2 h.2)])
            subst hcm
            have hNm : N ≤ m := by omega
            clear hw'
            go_wp2
            go_ret2
            refine ⟨?_, H1.out.1.trans HK.out⟩
            rw [hr2.out]
            exact ⟨n, hi, rfl⟩
        · have hr2 : Hid (r = none) := Lib.hid (by rw [hw'.out, if_neg (fun h => hcm h.1)])
          have d1 : (c != (m : Int)) = true := by simpa using hcm
          have d2 : (c == (m : Int)) = false := by simpa using hcm
          clear hw' hcm
          go_wp2
          go_ret2
          refine ⟨?_, H1.out.1.trans HK.out⟩
          rw [hr2.out]
          exact ⟨n, hi, rfl⟩
      · obtain rfl : M = j := by omega
        have hr2 : Hid (r = some m) := Lib.hid (by
          rw [hw.out, List.drop_of_length_le (by rw [← HM.out]; exact Nat.le_refl _), walkC])
        clear hw hkb
        go_wp2
        go_ret2
        refine ⟨?_, H1.out.1.trans HK.out⟩
        rw [hr2.out]
        rfl
end Go.Proofs.YtoophdcagpfmpaaGreatDoor

namespace Go.Proofs.YtoophdcagpfmpaaGreatDoor
open Go.RowKit

set_option maxRecDepth 100000 in
set_option maxHeartbeats 8000000 in
theorem cdeep_any (ts : List Nd) (_hlen : ts.length ≤ 20000) (hdn : Down ts) (hok : ∀ x ∈ ts, NdOk x) (a : Option Addr) (cap : Nat) (f : Nat) (_hf0 : f ≤ 20000) : ∀ (n : Nat) (w : World), n < ts.length → ts.length ≤ n + f → NodesAt w a ts →
    Calls Tryz.prog 86 #[.agg #[.slice a ts.length cap], .int .i64 n] w fun e w' => e = .returned (.int .i64 (deepF ts f n : Nat)) ∧ KB F0 w w' := by
  induction f with
  | zero => intro n w h1 h2; omega
  | succ f ih =>
    intro n w hi hf hts
    obtain ⟨w0, rfl⟩ : ∃ w0, w0 = w := ⟨_, rfl⟩
    obtain ⟨r, hr⟩ : ∃ r, r = deepF ts (f + 1) n := ⟨_, rfl⟩
    rw [← hr]
    obtain ⟨b, off, rfl, hx⟩ := hts n hi
    have hxo := hok _ (getD_memN hi)
    have hxd' := hdn n hi
    obtain ⟨x, hxd⟩ : ∃ x, x = ts.getD n nd0 := ⟨_, rfl⟩
    rw [← hxd] at hx hxo hxd'
    have Hr : Hid (r = deepC (deepF ts f) x.l 0 + 1) := Lib.hid (by rw [hr, hxd]; rfl)
    obtain ⟨N, hN⟩ : ∃ N, N = ts.length := ⟨_, rfl⟩
    obtain ⟨la, lc, hl4, hints, hlc, hlm⟩ := hx.l
    have Ih := Lib.hid (ih (by omega))
    have HTS := Lib.hid (And.intro hts (And.intro hxo hxd'))
    have Hle := Lib.hid (deepF_le ts f)
    obtain ⟨M, hM⟩ : ∃ M, M = x.l.length := ⟨_, rfl⟩
    rw [← hN] at _hlen hi hf ⊢
    rw [← hM] at hl4 hlc
    have HN := Lib.hid hN
    have HM := Lib.hid hM
    have hiN : (n : Int) < (N : Int) := by omega
    unfold maxLen at hlm
    have H4 := Lib.hid (And.intro hl4 hints)
    clear hr hx hts hok hxo hxd hxd' hN hM ih hl4 hints hdn
    go_enter Tryz.func86, Tryz.ntmps86
    go_wp2_with fail
    obtain ⟨B1, hB1⟩ : ∃ B1, B1 = (w0.alloc (.cells #[.slice (some ⟨b, off, none⟩) N cap] 24)) := ⟨_, rfl⟩
    rw [← hB1]
    have k1 : KB F0 w0 B1 := by rw [hB1]; exact (KB.refl _ _).alloc _
    have bt : B1.cell? ⟨w0.heap.size, 0, none⟩ = some (.slice (some ⟨b, off, none⟩) N cap) := by rw [hB1]; exact new_cell _ _ _ 0
    have H1 := Lib.hid (And.intro k1 (And.intro bt (And.intro (k1.cell (p := ⟨b, off + n * 5 + 4, none⟩) (fun x => x) H4.out.1) (And.intro (H4.out.2.kbF k1) (HTS.out.1.kbF k1)))))
    clear hB1 k1 bt H4
    go_loopw [6, 5] (fun iv mv wr => ∃ j m : Nat, j ≤ M ∧ m ≤ f ∧ iv = .int .i64 j ∧ mv = .int .i64 m ∧ Hid (r = deepC (deepF ts f) (x.l.drop j) m + 1) ∧ KB F0 B1 wr) (fun iv _ _ => M - (intOf iv).toNat)
    case atStart => exact ⟨0, 0, by omega, by omega, rfl, rfl, (by rw [List.drop_zero]; exact Hr), KB.refl _ _⟩
    case round =>
      obtain ⟨j, m, hj, hmf, rfl, rfl, hw, hkb⟩ := hrel
      have f4 := hkb.cell (p := ⟨b, off + n * 5 + 4, none⟩) (fun x => x) H1.out.2.2.1
      have hbt := hkb.cell (p := ⟨w0.heap.size, 0, none⟩) (fun x => x) H1.out.2.1
      have HK := Lib.hid hkb
      by_cases hlt : j < M
      · obtain ⟨lb, lo, rfl, hcl⟩ := (H1.out.2.2.2.1) j (by rw [← HM.out]; exact hlt)
        have hcl := hkb.cell (p := ⟨lb, lo + j, none⟩) (fun x => x) hcl
        have hrg := HTS.out.2.2 _ (getD_memI (l := x.l) (k := j) (by rw [← HM.out]; exact hlt))
        have hdrop : Hid (x.l.drop j = x.l.getD j 0 :: x.l.drop (j + 1)) := Lib.hid (by
          rw [List.drop_eq_getElem_cons (by rw [← HM.out]; exact hlt), List.getD_eq_getElem?_getD, List.getElem?_eq_getElem (by rw [← HM.out]; exact hlt)]; rfl)
        generalize x.l.getD j 0 = c at hcl hrg hdrop
        obtain ⟨q, rfl⟩ := Int.eq_ofNat_of_zero_le (show 0 ≤ c by omega)
        have hqn : n < q := by omega
        have hqN : q < N := by have := HN.out; omega
        have hw' : Hid (r = deepC (deepF ts f) (x.l.drop (j + 1)) (if m < deepF ts f q then deepF ts f q else m) + 1) := Lib.hid (by
          rw [hw.out, hdrop.out, deepC, Int.toNat_natCast])
        have HC := Lib.hid (fun w => Ih.out q w (by rw [← HN.out]; exact hqN) (by have := HN.out; omega))
        have hDf := Hle.out q
        rw [← HN.out] at HC
        clear hkb hw hdrop hrg
        generalize deepF ts f q = D at HC hw' hDf
        have hjM : (j : Int) < (M : Int) := by omega
        go_wp2_with fail
        refine wp_region_rv 12 GK (kindW [(10, fun v => v = .int .i64 (D : Nat), fun _ _ => True)]) (by kernel_rfl) (by kernel_rfl) (kb_trans _) (kb_refl _) (kb_start _ _) (kindW_mono _ (by intro p hp; simp only [List.mem_cons, List.not_mem_nil, or_false] at hp; subst hp; exact lasts_true)) ?_
        simp only [List.take_succ_cons, List.take_zero, List.drop_succ_cons, List.drop_zero]
        iterate 10 (refine rv_det (by kernel_rfl) rfl (by intro w hG hH; have hc0 := KB.cell hG (fun x => x) (hbt); have hc1 := KB.cell hG (fun x => x) (f4); have hc2 := KB.cell hG (fun x => x) (hcl); go_simp; first | done | with_reducible rfl) ?_; simp only [Act.put, List.setIfInBounds_toArray, List.set_cons_zero, List.set_cons_succ])
        refine rv_rel (by kernel_rfl) rfl ⟨_, rfl⟩ (by
          intro w hG hH
          refine opVal_call (by go_simp; first | done | exact ⟨⟨rfl, rfl⟩, rfl⟩) ?_
          refine (HC.out _ (H1.out.2.2.2.2.kbF (HK.out.trans hG))).mono ?_
          rintro e w' ⟨rfl, hq⟩
          exact ⟨_, rfl, rfl, by first | (obtain ⟨nq, rfl⟩ := hq; exact (KB.refl _ _).drewN _) | (subst hq; exact KB.refl _ _) | exact hq, trivial⟩) ?_
        rintro v rfl
        simp only [Act.put, List.setIfInBounds_toArray, List.set_cons_zero, List.set_cons_succ]
        refine rv_det (by kernel_rfl) rfl (by intro w hG hH; go_simp; first | done | with_reducible rfl) ?_
        simp only [Act.put, List.setIfInBounds_toArray, List.set_cons_zero, List.set_cons_succ]
        refine rv_nil (fun w hG hH => ?_)
        have hG' := Lib.hid (HK.out.trans hG)
        clear hG hH hbt f4 hcl
        by_cases hmD : m < D
        · have hr3 : Hid (r = deepC (deepF ts f) (x.l.drop (j + 1)) D + 1) := Lib.hid (by rw [hw'.out, if_pos hmD])
          clear hw'
          go_wp2
          go_roundw
          case rel => exact ⟨j + 1, D, by omega, by omega, by go_num, rfl, hr3, hG'.out⟩
          case measure => simp [intOf]; omega
        · have hr3 : Hid (r = deepC (deepF ts f) (x.l.drop (j + 1)) m + 1) := Lib.hid (by rw [hw'.out, if_neg hmD])
          have hDm : D ≤ m := by omega
          clear hw'
          go_wp2
          go_roundw
          case rel => exact ⟨j + 1, m, by omega, by omega, by go_num, rfl, hr3, hG'.out⟩
          case measure => simp [intOf]; omega
      · obtain rfl : M = j := by omega
        have hr2 : Hid (r = m + 1) := Lib.hid (by
          rw [hw.out, List.drop_of_length_le (by rw [← HM.out]; exact Nat.le_refl _), deepC])
        clear hw hkb
        go_wp2
        go_ret
        exact ⟨by rw [hr2.out]; exact ret_int (by omega), H1.out.1.trans HK.out⟩
end Go.Proofs.YtoophdcagpfmpaaGreatDoor
