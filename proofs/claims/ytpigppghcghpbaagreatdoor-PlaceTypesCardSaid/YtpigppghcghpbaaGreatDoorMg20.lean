/- loanwordref09.MayType. loanwordref09.endless. -/
import Derived.Test.YtpigppghcghpbaaGreatDoorMg14
import Derived.Test.YtpigppghcghpbaaGreatDoorMg16
import Derived.Deep.DeepCutAuto
namespace Go.Proofs.YtpigppghcghpbaaGreatDoor
open Go.RowKit

set_option maxRecDepth 100000 in
set_option maxHeartbeats 16000000 in
theorem rtMay_any (S : Nat) (refs : Bool) : ∀ n : Nat, n ≤ 100 → ∀ (t : Ty) (a : Option Addr) (c : Nat) (w : World), TyAt (n + 1) w t a c →
    Calls Tryz.prog 62 #[tyV t a c, .int .i64 S, .int .i64 n, .bool refs] w fun e w' => e = .returned (.bool (mayB S refs n t)) ∧ KB F0 w w' := by
  intro n
  induction n with
  | zero =>
    intro _ t a c w _
    obtain ⟨w0, rfl⟩ : ∃ w0, w0 = w := ⟨_, rfl⟩
    obtain ⟨W, hW⟩ : ∃ W, W = w0.alloc (.cells #[.int .u8 t.k, .bool t.m, .int .i64 t.r, .int .i64 t.s, .slice a t.of.length c] 36) := ⟨_, rfl⟩
    obtain ⟨kb, hb⟩ := boxTy w0 t a c
    rw [← hW] at kb hb
    have HB := Lib.hid (And.intro kb hb)
    have HW := Lib.hid hW
    clear kb hb hW
    unfold tyV
    go_enter Tryz.func62, Tryz.ntmps62
    go_wp2_with fail
    go_ret
    exact ⟨rfl, by rw [← HW.out]; exact HB.out.1⟩
  | succ n ih =>
    intro hn t a c w h
    obtain ⟨w0, rfl⟩ : ∃ w0, w0 = w := ⟨_, rfl⟩
    obtain ⟨W, hW⟩ : ∃ W, W = w0.alloc (.cells #[.int .u8 t.k, .bool t.m, .int .i64 t.r, .int .i64 t.s, .slice a t.of.length c] 36) := ⟨_, rfl⟩
    obtain ⟨kb, hb⟩ := boxTy w0 t a c
    rw [← hW] at kb hb
    have hw := h.kbF kb
    have HB := Lib.hid (And.intro kb hb)
    have HW := Lib.hid hW
    have tc := TyCells.of_block hb
    rw [mayB_succ]
    obtain ⟨hc0, hc1, hc2, hc3, hc4⟩ := tc
    simp only [Nat.zero_add] at hc0 hc1 hc2 hc3 hc4
    have hLc : t.of.length ≤ c := hw.1
    have hw1 : IntKind.i64.wrap (((n + 1 : Nat) : Int) - 1) = (n : Int) := by rw [w64 (by omega) (by omega)]; omega
    have ht0 : ¬ (((n + 1 : Nat) : Int) < 1) := by omega
    have ht1 : decide (((n + 1 : Nat) : Int) < 1) = false := decide_eq_false (by omega)
    unfold tyV
    by_cases hl : t.of.length = 1
    · have hl0 : 0 < t.of.length := by omega
      obtain ⟨b, o, a', c', rfl, ic, iw⟩ := hw.in0 hl0
      have LK := fun (V : World) (hk : KB F0 W V) => ih (by omega) (in0 t) a' c' V (iw.kbF hk)
      unfold tyV at LK
      obtain ⟨i0, i1, i2, i3, i4⟩ := ic
      have h1c : (1 : Int) ≤ (c : Int) := by omega
      generalize mayB S refs n (in0 t) = q at LK ⊢
      generalize in0 t = u at LK i0 i1 i2 i3 i4
      obtain ⟨R, hR⟩ : ∃ R, R = mayV S refs t.k t.m t.r t.s t.of.length q := ⟨_, rfl⟩
      rw [← hR]
      rw [hl] at HB HW hc4 hR ⊢
      have LK2 := Lib.hid LK
      clear hw h ih LK iw kb hb hW hl hl0 hLc
      generalize t.k = k at *
      generalize t.m = m at *
      generalize t.r = rg at *
      generalize t.s = st at *
      have HR := Lib.hid hR
      clear hR
      go_enter Tryz.func62, Tryz.ntmps62
      go_upto_region 1 with fail
      rw [← HW.out]
      cases refs
      all_goals
        go_wp2_with ((with_reducible refine (LK2.out _ (KB.refl _ _)).mono ?_); rintro e w1 ⟨rfl, k1⟩)
        all_goals
          go_ret
          refine ⟨ret_eq (congrArg Value.bool ?_), (by first | exact HB.out.1 | exact HB.out.1.trans (by assumption))⟩
          rw [HR.out]
          clear HR HB HW LK2 hc0 hc1 hc2 hc3 hc4 hw1 ht0 ht1 h1c i0 i1 i2 i3 i4
          unfold mayV
          simp_all
          try (first | omega | (intro h1 h2; omega) | (intro h1; omega) | (rw [Bool.eq_iff_iff]; simp; omega) | (rw [Bool.eq_iff_iff]; simp; done))
    · have hl1 : ((t.of.length : Int) == 1) = false := by simp; omega
      obtain ⟨q, hq⟩ : ∃ q, q = mayB S refs n (in0 t) := ⟨_, rfl⟩
      rw [← hq]
      obtain ⟨L, hL⟩ : ∃ L, L = t.of.length := ⟨_, rfl⟩
      obtain ⟨R, hR⟩ : ∃ R, R = mayV S refs t.k t.m t.r t.s t.of.length q := ⟨_, rfl⟩
      rw [← hR]
      rw [← hL] at HB HW hc4 hR hl1 ⊢
      have hLn : ¬ L = 1 := by omega
      clear hw h ih kb hb hW hl hL hLc hq
      generalize t.k = k at *
      generalize t.m = m at *
      generalize t.r = rg at *
      generalize t.s = st at *
      have HR := Lib.hid hR
      clear hR
      go_enter Tryz.func62, Tryz.ntmps62
      go_upto_region 1 with fail
      rw [← HW.out]
      cases refs
      all_goals
       go_wp2_with fail
       all_goals
        go_ret
        refine ⟨ret_eq (congrArg Value.bool ?_), HB.out.1⟩
        rw [HR.out]
        clear HR HB HW hc0 hc1 hc2 hc3 hc4 hw1 ht0 ht1 hl1
        unfold mayV
        simp_all
        try (first | omega | (intro h1 h2; omega) | (intro h1; omega) | (rw [Bool.eq_iff_iff]; simp; omega) | (rw [Bool.eq_iff_iff]; simp; done))
end Go.Proofs.YtpigppghcghpbaaGreatDoor

namespace Go.Proofs.YtpigppghcghpbaaGreatDoor
open Go.RowKit

/-- The marks, somewhere in a round that began with A. -/
structure RdSt' (S : List (List Ty)) (n : Nat) (w0 : World) (X : Nat) (wr : World) (A M : List Bool) (b : Nat) : Prop where
  kb : KB F0 w0 wr
  lo : w0.heap.size ≤ X
  arr : ArrAt wr X M
  met : Met S n M
  grow : Grow A M
  done : ∀ u, u < b → (u = n ∨ atB A u = true) → ∀ f ∈ fds S u, f.k = 5 → atB M f.s.toNat = true
theorem RdSt'.set {S : List (List Ty)} (hS : InR S) (h32 : S.length ≤ 32) {n : Nat} {w0 : World} {X : Nat} {wr : World} {A M : List Bool} {b i j : Nat} (h : RdSt' S n w0 X wr A M b) (hb : b = n ∨ atB M b = true)
    (hi : i < (fds S b).length) (hf : ((fds S b).getD i ty0).k = 5) (hj : ((fds S b).getD i ty0).s.toNat = j) : RdSt' S n w0 X (wr.setCell ⟨X, j, none⟩ (.bool true)) A (M.set j true) b := by
  have hm : (fds S b).getD i ty0 ∈ fds S b := by rw [List.getD_eq_getElem?_getD, List.getElem?_eq_getElem hi]; exact List.getElem_mem hi
  have hjl : j < S.length := hj ▸ hS.lt hm hf
  have hjM : j < M.length := by rw [h.met.len]; omega
  have hr : Rch S n j := by
    rcases hb with rfl | hb
    · exact hj ▸ Rch.one hm hf
    · exact hj ▸ Rch.more (h.met.ok b hb) hm hf
  refine ⟨h.kb.oldS (kb_set wr X j (.bool true)) (fun k hk e => by have := h.lo; omega), h.lo, h.arr.set j, h.met.set (by omega) hr, h.grow.set hjM, fun u hu hh f hf hk => ?_⟩
  rw [atB_set hjM, h.done u hu hh f hf hk]; rfl
theorem RdSt'.next {S : List (List Ty)} {n : Nat} {w0 : World} {X : Nat} {wr : World} {A M : List Bool} {b : Nat} (h : RdSt' S n w0 X wr A M b)
    (hd : (b = n ∨ atB M b = true) → ∀ i, i < (fds S b).length → ((fds S b).getD i ty0).k = 5 → atB M ((fds S b).getD i ty0).s.toNat = true) : RdSt' S n w0 X wr A M (b + 1) := by
  refine ⟨h.kb, h.lo, h.arr, h.met, h.grow, fun u hu hh f hf hk => ?_⟩
  rcases Nat.lt_or_eq_of_le (Nat.lt_succ_iff.1 hu) with h1 | rfl
  · exact h.done u h1 hh f hf hk
  · obtain ⟨i, hi, rfl⟩ := List.getElem_of_mem hf
    have := hd (hh.imp id (h.grow.2.2 u)) i hi
    rw [List.getD_eq_getElem?_getD, List.getElem?_eq_getElem hi] at this
    exact this hk
set_option maxRecDepth 100000 in
set_option maxHeartbeats 32000000 in
theorem rtEndless_any (S : List (List Ty)) (hS : InR S) (h32 : S.length ≤ 32) (h8 : ∀ i, (fds S i).length ≤ 100) (n d : Nat) (hn : n < S.length) (a : Option Addr) (c : Nat) (w : World) (h : StsAt d w a S) :
    Calls Tryz.prog 85 #[.slice a S.length c, .int .i64 n] w fun e w' => e = .returned (.bool (endB S n)) ∧ KB F0 w w' := by
  obtain ⟨w0, rfl⟩ : ∃ w0, w0 = w := ⟨_, rfl⟩
  obtain ⟨W1, hW1⟩ : ∃ W, W = w0.alloc (.cells #[Value.bool false, Value.bool false, Value.bool false, Value.bool false, Value.bool false, Value.bool false, Value.bool false, Value.bool false, Value.bool false, Value.bool false, Value.bool false, Value.bool false, Value.bool false, Value.bool false, Value.bool false, Value.bool false, Value.bool false, Value.bool false, Value.bool false, Value.bool false, Value.bool false, Value.bool false, Value.bool false, Value.bool false, Value.bool false, Value.bool false, Value.bool false, Value.bool false, Value.bool false, Value.bool false, Value.bool false, Value.bool false] 138) := ⟨_, rfl⟩
  have k1 := (KB.refl F0 w0).alloc (.cells #[Value.bool false, Value.bool false, Value.bool false, Value.bool false, Value.bool false, Value.bool false, Value.bool false, Value.bool false, Value.bool false, Value.bool false, Value.bool false, Value.bool false, Value.bool false, Value.bool false, Value.bool false, Value.bool false, Value.bool false, Value.bool false, Value.bool false, Value.bool false, Value.bool false, Value.bool false, Value.bool false, Value.bool false, Value.bool false, Value.bool false, Value.bool false, Value.bool false, Value.bool false, Value.bool false, Value.bool false, Value.bool false] 138)
  have b1 : ArrAt (w0.alloc (.cells #[Value.bool false, Value.bool false, Value.bool false, Value.bool false, Value.bool false, Value.bool false, Value.bool false, Value.bool false, Value.bool false, Value.bool false, Value.bool false, Value.bool false, Value.bool false, Value.bool false, Value.bool false, Value.bool false, Value.bool false, Value.bool false, Value.bool false, Value.bool false, Value.bool false, Value.bool false, Value.bool false, Value.bool false, Value.bool false, Value.bool false, Value.bool false, Value.bool false, Value.bool false, Value.bool false, Value.bool false, Value.bool false] 138)) w0.heap.size (List.replicate 32 false) := alloc_new _ _
  rw [← hW1] at k1 b1
  have HST := Lib.hid (And.intro k1 b1)
  have HH := Lib.hid (And.intro h (And.intro hS (And.intro h32 (And.intro h8 hn))))
  have HW := Lib.hid hW1
  obtain ⟨LS, hLS⟩ : ∃ L, L = S.length := ⟨_, rfl⟩
  have HLS := Lib.hid hLS
  have hn' : n < LS := by rw [hLS]; exact hn
  rw [← hLS] at h32 ⊢
  clear k1 b1 hW1 h hS hLS h8 hn
  go_enter Tryz.func85, Tryz.ntmps85
  go_upto_region 2 with fail
  rw [← HW.out]
  go_wp2_with fail
  go_loopg [6] (LS + 1) (fun g rv wr => ∃ r M, r ≤ LS + 1 ∧ g = LS + 1 - r ∧ rv = .int .i64 (r : Nat) ∧ Hid (KB F0 w0 wr ∧ ArrAt wr w0.heap.size M ∧ Met S n M ∧ Rounds S n M r))
  case atStart => exact ⟨0, _, by omega, by omega, rfl, Lib.hid ⟨HST.out.1, HST.out.2, met_start S n, Or.inr (by simp [left])⟩⟩
  case round =>
    obtain ⟨r, A, hr, rfl, rfl, hst⟩ := hrel
    obtain ⟨wo, rfl⟩ : ∃ wo : World, wo = wr := ⟨_, rfl⟩
    by_cases hrl : r ≤ LS
    · have hrI : (r : Int) ≤ (LS : Int) := by omega
      have dr : decide ((r : Int) ≤ (LS : Int)) = true := decide_eq_true hrI
      go_wp2_with fail
      go_loopg [7] LS (fun g bv wr => ∃ b M, b ≤ LS ∧ g = LS - b ∧ bv = .int .i64 (b : Nat) ∧ Hid (RdSt' S n w0 w0.heap.size wr A M b))
      case atStart => exact ⟨0, A, by omega, by omega, rfl, Lib.hid ⟨hst.out.1, Nat.le_refl _, hst.out.2.1, hst.out.2.2.1, Grow.refl _, fun u hu => by omega⟩⟩
      case round =>
        obtain ⟨b, M, hb, rfl, rfl, hbs⟩ := hrel
        by_cases hbl : b < LS
        · have hbI : (b : Int) < (LS : Int) := by omega
          have db : decide ((b : Int) < (LS : Int)) = true := decide_eq_true hbI
          obtain ⟨sb, so, snm, sfa, sfc, rfl, -, hsl0, hsc, hfd⟩ := HH.out.1 b (by rw [← HLS.out]; exact hbl)
          obtain ⟨F, hF⟩ : ∃ F, F = S.getD b [] := ⟨_, rfl⟩
          rw [← hF] at hsl0 hsc hfd
          obtain ⟨Lf, hLf⟩ : ∃ L, L = F.length := ⟨_, rfl⟩
          rw [← hLf] at hsl0 hsc
          have hLf100 : Lf ≤ 100 := by rw [hLf, hF]; exact HH.out.2.2.2.1 b
          have HU := Lib.hid (And.intro hF (And.intro hLf (And.intro hsc hfd)))
          have HSL := Lib.hid hsl0
          clear hsc hfd hF hLf hsl0
          go_wp2_with fail
          go_loopg [8] Lf (fun g iv wr => ∃ i M, i ≤ Lf ∧ g = Lf - i ∧ iv = .int .i64 (i : Nat) ∧ Hid (RdSt' S n w0 w0.heap.size wr A M b ∧ (i = 0 ∨ b = n ∨ atB M b = true) ∧ ∀ q, q < i → ((fds S b).getD q ty0).k = 5 → atB M ((fds S b).getD q ty0).s.toNat = true))
          case atStart => exact ⟨0, M, by omega, by omega, rfl, Lib.hid ⟨hbs.out, Or.inl rfl, fun q hq => by omega⟩⟩
          case round =>
            obtain ⟨i, M2, hi, rfl, rfl, his⟩ := hrel
            have hsl := his.out.1.kb.cell (p := ⟨sb, so + b * 2 + 1, none⟩) (fun x => x) HSL.out
            have hb32 : b < 32 := by omega
            have hbI32 : (b : Int) < 32 := by omega
            have ab := his.out.1.arr.cell (j := b) (by rw [his.out.1.met.len]; exact hb32)
            by_cases hlt : i < Lf
            · have hiI : (i : Int) < (Lf : Int) := by omega
              have dI : decide ((i : Int) < (Lf : Int)) = true := decide_eq_true hiI
              by_cases hcond : b = n ∨ atB M2 b = true
              case neg =>
                have hbn : ((b : Int) == (n : Int)) = false := by
                  have : ¬ b = n := fun e => hcond (Or.inl e)
                  simpa using fun e => this (by omega)
                have hab : atB M2 b = false := by
                  cases h : atB M2 b with
                  | true => exact (hcond (Or.inr h)).elim
                  | false => rfl
                rw [hab] at ab
                have HN : Hid (RdSt' S n w0 w0.heap.size wr A M2 (b + 1)) := Lib.hid (his.out.1.next (fun h => (hcond h).elim))
                clear his hcond hab
                go_wp2_with fail
                go_roundg (LS - (b + 1))
                case measure => omega
                case rel => exact ⟨b + 1, M2, by omega, rfl, by go_num, HN⟩
              case pos =>
                obtain ⟨fb, fo, fnm, fa', fc', rfl, hnm, hty, -⟩ := HU.out.2.2.2 i (by rw [← HU.out.2.1]; exact hlt)
                obtain ⟨t0, t1, t2, t3, t4⟩ := hty.kbF his.out.1.kb
                have hFi : F.getD i ty0 = (fds S b).getD i ty0 := by rw [HU.out.1]; rfl
                rw [hFi] at t0 t1 t2 t3 t4
                obtain ⟨f, hf⟩ : ∃ f, f = (fds S b).getD i ty0 := ⟨_, rfl⟩
                rw [← hf] at t0 t1 t2 t3 t4
                have hil : i < (fds S b).length := by have := HU.out.2.1; rw [HU.out.1] at this; show i < (S.getD b []).length; omega
                have hmem : f ∈ fds S b := by rw [hf, List.getD_eq_getElem?_getD, List.getElem?_eq_getElem hil]; exact List.getElem_mem hil
                clear hnm hty hFi t1 t2 t4
                obtain ⟨ww, rfl⟩ : ∃ w, w = wr := ⟨_, rfl⟩
                have HC := Lib.hid hcond
                obtain ⟨eqB, hEB⟩ : ∃ e, e = ((b : Int) == (n : Int)) := ⟨_, rfl⟩
                by_cases hk5 : f.k = 5
                · obtain ⟨j, hj⟩ : ∃ j : Nat, f.s = (j : Int) := ⟨f.s.toNat, by have := HH.out.2.1 b f hmem hk5; omega⟩
                  have hjn : f.s.toNat = j := by omega
                  have hjl : j < S.length := by rw [← hjn]; exact HH.out.2.1.lt hmem hk5
                  have hj32 : j < 32 := by have := HH.out.2.2.1; omega
                  have hjI : (j : Int) < 32 := by omega
                  have hjM : j < M2.length := by rw [his.out.1.met.len]; exact hj32
                  have am := his.out.1.arr.cell hjM
                  have aF := blk_frozen his.out.1.arr j
                  rw [hk5] at t0
                  rw [hj] at t3
                  have HN : Hid (RdSt' S n w0 w0.heap.size (ww.setCell ⟨w0.heap.size, j, none⟩ (.bool true)) A (M2.set j true) b ∧ (i + 1 = 0 ∨ b = n ∨ atB (M2.set j true) b = true) ∧ ∀ q, q < i + 1 → ((fds S b).getD q ty0).k = 5 → atB (M2.set j true) ((fds S b).getD q ty0).s.toNat = true) :=
                    Lib.hid ⟨his.out.1.set HH.out.2.1 HH.out.2.2.1 HC.out hil (hf ▸ hk5) (by rw [← hf]; exact hjn), Or.inr (HC.out.imp id (fun h => by rw [atB_set hjM, h]; rfl)), fun q hq hk => by
                      rw [atB_set hjM]
                      rcases Nat.lt_or_eq_of_le (Nat.lt_succ_iff.1 hq) with h1 | rfl
                      · rw [his.out.2.2 q h1 hk]; rfl
                      · rw [← hf, hjn]; simp⟩
                  have hbn : b = n ∨ (¬ b = n ∧ atB M2 b = true) := by
                    by_cases e : b = n
                    · exact Or.inl e
                    · exact Or.inr ⟨e, hcond.resolve_left e⟩
                  clear his hcond hmem hf hk5 hjn hjl hjM hil hj hEB
                  rcases hbn with hbn | ⟨hbn, hab⟩
                  · have hbn2 : ((b : Int) == (n : Int)) = true := by simp [hbn]
                    clear hbn ab
                    go_wp2_with fail
                    go_roundg (Lf - (i + 1))
                    case measure => omega
                    case rel => exact ⟨i + 1, _, by omega, rfl, by go_num, HN⟩
                  · have hbn2 : ((b : Int) == (n : Int)) = false := by simpa using fun e => hbn (by omega)
                    rw [hab] at ab
                    clear hbn hab
                    go_wp2_with fail
                    go_roundg (Lf - (i + 1))
                    case measure => omega
                    case rel => exact ⟨i + 1, _, by omega, rfl, by go_num, HN⟩
                · have hk5b : (f.k == 5) = false := by simpa using hk5
                  have HN : Hid (RdSt' S n w0 w0.heap.size ww A M2 b ∧ (i + 1 = 0 ∨ b = n ∨ atB M2 b = true) ∧ ∀ q, q < i + 1 → ((fds S b).getD q ty0).k = 5 → atB M2 ((fds S b).getD q ty0).s.toNat = true) :=
                    Lib.hid ⟨his.out.1, Or.inr HC.out, fun q hq hk => by
                      rcases Nat.lt_or_eq_of_le (Nat.lt_succ_iff.1 hq) with h1 | rfl
                      · exact his.out.2.2 q h1 hk
                      · rw [← hf] at hk; exact absurd hk hk5⟩
                  have hbn : b = n ∨ (¬ b = n ∧ atB M2 b = true) := by
                    by_cases e : b = n
                    · exact Or.inl e
                    · exact Or.inr ⟨e, hcond.resolve_left e⟩
                  generalize f.k = fk at t0 hk5b
                  clear his hcond hmem hf hk5 hil hEB t3
                  rcases hbn with hbn | ⟨hbn, hab⟩
                  · have hbn2 : ((b : Int) == (n : Int)) = true := by simp [hbn]
                    clear hbn ab
                    go_wp2_with fail
                    go_roundg (Lf - (i + 1))
                    case measure => omega
                    case rel => exact ⟨i + 1, _, by omega, rfl, by go_num, HN⟩
                  · have hbn2 : ((b : Int) == (n : Int)) = false := by simpa using fun e => hbn (by omega)
                    rw [hab] at ab
                    clear hbn hab
                    go_wp2_with fail
                    go_roundg (Lf - (i + 1))
                    case measure => omega
                    case rel => exact ⟨i + 1, _, by omega, rfl, by go_num, HN⟩
            · obtain rfl : i = Lf := by omega
              have dI : decide ((i : Int) < (i : Int)) = false := decide_eq_false (by omega)
              have HN : Hid (RdSt' S n w0 w0.heap.size wr A M2 (b + 1)) := Lib.hid (his.out.1.next (fun _ q hq => his.out.2.2 q (by
                have := HU.out.2.1
                rw [HU.out.1] at this
                rw [this]; exact hq)))
              clear his ab hlt
              go_wp2_with fail
              go_roundg (LS - (b + 1))
              case measure => omega
              case rel => exact ⟨b + 1, M2, by omega, rfl, by go_num, HN⟩
        · obtain rfl : b = LS := by omega
          have db : decide ((b : Int) < (b : Int)) = false := decide_eq_false (by omega)
          have HN : Hid (KB F0 w0 wr ∧ ArrAt wr w0.heap.size M ∧ Met S n M ∧ Rounds S n M (r + 1)) := Lib.hid ⟨hbs.out.kb, hbs.out.arr, hbs.out.met,
            hst.out.2.2.2.next HH.out.2.1 HH.out.2.2.1 hst.out.2.2.1.len hbs.out.grow (fun u hu => hbs.out.done u (by rw [HLS.out]; exact hu)) HH.out.2.2.2.2 (fun j hj => (hst.out.2.2.1.ok j hj).lt HH.out.2.1) hbs.out.met.ok⟩
          clear hbs hst hbl
          go_wp2_with fail
          go_roundg (b + 1 - (r + 1))
          case measure => omega
          case rel => exact ⟨r + 1, M, by omega, rfl, by go_num, HN⟩
    · obtain rfl : r = LS + 1 := by omega
      have dr : decide (((LS + 1 : Nat) : Int) ≤ (LS : Int)) = false := decide_eq_false (by omega)
      have dr2 : ¬ (((LS + 1 : Nat) : Int) ≤ (LS : Int)) := by omega
      have hcn := hst.out.2.1.cell (j := n) (by rw [hst.out.2.2.1.len]; omega)
      have hfin : atB A n = endB S n := by
        have h := hst.out.2.2.2
        rw [HLS.out] at h
        exact h.full HH.out.2.1 HH.out.2.2.1 hst.out.2.2.1
      rw [hfin] at hcn
      have hn3 : (n : Int) < 32 := by omega
      have hn4 : n < 32 := by omega
      have HK := Lib.hid hst.out.1
      clear hst hfin
      go_wp2_with fail
      go_ret
      exact ⟨rfl, HK.out⟩
end Go.Proofs.YtpigppghcghpbaaGreatDoor
