/- Lists of tokens compared: SameTokens, EqualFunc, like. -/
import Derived.Test.YtcbifoimfhfccaaGreatDoorLexP
namespace Go.Proofs.YtcbifoimfhfccaaGreatDoor
open Go.RowKit

structure TkAt (w : World) (b off : Nat) (x : Tk) : Prop where
  k : w.cell? ⟨b, off, none⟩ = some (.int .u8 (x.k : Nat))
  at_ : w.cell? ⟨b, off + 1, none⟩ = some (.int .i64 x.at_)
  n : w.cell? ⟨b, off + 2, none⟩ = some (.int .i64 x.n)
  s : w.cell? ⟨b, off + 3, none⟩ = some (.string x.s)
/-- Tokens lie side by side from an address on. -/
def ToksAt (w : World) (a : Option Addr) (ts : List Tk) : Prop := ∀ k, k < ts.length → ∃ b off, a = some ⟨b, off, none⟩ ∧ TkAt w b (off + k * 4) (ts.getD k tk0)
theorem TkAt.kbF {w w' : World} {b off : Nat} {x : Tk} (h : TkAt w b off x) (hk : KB F0 w w') : TkAt w' b off x :=
  ⟨hk.cell (p := ⟨b, off, none⟩) (fun x => x) h.k, hk.cell (p := ⟨b, off + 1, none⟩) (fun x => x) h.at_, hk.cell (p := ⟨b, off + 2, none⟩) (fun x => x) h.n, hk.cell (p := ⟨b, off + 3, none⟩) (fun x => x) h.s⟩
theorem ToksAt.kbF {w w' : World} {a : Option Addr} {ts : List Tk} (h : ToksAt w a ts) (hk : KB F0 w w') : ToksAt w' a ts := by
  intro k hlt
  obtain ⟨b, off, ha, hn⟩ := h k hlt
  exact ⟨b, off, ha, hn.kbF hk⟩
theorem toksAt_nil (w : World) (a : Option Addr) : ToksAt w a [] := fun k h => absurd h (Nat.not_lt_zero k)
theorem tkCells_get (ts : List Tk) : ∀ k j, k < ts.length → j < 4 → (tkCells ts)[k * 4 + j]? = (tkC (ts.getD k tk0))[j]? := by
  induction ts with
  | nil => intro k j h; exact absurd h (Nat.not_lt_zero k)
  | cons t ts ih =>
    intro k j hk hj
    have e : tkCells (t :: ts) = (tkC t).toList ++ tkCells ts := rfl
    have hl : (tkC t).toList.length = 4 := rfl
    rw [e]
    cases k with
    | zero => rw [List.getElem?_append_left (by omega)]; simp
    | succ k =>
      rw [List.getElem?_append_right (by omega), hl, show (k + 1) * 4 + j - 4 = k * 4 + j by omega, ih k j (by simpa using hk) hj]
      rfl
theorem OwnTk.toks {w : World} {B : Nat} {v : Value} {ts : List Tk} (h : OwnTk w B v ts) : ∃ a c, v = .slice a ts.length c ∧ ts.length ≤ c ∧ ToksAt w a ts := by
  obtain ⟨h1, h2⟩ := h
  rcases h2 with ⟨rfl, hn⟩ | ⟨g, cap, cur, rfl, hb, hh, hr⟩
  · have h0 : ts.length = 0 := by first | exact hn | exact hn.1 | (have := hn; simp_all)
    refine ⟨none, 0, by rw [h0], by omega, fun k hk => by omega⟩
  · refine ⟨some ⟨g, 0, none⟩, cap, rfl, by first | exact hr.1 | omega, fun k hk => ⟨g, 0, rfl, ?_⟩⟩
    obtain ⟨hn, hm, hcs, ht⟩ := hr
    have cell : ∀ j, j < 4 → w.cell? ⟨g, 0 + k * 4 + j, none⟩ = (tkC (ts.getD k tk0))[j]? := fun j hj => by
      rw [Nat.zero_add, blk_cell hh, ← tkCells_get ts k j hk hj, ← ht, List.getElem?_take_of_lt (by omega)]
      exact (Array.getElem?_toList).symm
    exact ⟨cell 0 (by omega), cell 1 (by omega), cell 2 (by omega), cell 3 (by omega)⟩

set_option maxRecDepth 100000 in
set_option maxHeartbeats 8000000 in
theorem equalFunc_any (ts us : List Tk) (hl : ts.length < 100000000000) (a b : Option Addr) (c d : Nat) (w : World) (h1 : ToksAt w a ts) (h2 : ToksAt w b us) :
    Calls Tryz.prog 37 #[.slice a ts.length c, .slice b us.length d, .func (.func 38) #[] #[]] w fun e w' => e = .returned (.bool (eqK sameK ts us)) ∧ KB F0 w w' := by
  obtain ⟨w0, rfl⟩ : ∃ w0, w0 = w := ⟨_, rfl⟩
  obtain ⟨r, hr⟩ : ∃ r, r = eqK sameK ts us := ⟨_, rfl⟩
  rw [← hr]
  have Hr := Lib.hid hr
  clear hr
  by_cases hn : ts.length = us.length
  · rw [← hn]
    obtain ⟨N, hN⟩ : ∃ N, N = ts.length := ⟨_, rfl⟩
    have Hstep := Lib.hid (fun hall => eqK_step (p := sameK) (a := ts) (b := us) hn hall)
    have Hfail := Lib.hid (fun i hi hf => eqK_fail (p := sameK) (a := ts) (b := us) (i := i) hi hf)
    rw [← hN] at hl Hstep Hfail ⊢
    have HN := Lib.hid hN
    have HN2 : Hid (N = us.length) := Lib.hid (by rw [hN, hn])
    have HTS := Lib.hid (And.intro h1 h2)
    clear hN hn h1 h2
    go_enter Tryz.func37, Tryz.ntmps37
    go_wp2_with fail
    go_loopw [17] (fun kv wr => ∃ k : Nat, k ≤ N ∧ kv = .int .i64 k ∧ KB F0 w0 wr ∧ Hid (∀ i, i < k → sameK (ts.getD i tk0) (us.getD i tk0) = true)) (fun kv _ => N - (intOf kv).toNat)
    case atStart => exact ⟨0, by omega, rfl, KB.refl _ _, Lib.hid (fun i hi => by omega)⟩
    case round =>
      obtain ⟨k, hk, rfl, hkb, hall⟩ := hrel
      by_cases hlt : k < N
      · obtain ⟨b1, o1, rfl, hx0⟩ := HTS.out.1 k (by rw [← HN.out]; exact hlt)
        obtain ⟨b2, o2, rfl, hy0⟩ := HTS.out.2 k (by rw [← HN2.out]; exact hlt)
        have Hf := Lib.hid (Hfail.out k hlt)
        have Hn : Hid (sameK (ts.getD k tk0) (us.getD k tk0) = true → ∀ i, i < k + 1 → sameK (ts.getD i tk0) (us.getD i tk0) = true) := Lib.hid (fun h i hi => by
          rcases Nat.lt_or_eq_of_le (Nat.lt_succ_iff.1 hi) with h' | rfl
          · exact hall.out i h'
          · exact h)
        generalize ts.getD k tk0 = x at hx0 Hf Hn
        generalize us.getD k tk0 = y at hy0 Hf Hn
        have hx := hx0.kbF hkb
        have hy := hy0.kbF hkb
        have c0 := hx.k
        have c1 := hx.at_
        have c2 := hx.n
        have c3 := hx.s
        have e0 := hy.k
        have e1 := hy.at_
        have e2 := hy.n
        have e3 := hy.s
        have kS : KB F0 wr (wr.alloc (.cells #[.int .u8 (x.k : Nat), .int .i64 x.at_, .int .i64 x.n, .string x.s] 27)) := (KB.refl _ _).alloc _
        have f0 := kS.cell (p := ⟨b2, o2 + k * 4, none⟩) (fun x => x) e0
        have f1 := kS.cell (p := ⟨b2, o2 + k * 4 + 1, none⟩) (fun x => x) e1
        have f2 := kS.cell (p := ⟨b2, o2 + k * 4 + 2, none⟩) (fun x => x) e2
        have f3 := kS.cell (p := ⟨b2, o2 + k * 4 + 3, none⟩) (fun x => x) e3
        have Hc := Lib.hid (fun (W : World) => like1_any x y W)
        unfold tkC at Hc
        have HK := Lib.hid hkb
        have He : Hid (sameK x y = sameK x y) := Lib.hid rfl
        generalize hq : sameK x y = q at Hc Hf Hn
        clear hx0 hy0 hx hy hkb kS hall e0 e1 e2 e3 He hq
        go_wp2_with fail
        refine (Hc.out _).mono ?_
        rintro e w2 ⟨rfl, hk2⟩
        have HK2 := Lib.hid (HK.out.trans ((((KB.refl F0 wr).alloc _).alloc _).trans hk2))
        clear hk2 c0 c1 c2 c3 f0 f1 f2 f3 Hc
        cases q
        · have hr2 : Hid (r = false) := Lib.hid (by rw [Hr.out]; exact Hf.out rfl)
          go_wp2
          go_ret
          exact ⟨ret_eq (by rw [hr2.out]; rfl), HK2.out⟩
        · have hall2 := Lib.hid (Hn.out rfl)
          go_wp2
          go_roundw
          case rel => exact ⟨k + 1, by omega, by go_num, HK2.out, hall2⟩
          case measure => simp [intOf]; omega
      · obtain rfl : k = N := by omega
        have hr2 : Hid (r = true) := Lib.hid (by rw [Hr.out]; exact Hstep.out hall.out)
        clear hall
        go_wp2
        go_ret
        exact ⟨ret_eq (by rw [hr2.out]; rfl), hkb⟩
  · have hr2 : Hid (r = false) := Lib.hid (by rw [Hr.out]; exact eqK_len hn)
    generalize ts.length = N at *
    generalize us.length = M at *
    have d1 : ((N : Int) != (M : Int)) = true := by simp; omega
    have d2 : ((N : Int) == (M : Int)) = false := by simp; omega
    clear hn h1 h2
    go_enter Tryz.func37, Tryz.ntmps37
    go_wp2
    go_ret
    exact ⟨ret_eq (by rw [hr2.out]; rfl), KB.refl _ _⟩

end Go.Proofs.YtcbifoimfhfccaaGreatDoor
