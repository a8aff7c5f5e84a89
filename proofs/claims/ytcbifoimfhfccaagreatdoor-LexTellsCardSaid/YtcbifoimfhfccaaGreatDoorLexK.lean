/- lex.Lex. -/
import Derived.Test.YtcbifoimfhfccaaGreatDoorLexJ
namespace Go.Proofs.YtcbifoimfhfccaaGreatDoor
open Go.RowKit

def tkCells (ts : List Tk) : List Value := ts.flatMap fun t => (tkC t).toList
theorem tkCells_len (ts : List Tk) : (tkCells ts).length = ts.length * 4 := by
  induction ts with
  | nil => rfl
  | cons t ts ih => unfold tkCells at ih ⊢; rw [List.flatMap_cons, List.length_append, ih, List.length_cons]; simp [tkC]; omega
theorem tkCells_app (ts : List Tk) (t : Tk) : tkCells (ts ++ [t]) = tkCells ts ++ (tkC t).toList := by simp [tkCells]
/-- Tokens in memory of their own, from block B on. -/
def OwnTk (w : World) (B : Nat) (v : Value) (ts : List Tk) : Prop := w.ownsRow B 27 4 v ts.length (tkCells ts)
theorem ownTk_nil (w : World) (B : Nat) : OwnTk w B (.slice none 0 0) [] := World.ownsRow_nil _ _ _ _
theorem OwnTk.kb {w w' : World} {B : Nat} {v : Value} {ts : List Tk} (h : OwnTk w B v ts) {S : Nat → Prop} (hk : KB S w w') (hS : ∀ g, B ≤ g → ¬ S g) : OwnTk w' B v ts :=
  own_kb h hk (fun g e => by obtain ⟨c, -, hb⟩ := own_block h e; exact hS g hb)
theorem OwnTk.kbF {w w' : World} {B : Nat} {v : Value} {ts : List Tk} (h : OwnTk w B v ts) (hk : KB F0 w w') : OwnTk w' B v ts := h.kb hk (fun _ _ x => x)
theorem Tryz.infoTok : (Tryz.prog.info? 27).map (fun i => (i.zero, i.size, i.bytes)) = some (some (.agg #[.int .u8 0, .int .i64 0, .int .i64 0, .string ByteArray.empty]), 4, 40) := by kernel_rfl

set_option maxRecDepth 100000 in
set_option maxHeartbeats 8000000 in
theorem lex_any (s : ByteArray) (hs0 : s.size ≤ 9223372036854775807) (w : World) (hT : Tab w) :
    Calls Tryz.prog 15 #[.string s] w fun e w' => ∃ v, e = .returned (.tuple #[v, .int .i64 ((lexS s).2.1 : Nat), .int .i64 ((lexS s).2.2 : Nat)]) ∧ OwnTk w' w.heap.size v (lexS s).1 ∧ KB F0 w w' := by
  obtain ⟨w0, rfl⟩ : ∃ w0, w0 = w := ⟨_, rfl⟩
  obtain ⟨O, hO⟩ : ∃ O, O = lexS s := ⟨_, rfl⟩
  rw [← hO]
  have HO := Lib.hid hO
  clear hO
  by_cases hbig : 65536 < s.size
  · have d1 : decide ((65536 : Int) < (s.size : Int)) = true := decide_eq_true (by omega)
    have HE : Hid (O = ([], 0, 3)) := Lib.hid (by rw [HO.out, lexS, if_pos hbig])
    clear hT hbig
    go_enter Tryz.func15, Tryz.ntmps15
    go_wp2
    (try simp only [Exit.inBlock, Exit.then])
    refine bodyPost_ret (results_tmp3 rfl _ _ _) rfl ?_
    exact ⟨_, ret_eq (by rw [HE.out]; rfl), by rw [HE.out]; exact ownTk_nil _ _, KB.refl _ _⟩
  have d1 : decide ((65536 : Int) < (s.size : Int)) = false := decide_eq_false (by omega)
  have HO1 : Hid (O = lexG s 0 []) := Lib.hid (by rw [HO.out, lexS, if_neg hbig])
  have hs : s.size ≤ 65536 := by omega
  obtain ⟨W1, hW1⟩ : ∃ W1, W1 = w0.alloc (.cells #[.string s, .int .i64 0, .bool false] 58) := ⟨_, rfl⟩
  have k1 : KB F0 w0 W1 := by rw [hW1]; exact (KB.refl _ _).alloc _
  have hx1 : LX W1 w0.heap.size s 0 false := by rw [hW1]; exact alloc_new _ _
  have H1 := Lib.hid (And.intro k1 hx1)
  have HW1 := Lib.hid hW1
  have HT := Lib.hid hT
  have TK0 := Lib.hid (fun (W : World) (j : Nat) (hj : j < s.size) (hk : KB F0 w0 W) (hx : LX W w0.heap.size s j false) => token_any w0 hT w0.heap.size (Nat.le_refl _) s j hj hs W hk hx)
  have PS := Lib.hid (fun (W : World) (j : Nat) (hj : j ≤ s.size) (hx : LX W w0.heap.size s j false) => pass_any w0.heap.size s j false hj hs W hx)
  clear hT hW1 k1 hx1 hbig
  go_enter Tryz.func15, Tryz.ntmps15
  go_wp2_with fail
  rw [← HW1.out]
  refine (PS.out W1 0 (Nat.zero_le _) H1.out.2).mono ?_
  rintro e W2 ⟨rfl, j0, -, hj0, hx2, hl2, hn2, k2⟩
  have H2 := Lib.hid (And.intro hx2 (And.intro hl2 (And.intro hn2 (H1.out.1.above k2 (fun g e => by rw [e]; exact Nat.le_refl _)))))
  clear hx2 hl2 hn2 k2
  go_wp2_with fail
  go_loopw [2] (fun lv wr => ∃ (j : Nat) (ts : List Tk), j ≤ s.size ∧ ts.length ≤ j ∧ LX wr w0.heap.size s j false ∧ (j < s.size → Hid (blankB (byteAt s j) = false ∧ commB s j = false)) ∧ OwnTk wr (w0.heap.size + 1) lv ts ∧ Hid (O = lexG s j ts) ∧ KB F0 w0 wr) (fun _ wr => s.size - lxAt wr w0.heap.size)
  case atStart => exact ⟨j0, [], hj0, Nat.zero_le _, H2.out.1, fun h => Lib.hid (H2.out.2.2.1 h), ownTk_nil _ _, Lib.hid (by rw [HO1.out]; exact H2.out.2.1 []), H2.out.2.2.2⟩
  case round =>
    obtain ⟨j, ts, hj, htl, hx, hnb, hown, hr, hkb⟩ := hrel
    have x0 : wr.cell? ⟨w0.heap.size, 0, none⟩ = some (.string s) := blk_cell hx 0
    have x1 : wr.cell? ⟨w0.heap.size, 1, none⟩ = some (.int .i64 j) := blk_cell hx 1
    have HX := Lib.hid (And.intro hx (And.intro hown (And.intro hr hkb)))
    clear hx hown hr hkb
    by_cases hlt : j < s.size
    · have d2 : decide ((j : Int) < (s.size : Int)) = true := decide_eq_true (by omega)
      have HN := hnb hlt
      obtain ⟨T, hTe⟩ : ∃ T, T = oneS s j := ⟨_, rfl⟩
      have TKJ := Lib.hid (TK0.out wr j hlt HX.out.2.2.2 HX.out.1)
      rw [← hTe] at TKJ
      have HTE := Lib.hid hTe
      clear hTe hnb
      go_wp2_with fail
      refine TKJ.out.mono ?_
      rintro e W3 ⟨t, rfl, ht, hx3, k3⟩
      have H3 := Lib.hid (And.intro ht (And.intro hx3 (And.intro (HX.out.2.1.kb k3 (fun g h e => by omega)) (HX.out.2.2.2.above k3 (fun g e => by rw [e]; exact Nat.le_refl _)))))
      have hxs := k3.size
      clear ht hx3 k3 x0 x1
      rw [show tkC t = #[.int .u8 (t.k : Nat), .int .i64 t.at_, .int .i64 t.n, .string t.s] from rfl]
      obtain ⟨W4, hW4⟩ : ∃ W4, W4 = W3.alloc (.cells #[.int .u8 (t.k : Nat), .int .i64 t.at_, .int .i64 t.n, .string t.s] 27) := ⟨_, rfl⟩
      have k4 : KB F0 W3 W4 := by rw [hW4]; exact (KB.refl _ _).alloc _
      have hT4 : TK W4 W3.heap.size t := by rw [hW4]; exact alloc_new _ _
      obtain ⟨ok, hok⟩ : ∃ ok, ok = T.2.2 := ⟨_, rfl⟩
      have HOK := Lib.hid hok
      have hx4 : LX W4 w0.heap.size s T.2.1 (!ok) := by rw [hok]; exact H3.out.2.1.kb k4
      have x0 : W4.cell? ⟨w0.heap.size, 0, none⟩ = some (.string s) := blk_cell hx4 0
      have x1 : W4.cell? ⟨w0.heap.size, 1, none⟩ = some (.int .i64 (T.2.1 : Nat)) := blk_cell hx4 1
      have x2 : W4.cell? ⟨w0.heap.size, 2, none⟩ = some (.bool (!ok)) := blk_cell hx4 2
      have y0 : W4.cell? ⟨W3.heap.size, 0, none⟩ = some (.int .u8 (t.k : Nat)) := blk_cell hT4 0
      have y1 : W4.cell? ⟨W3.heap.size, 1, none⟩ = some (.int .i64 t.at_) := blk_cell hT4 1
      have y2 : W4.cell? ⟨W3.heap.size, 2, none⟩ = some (.int .i64 t.n) := blk_cell hT4 2
      have y3 : W4.cell? ⟨W3.heap.size, 3, none⟩ = some (.string t.s) := blk_cell hT4 3
      have H4 := Lib.hid (And.intro hx4 (And.intro (H3.out.2.2.1.kbF k4) (H3.out.2.2.2.trans k4)))
      rw [hW4] at x0 x1 x2 y0 y1 y2 y3
      have HW4 := Lib.hid hW4
      clear hW4 k4 hT4 hx4 hok
      cases ok
      case false =>
        have HE : Hid (O = ([], T.2.1, 20)) := Lib.hid (by rw [HX.out.2.2.1.out, lexG_bad hlt HN.out.1 HN.out.2 (by rw [← HTE.out]; exact HOK.out.symm), HTE.out])
        go_wp2_with fail
        refine wp_region_rv 7 GQ (kindV []) (by kernel_rfl) (by kernel_rfl) GQ.trans GQ.refl (GQ.start _) (kindV_mono _) ?_
        simp only [List.take_succ_cons, List.take_zero, List.drop_succ_cons, List.drop_zero]
        iterate 7 (refine rv_det (by kernel_rfl) rfl (by intro w hG hH; obtain ⟨n, rfl⟩ := hG; go_simp; first | done | with_reducible rfl) ?_; simp only [Act.put, List.setIfInBounds_toArray, List.set_cons_zero, List.set_cons_succ])
        refine rv_nil (fun w hG hH => ?_)
        obtain ⟨n, rfl⟩ := hG
        clear hH
        go_wp2
        (try simp only [Exit.inBlock, Exit.then])
        refine bodyPost_ret (results_tmp3 rfl _ _ _) rfl ?_
        exact ⟨_, ret_eq (by rw [HE.out]; rfl), by rw [HE.out]; exact ownTk_nil _ _, by have := H4.out.2.2; rw [HW4.out] at this; exact this.drewN _⟩
      case true =>
        have hTl := oneS_lt hlt (by rw [← HTE.out]; exact HOK.out.symm)
        rw [← HTE.out] at hTl
        have htT : Hid (t = T.1) := Lib.hid (H3.out.1 HOK.out.symm)
        have HR2 : Hid (O = lexG s T.2.1 (ts ++ [t])) := Lib.hid (by rw [HX.out.2.2.1.out, lexG_one hlt HN.out.1 HN.out.2 (by rw [← HTE.out]; exact HOK.out.symm), htT.out, HTE.out])
        have hW34 : W3.heap.size < W4.heap.size := by rw [HW4.out]; simp
        go_wp2_with (at_builtin; refine Stopped.out ?_)
        refine ⟨?_⟩
        rw [← HW4.out]
        have ka : KB F0 W4 (W4.alloc (.cells #[.int .u8 (t.k : Nat), .int .i64 t.at_, .int .i64 t.n, .string t.s] 27)) := (KB.refl _ _).alloc _
        have HA := Lib.hid (And.intro (H4.out.2.1.kbF ka) (And.intro (H4.out.1.kb ka) (And.intro (H4.out.2.2.trans ka) (alloc_new W4 (.cells #[.int .u8 (t.k : Nat), .int .i64 t.at_, .int .i64 t.n, .string t.s] 27)))))
        have hs4 : w0.heap.size + 1 ≤ W4.heap.size := by have := heap_lt H4.out.1; omega
        have hbl : W3.heap.size + 1 = W4.heap.size := by rw [HW4.out]; simp
        refine appRow 22 27 (w0.heap.size + 1) (tkC t).toList Tryz.infoTok Tryz.underlying22 rfl (by decide) HA.out.1 rfl rfl rfl (by first | rfl | (rw [hbl]; rfl)) HA.out.2.2.2 rfl (by intro u hu; simp [tkC] at hu; rcases hu with rfl | rfl | rfl | rfl <;> rfl) (by unfold maxLen; omega) (by omega) (by simp; omega) ?_
        intro v' w' hown' hgr
        have hpush : OwnTk w' (w0.heap.size + 1) v' (ts ++ [t]) := by
          unfold OwnTk
          rw [tkCells_app, List.length_append]
          exact hown'
        have hge : ∀ g, Value.ownBlock u2 = some g → w0.heap.size + 1 ≤ g := fun g e => by
          obtain ⟨c, -, h2⟩ := own_block HA.out.1 e
          exact h2
        have hx5 : LX w' w0.heap.size s T.2.1 false := by
          have := HA.out.2.1
          unfold LX at this ⊢
          rw [hgr.block w0.heap.size (heap_lt this) (fun e => by have := hge _ e.symm; omega)]
          exact this
        have hkb5 := HA.out.2.2.1.grown hgr (fun g e h => by have := hge g e; omega)
        have H5 := Lib.hid (And.intro hpush (And.intro hx5 hkb5))
        clear hown' hgr hpush hge hx5 hkb5 ka
        go_wp2_with fail
        refine (PS.out w' T.2.1 hTl.2 H5.out.2.1).mono ?_
        rintro e W6 ⟨rfl, j2, hj21, hj22, hx6, hl6, hn6, k6⟩
        have H6 := Lib.hid (And.intro hx6 (And.intro (fun h => Lib.hid (hn6 h)) (And.intro (H5.out.1.kb k6 (fun g h e => by omega)) (And.intro (HR2.out.trans (hl6 _)) (H5.out.2.2.above k6 (fun g e => by rw [e]; exact Nat.le_refl _))))))
        have hln : (ts ++ [t]).length ≤ j2 := by rw [List.length_append, List.length_singleton]; omega
        have hjj : j < j2 := by omega
        clear hx6 hl6 hn6 k6
        go_wp2
        go_roundw
        case rel => exact ⟨j2, ts ++ [t], hj22, hln, H6.out.1, H6.out.2.1, H6.out.2.2.1, Lib.hid H6.out.2.2.2.1, H6.out.2.2.2.2⟩
        case measure =>
          rw [HX.out.1.at_, H6.out.1.at_]; omega
    · obtain rfl : j = s.size := by omega
      have HE : Hid (O = (ts, 0, 0)) := Lib.hid (by rw [HX.out.2.2.1.out, lexG_end (Nat.le_refl _)])
      have d2 : decide ((s.size : Int) < (s.size : Int)) = false := decide_eq_false (by omega)
      go_wp2
      (try simp only [Exit.inBlock, Exit.then])
      refine bodyPost_ret (results_tmp3 rfl _ _ _) rfl ?_
      exact ⟨_, ret_eq (by rw [HE.out]; rfl), by rw [HE.out]; exact own_base HX.out.2.1 (by omega), HX.out.2.2.2⟩
end Go.Proofs.YtcbifoimfhfccaaGreatDoor
