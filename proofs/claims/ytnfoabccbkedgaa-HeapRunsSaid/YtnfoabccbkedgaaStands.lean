/- The walk of stands: a heap stands as the document's does. -/
import Derived.Test.YtnfoabccbkedgaaHeapN
import Derived.Test.YtnfoabccbkedgaaRefHeapC
import Derived.Test.YtnfoabccbkedgaaRegionK
import Derived.Test.YtnfoabccbkedgaaArrEq
namespace Go.Proofs.Ytnfoabccbkedgaa
open Go.RowKit Go.Shelf
attribute [local go_sem] Oper.semAt_some

/-- The cells of a list of blocks, as pairs. -/
def pcells (l : List Blk) : List Value := l.flatMap fun p => [.int .i64 (addr p.1), .int .i64 (p.1.1 : Nat)]
theorem pcells_len (l : List Blk) : (pcells l).length = l.length * 2 := by
  induction l with
  | nil => rfl
  | cons p l ih => simp only [pcells, List.flatMap_cons, List.length_append, List.length_cons, List.length_nil] at ih ⊢; omega
theorem pcells_append (l m : List Blk) : pcells (l ++ m) = pcells l ++ pcells m := by simp [pcells]
theorem takenL_len (s : HS) : (takenL s).length ≤ 60 := below_len s 5
theorem below_part_len (s : HS) (c n : Nat) (hc : c < 5) (hn : n ≤ 12) : (below s c ++ part s c n).length ≤ 60 :=
  Nat.le_trans (part_prefix_all s c n hc hn).length_le (takenL_len s)
theorem Try.infoPair : (Try.prog.info? 67).map (fun i => (i.zero, i.size, i.bytes)) = some (some (.agg #[.int .i64 0, .int .i64 0]), 2, 16) := by kernel_rfl

theorem KB.putObjF {w W : World} (h : KB (fun _ => False) w W) (D : Nat) (o : Obj) (hD : w.heap.size ≤ D) : KB (fun _ => False) w (W.putObj D o) := h.grown (grownBy_putObj' W D o) (fun j e hj => by cases e; omega)
theorem pcells_get : ∀ (l : List Blk) (i : Nat) (h : i < l.length), (pcells l)[i * 2]? = some (.int .i64 (addr l[i].1)) ∧ (pcells l)[i * 2 + 1]? = some (.int .i64 (l[i].1.1 : Nat))
  | p :: l, 0, _ => ⟨rfl, rfl⟩
  | p :: l, i + 1, h => by
    have := pcells_get l i (by simpa using h)
    rw [show (i + 1) * 2 = i * 2 + 2 by omega, show pcells (p :: l) = [.int .i64 (addr p.1), .int .i64 (p.1.1 : Nat)] ++ pcells l from rfl,
      List.getElem?_append_right (by simp), List.getElem?_append_right (by simp <;> omega)]
    simp only [List.length_cons, List.length_nil, List.getElem_cons_succ]
    rw [show i * 2 + 2 - (0 + 1 + 1) = i * 2 by omega, show i * 2 + 2 + 1 - (0 + 1 + 1) = i * 2 + 1 by omega]
    exact this
theorem enc_ne {q y : Blk} (h : ¬ q = y) : (addr q.1 == addr y.1 && ((q.1.1 : Nat) : Int) == ((y.1.1 : Nat) : Int)) = false := by
  rw [Bool.and_eq_false_iff, beq_eq_false_iff_ne, beq_eq_false_iff_ne]
  by_cases e : ((q.1.1 : Nat) : Int) = ((y.1.1 : Nat) : Int)
  · left
    intro ha
    apply h
    have h1 : q.1.1 = y.1.1 := by omega
    have h2 : ((aN q : Nat) : Int) = ((aN y : Nat) : Int) := ha
    unfold aN at h2
    rw [h1] at h2
    have h3 : q.1.2 * 2 ^ y.1.1 = y.1.2 * 2 ^ y.1.1 := by omega
    have h4 := Nat.eq_of_mul_eq_mul_right (Nat.two_pow_pos _) h3
    exact Subtype.ext (Prod.ext h1 h4)
  · exact .inr e
/-- The row of what is wanted, wherever the rounds are. -/
theorem rowAt {s : HS} {N WB nb : Nat} {va : Option Addr} {w4 w5 W : World} (hv : Hid (∀ j, j < N * 2 → ∃ gw, va = some ⟨gw, 0, none⟩ ∧ WB + 1 ≤ gw ∧ w4.cell? ⟨gw, j, none⟩ = (pcells (takenL s))[j]?))
    (k5 : KB (fun _ => False) w4 w5) (h5 : w5.heap.size = nb + 1) (h2 : KB (fun j => j = nb) w5 W) (h4 : w4.heap.size ≤ nb) :
    ∀ i, i < N → ∀ h : i < (takenL s).length, ∃ gw, va = some ⟨gw, 0, none⟩ ∧ W.cell? ⟨gw, i * 2, none⟩ = some (.int .i64 (addr (takenL s)[i].1)) ∧ W.cell? ⟨gw, i * 2 + 1, none⟩ = some (.int .i64 ((takenL s)[i].1.1 : Nat)) := by
  intro i hi h
  obtain ⟨p1, p2⟩ := pcells_get (takenL s) i h
  obtain ⟨gw, e1, _, c1⟩ := hv.out (i * 2) (by omega)
  obtain ⟨gw', e2, _, c2⟩ := hv.out (i * 2 + 1) (by omega)
  rw [e1] at e2
  simp only [Option.some.injEq, Addr.mk.injEq, and_true] at e2
  subst e2
  rw [p1] at c1
  rw [p2] at c2
  have hl := World.block_lt_of_cell? w4 _ c1
  have hl' : gw < w4.heap.size := hl
  exact ⟨gw, e1, h2.cell (p := ⟨gw, i * 2, none⟩) (show ¬ gw = nb by omega) (k5.cell (p := ⟨gw, i * 2, none⟩) (fun x => x) c1), h2.cell (p := ⟨gw, i * 2 + 1, none⟩) (show ¬ gw = nb by omega) (k5.cell (p := ⟨gw, i * 2 + 1, none⟩) (fun x => x) c2)⟩
theorem each_eql (b : Nat) (w : World) : (binOp BinOp.eql 49 (.func (.func 33) #[] #[.pointer (some ⟨b, 0, none⟩)]) .nilFunc).run Try.prog w = .ok (.bool false) w := by kernel_rfl

set_option maxRecDepth 100000 in
set_option maxHeartbeats 8000000 in
theorem stands_any (b x : Nat) (few : Int) (s : HS) (w : World) (hb : IH w b s) (hx : IX w x s) :
    Calls Try.prog 15 #[.pointer (some ⟨b,0,none⟩), .pointer (some ⟨x,0,none⟩), .int .i64 few] w (lawPost w) := by
  obtain ⟨F, hF⟩ : ∃ F, F = w.heap.size := ⟨_, rfl⟩
  obtain ⟨w0, hw0⟩ : ∃ w0, w0 = (w.alloc (.cells #[.int .i64 few] 3)).alloc (.cells #[.bool false] 4) := ⟨_, rfl⟩
  have k0 : KB (fun _ => False) w w0 := by subst hw0; exact ((KB.refl _ _).alloc _).alloc _
  have hs0 : w0.heap.size = F + 2 := by subst hw0 hF; simp
  have f0 : w0.heap[F]? = some (.cells #[.int .i64 few] 3 (0, 0)) := by subst hw0 hF; exact ((KB.refl (fun _ => False) _).alloc _).heap (fun x => x) (alloc_new w _)
  have r0 : w0.heap[F + 1]? = some (.cells #[.bool false] 4 (0, 0)) := by
    have := alloc_new (w.alloc (.cells #[.int .i64 few] 3)) (.cells #[.bool false] 4 (0, 0))
    rw [World.size_alloc, ← hF] at this; rw [hw0]; exact this
  have HW0 := Lib.hid hw0
  have HF := Lib.hid hF
  have HX := Lib.hid (And.intro hb hx)
  have H0 := Lib.hid (And.intro k0 (And.intro hs0 (And.intro f0 r0)))
  clear hw0 hF hb hx k0 hs0 f0 r0
  have hlet : Lets Fence.wide Try.prog 19 := lets_wide
  refine (callsIn_wide (n := 20)).1 ?_
  refine callsIn_of_wp_marks Try.func15 rfl trivial ?_ rfl
  simp only [Try.ntmps15, List.size_toArray, List.length_cons, List.length_nil, Nat.reduceAdd, Nat.reduceSub, Array.replicate_succ, Array.replicate_zero, List.push_toArray, List.append_toArray, List.nil_append, List.cons_append]
  gi_wp2_with fail
  rw [← HW0.out, ← HF.out]
  have i0 := HX.out.1.kb H0.out.1 (fun x => x)
  refine callW (counts_any b s w0 i0) ?_
  rintro e w1 ⟨v, rfl, hown, hk1⟩
  obtain ⟨la, cap, rfl, -, -, hl0, -⟩ := own_shape hown
  obtain ⟨g, rfl, hg, -⟩ := hl0 0 (by omega)
  have hl1 : Hid (∀ k, k < 5 → w1.cell? ⟨g, k, none⟩ = some (.int .i64 (cnt (s.T k) : Nat))) := Lib.hid (fun k hk => by
    obtain ⟨g', h1, _, h2⟩ := hl0 k (by omega)
    simp only [Option.some.injEq, Addr.mk.injEq] at h1
    obtain ⟨rfl, _⟩ := h1
    rw [h2]; simp [cnts, hk])
  have HK1 := Lib.hid hk1
  clear hown hl0 hk1 i0
  gi_wp2_with fail
  obtain ⟨WB, hWB⟩ : ∃ WB, WB = w1.heap.size := ⟨_, rfl⟩
  obtain ⟨w2, hw2⟩ : ∃ w2, w2 = w1.alloc (.cells #[.slice none 0 0] 66) := ⟨_, rfl⟩
  have k2 : KB (fun _ => False) w1 w2 := by subst hw2; exact (KB.refl _ _).alloc _
  have hs2 : w2.heap.size = WB + 1 := by subst hw2 hWB; simp
  have b2 : w2.heap[WB]? = some (.cells #[.slice none 0 0] 66 (0, 0)) := by subst hw2 hWB; exact alloc_new w1 _
  rw [← hWB, ← hw2]
  have hgW : g < WB := by
    have := World.block_lt_of_cell? w1 _ (hl1.out 0 (by omega))
    rw [hWB]; exact this
  have HL := Lib.hid (fun k hk => k2.cell (p := ⟨g, k, none⟩) (fun x => x) (hl1.out k hk))
  have K2 := Lib.hid (HK1.out.trans k2)
  have H2 := Lib.hid (And.intro hs2 b2)
  have hFW : F + 1 < WB := by have := HK1.out.size; have := H0.out.2.1; omega
  clear hw2 hWB k2 hs2 b2 hl1 HK1
  gi_loopw [9] (fun iv wr => ∃ (k : Nat) (v : Value), k ≤ 5 ∧ iv = .int .i64 k ∧ wr.heap[WB]? = some (.cells #[v] 66 (0, 0)) ∧ wr.ownsRow (WB + 1) 67 2 v (below s k).length (pcells (below s k)) ∧ KB (fun j => WB ≤ j) w2 wr)
    (fun iv _ => 5 - (intOf iv).toNat)
  case atStart => exact ⟨0, _, by omega, rfl, H2.out.2, World.ownsRow_nil _ _ _ _, KB.refl _ _⟩
  case round =>
    obtain ⟨k, v, hk, rfl, hc, hown, hkb⟩ := hrel
    by_cases hlt : k < 5
    · have KR := Lib.hid (And.intro hc (And.intro hown hkb))
      have ihb : IH wr b s := HX.out.1.kb ((H0.out.1.trans K2.out).seq hkb (fun j h1 h2 => by have := HF.out; omega)) (fun x => x)
      have ixx : IX wr x s := HX.out.2.kb ((H0.out.1.trans K2.out).seq hkb (fun j h1 h2 => by have := HF.out; omega)) (fun x => x)
      have hbl := fun i (hi : i ≤ 12) => below_part_len s k i hlt hi
      have hps := fun i => part_succ s k i
      have hbs := below_succ s k
      have hT := fun i (hi : i < 12) (wq : World) (h : KB (fun _ => False) wr wq) => (ixx.kb h (fun x => x)).cellT hlt hi
      obtain ⟨cv, hcv⟩ : ∃ cv, cv = cnt (s.T k) := ⟨_, rfl⟩
      obtain ⟨mv, hmv⟩ : ∃ mv, mv = s.M k := ⟨_, rfl⟩
      have hcount := hcount_yes b s k hlt wr ihb
      have hmost := fun wq (h : KB (fun _ => False) wr wq) => hmost_yes b s k hlt wq (ihb.kb h (fun x => x))
      have hrc := fun wq (h : KB (fun _ => False) wr wq) => rcount_any x s k hlt wq (ixx.kb h (fun x => x))
      have hxm := fun wq (h : KB (fun _ => False) wr wq) => (ixx.kb h (fun x => x)).cellM hlt
      have hlc := fun wq (h : KB (fun _ => False) wr wq) => h.cell (p := ⟨g, k, none⟩) (fun x => x) (hkb.cell (p := ⟨g, k, none⟩) (show ¬ WB ≤ g by omega) (HL.out k hlt))
      have hA := fun i (hi : i < 12) wq => raddr_any k hlt i (by omega) wq
      rw [← hcv] at hcount hrc hlc
      rw [← hmv] at hmost hxm
      have Hcount := Lib.hid hcount
      have Hmost := Lib.hid hmost
      have Hrc := Lib.hid hrc
      have Hxm := Lib.hid hxm
      have Hlc := Lib.hid hlc
      have Hps := Lib.hid hps
      have Hbs := Lib.hid hbs
      have HT := Lib.hid hT
      have Hbl := Lib.hid hbl
      have HA := Lib.hid hA
      have hk5 : (k : Int) < 5 := by omega
      clear hc hown hkb ihb ixx hbl hps hbs hT hcv hmv hcount hmost hrc hxm hlc hA
      gi_wp2_with fail
      refine callW Hcount.out ?_
      rintro e w3 ⟨rfl, k3⟩
      have KK3 := Lib.hid k3
      clear k3
      gi_wp2_with fail
      refine callW (Hmost.out _ KK3.out) ?_
      rintro e w4 ⟨rfl, k4⟩
      have KK4 := Lib.hid (KK3.out.trans k4)
      clear k4
      have c1 := Hlc.out _ KK4.out
      have c2 := Hxm.out _ KK4.out
      gi_wp2_with fail
      refine callW (Hrc.out _ KK4.out) ?_
      rintro e _ ⟨rfl, rfl⟩
      gi_wp2_with fail
      clear c1 c2
      have KR4 : Hid (∃ v, w4.heap[WB]? = some (.cells #[v] 66 (0, 0)) ∧ w4.ownsRow (WB + 1) 67 2 v (below s k).length (pcells (below s k)) ∧ KB (fun j => WB ≤ j) w2 w4) :=
        Lib.hid ⟨v, KK4.out.heap (fun x => x) KR.out.1, own_kb KR.out.2.1 KK4.out (fun _ _ x => x), KR.out.2.2.trans (KK4.out.mono (fun _ _ x => x.elim))⟩
      obtain ⟨wo, rfl⟩ : ∃ wo : World, wo = wr := ⟨_, rfl⟩
      gi_loopw [14] (fun iv wq => ∃ (i : Nat) (v : Value), i ≤ 12 ∧ iv = .int .i64 i ∧ wq.heap[WB]? = some (.cells #[v] 66 (0, 0)) ∧ wq.ownsRow (WB + 1) 67 2 v (below s k ++ part s k i).length (pcells (below s k ++ part s k i)) ∧ KB (fun j => WB ≤ j) w2 wq)
        (fun iv _ => 12 - (intOf iv).toNat)
      case atStart =>
        obtain ⟨v, h1, h2, h3⟩ := KR4.out
        refine ⟨0, v, by omega, rfl, h1, ?_, h3⟩
        have e : part s k 0 = [] := rfl
        rw [e, List.append_nil]; exact h2
      case round =>
        obtain ⟨i, v, hi, rfl, hc, hown, hkb⟩ := hrel
        have ixx : IX wr x s := HX.out.2.kb ((H0.out.1.trans K2.out).seq hkb (fun j h1 h2 => by have := HF.out; omega)) (fun x => x)
        by_cases hlt2 : i < 12
        · have cT := ixx.cellT hlt hlt2
          have hi12 : (i : Int) < 12 := by omega
          have hps := Hps.out i
          clear ixx
          cases hTi : s.T k i
          · rw [hTi] at cT hps
            have hown' : wr.ownsRow (WB + 1) 67 2 v (below s k ++ part s k (i + 1)).length (pcells (below s k ++ part s k (i + 1))) := by
              rw [hps]; simpa using hown
            have KR5 := Lib.hid (And.intro hc (And.intro hown' hkb))
            clear hc hown hkb hown' hps hTi
            gi_wp2
            go_roundw
            case rel => exact ⟨i + 1, v, by omega, by go_num, KR5.out.1, KR5.out.2.1, KR5.out.2.2⟩
            case measure => simp [intOf]; omega
          · rw [hTi] at cT hps
            have cW : wr.cell? ⟨WB, 0, none⟩ = some v := by simp [World.cell?, hc]
            have fW : wr.frozen? ⟨WB, 0, none⟩ = false := by simp [World.frozen?, hc]
            have hsz := hkb.size
            have hs2 := H2.out.1
            obtain ⟨A, hAe⟩ : ∃ A, A = hb k + i * 2 ^ k := ⟨_, rfl⟩
            have Ha := Lib.hid (HA.out i hlt2)
            rw [← hAe] at Ha
            have HAe := Lib.hid hAe
            have KR5 := Lib.hid (And.intro hc (And.intro hown hkb))
            have HPS := Lib.hid hps
            clear hc hown hkb hps hTi hAe
            gi_wp2_with fail
            refine wpIn_region_rv 7 GK (kindW [(3, fun v => v = .int .i64 (A : Nat), fun _ _ => True), (6, OneRow wr.heap.size #[.int .i64 (A : Nat), .int .i64 (k : Nat)] 67, OneRowAt wr.heap.size #[.int .i64 (A : Nat), .int .i64 (k : Nat)] 67)]) hlet (by kernel_rfl) (by kernel_rfl) (by kernel_rfl) (kb_trans _) (kb_refl _) (kb_start _ _) (kindW_mono _ (by intro p hp; simp only [List.mem_cons, List.not_mem_nil, or_false] at hp; rcases hp with rfl | rfl; exact lasts_true; exact lasts_row _ _ _)) ?_
            simp only [List.take_succ_cons, List.take_zero, List.drop_succ_cons, List.drop_zero]
            refine rv_det (by kernel_rfl) rfl (by intro w hG hH; have hc0 := KB.cell hG (fun x => x) (cW); go_simp; first | done | with_reducible rfl) ?_
            simp only [Act.put, List.setIfInBounds_toArray, List.set_cons_zero, List.set_cons_succ]
            refine rv_det (by kernel_rfl) rfl (by intro w hG hH; go_simp; first | done | with_reducible rfl) ?_
            simp only [Act.put, List.setIfInBounds_toArray, List.set_cons_zero, List.set_cons_succ]
            refine rv_det (by kernel_rfl) rfl (by intro w hG hH; go_simp; first | done | with_reducible rfl) ?_
            simp only [Act.put, List.setIfInBounds_toArray, List.set_cons_zero, List.set_cons_succ]
            refine rv_rel (by kernel_rfl) rfl ⟨_, rfl⟩ (by
              intro w hG hH
              refine opVal_call (by go_simp; first | done | exact ⟨⟨rfl, rfl⟩, rfl⟩) ?_
              refine (Ha.out _).mono ?_
              rintro e w' ⟨rfl, hq⟩
              exact ⟨_, rfl, rfl, by first | (obtain ⟨nq, rfl⟩ := hq; exact (KB.refl _ _).drewN _) | (subst hq; exact KB.refl _ _) | exact hq, trivial⟩) ?_
            rintro v rfl
            simp only [Act.put, List.setIfInBounds_toArray, List.set_cons_zero, List.set_cons_succ]
            refine rv_det (by kernel_rfl) rfl (by intro w hG hH; go_simp; first | done | with_reducible rfl) ?_
            simp only [Act.put, List.setIfInBounds_toArray, List.set_cons_zero, List.set_cons_succ]
            refine rv_det (by kernel_rfl) rfl (by intro w hG hH; go_simp; first | done | with_reducible rfl) ?_
            simp only [Act.put, List.setIfInBounds_toArray, List.set_cons_zero, List.set_cons_succ]
            refine rv_rel (by kernel_rfl) rfl ⟨.slice (some ⟨_, 0, none⟩) 1 1, _, rfl, Nat.le_refl _⟩ (fun w hG hH => opVal_row hG (by go_simp; first | done | rfl)) ?_
            rintro v ⟨nb, rfl, hnb⟩
            simp only [Act.put, List.setIfInBounds_toArray, List.set_cons_zero, List.set_cons_succ]
            refine rv_nil (fun w hG hH => ?_)
            obtain ⟨nb', he, -, hnb'⟩ := hH _ (List.Mem.head _)
            simp only [Value.slice.injEq, Option.some.injEq, Addr.mk.injEq, and_true] at he
            subst he
            have hown1 := own_kb KR5.out.2.1 hG (fun _ _ x => x)
            have hwb : w.heap[WB]? = some (.cells #[v] 66 (0, 0)) := hG.heap (fun x => x) KR5.out.1
            have hkb1 := KR5.out.2.2.trans (hG.mono (fun _ _ x => x.elim))
            have hsz1 := hG.size
            have hlen := Hbl.out i (by omega)
            clear hH
            refine appRowIn 66 67 (WB + 1) [.int .i64 (A : Nat), .int .i64 (k : Nat)] Try.infoPair Try.underlying66 rfl (by decide) hown1 rfl rfl rfl rfl hnb' rfl
              (by intro u hu; simp at hu; rcases hu with rfl | rfl <;> rfl) (by unfold maxLen; omega) (by omega) (by omega) ?_
            intro v' w' hown' hgr
            obtain ⟨a', cap', rfl, -, -, -, -⟩ := own_shape hown'
            have hge := own_ge (S := fun _ => False) hown1 (B := WB + 1) (Nat.le_refl _)
            have hwb' : w'.heap[WB]? = some (.cells #[v] 66 (0, 0)) := (hgr.block WB (by omega) (fun e => hge WB e.symm (by omega))).trans hwb
            have hkb' : KB (fun j => WB ≤ j) w2 w' := hkb1.grown hgr (fun j e hj => by have := H2.out.1; exact (hge j e (by omega)).elim)
            have cW' : w'.cell? ⟨WB, 0, none⟩ = some v := by simp [World.cell?, hwb']
            have fW' : w'.frozen? ⟨WB, 0, none⟩ = false := by simp [World.frozen?, hwb']
            have KR6 := Lib.hid (And.intro hwb' (And.intro hown' hkb'))
            clear hwb' hown' hkb' hgr hge hown1 hwb hkb1 cW fW hnb' hG
            gi_wp2_with fail
            go_roundw
            case rel =>
              refine ⟨i + 1, _, by omega, by go_num, (setCell_heap KR6.out.1), ?_, KR6.out.2.2.setCell (p := ⟨WB, 0, none⟩) (fun _ => Nat.le_refl _) _⟩
              rw [HPS.out]
              have h9 := own_kb KR6.out.2.1 (kb_set w' WB 0 (.slice a' ((below s k ++ part s k i).length + 1) cap')) (fun j e hj => own_ge (S := fun _ => False) KR6.out.2.1 (B := WB + 1) (Nat.le_refl _) j e (by omega))
              rw [← List.append_assoc, pcells_append, List.length_append]
              simp only [if_true]
              rw [show pcells [blk k i] = [.int .i64 (A : Nat), .int .i64 (k : Nat)] by simp only [pcells, List.flatMap_cons, List.flatMap_nil, List.append_nil, blk_val hlt hlt2]; rw [HAe.out]; rfl]
              simpa only [List.length_append, List.length_cons, List.length_nil, Nat.zero_add] using h9
            case measure => simp [intOf]; omega
        · obtain rfl : i = 12 := by omega
          have KR5 := Lib.hid (And.intro hc (And.intro hown hkb))
          clear hc hown hkb ixx
          gi_wp2
          go_roundw
          case rel =>
            refine ⟨k + 1, v, by omega, by go_num, KR5.out.1, ?_, KR5.out.2.2⟩
            rw [Hbs.out]; exact KR5.out.2.1
          case measure => simp [intOf]; omega
    · obtain rfl : k = 5 := by omega
      push_cast
      obtain ⟨va, vcap, rfl, -, -, hv0, -⟩ := own_shape hown
      have ihb : IH wr b s := HX.out.1.kb ((H0.out.1.trans K2.out).seq hkb (fun j h1 h2 => by have := HF.out; omega)) (fun x => x)
      have hsz := hkb.size
      have hv1 : Hid (∀ j, j < (takenL s).length * 2 → ∃ gw, va = some ⟨gw, 0, none⟩ ∧ WB + 1 ≤ gw ∧ wr.cell? ⟨gw, j, none⟩ = (pcells (takenL s))[j]?) := Lib.hid hv0
      have hlen : Hid ((below s 5).length = (takenL s).length) := Lib.hid rfl
      obtain ⟨N, hN⟩ : ∃ N, N = (below s 5).length := ⟨_, rfl⟩
      have hN60 : N ≤ 60 := by rw [hN]; exact below_len s 5
      rw [← hN] at hc
      have KR5 := Lib.hid (And.intro hc (And.intro hkb ihb))
      have HN := Lib.hid hN
      clear hc hown hkb hv0 ihb hN
      gi_wp2_with fail
      refine callW (each_any b s _ KR5.out.2.2) ?_
      rintro e w4 ⟨rfl, ic, k4⟩
      obtain ⟨cb, hcb⟩ : ∃ cb, cb = wr.heap.size := ⟨_, rfl⟩
      rw [← hcb] at ic ⊢
      unfold eachFn
      have heq := fun w => each_eql cb w
      have hW4 : KB (fun j => WB ≤ j) w2 w4 := KR5.out.2.1.trans (k4.mono (fun _ _ x => x.elim))
      have hwb : w4.heap[WB]? = some (.cells #[.slice va N vcap] 66 (0, 0)) := k4.heap (fun x => x) KR5.out.1
      have hv4 : Hid (∀ j, j < N * 2 → ∃ gw, va = some ⟨gw, 0, none⟩ ∧ WB + 1 ≤ gw ∧ w4.cell? ⟨gw, j, none⟩ = (pcells (takenL s))[j]?) := Lib.hid fun j hj => by
        obtain ⟨gw, h1, h2, h3⟩ := hv1.out j (by rw [← hlen.out, ← HN.out]; exact hj)
        refine ⟨gw, h1, h2, ?_⟩
        have hjl : j < (pcells (takenL s)).length := by rw [pcells_len, ← hlen.out, ← HN.out]; exact hj
        rw [List.getElem?_eq_getElem hjl] at h3 ⊢
        exact k4.cell (p := ⟨gw, j, none⟩) (fun x => x) h3
      have hw4 : WB + 1 ≤ w4.heap.size := by have := hW4.size; have := H2.out.1; omega
      have hFc : w4.heap[F]? = some (.cells #[.int .i64 few] 3 (0, 0)) := hW4.heap (show ¬ WB ≤ F by omega) (K2.out.heap (fun x => x) H0.out.2.2.1)
      have hRc : w4.heap[F + 1]? = some (.cells #[.bool false] 4 (0, 0)) := hW4.heap (show ¬ WB ≤ F + 1 by omega) (K2.out.heap (fun x => x) H0.out.2.2.2)
      have hkw : KB (fun _ => False) w w4 := (H0.out.1.trans K2.out).seq hW4 (fun j h1 h2 => by have := HF.out; omega)
      have H4 := Lib.hid (And.intro ic (And.intro hwb (And.intro hFc (And.intro hRc hkw))))
      have hcb4 := heap_lt ic.1
      clear hv1 KR5 hcb ic k4 hW4 hwb hFc hRc hkw H2
      gi_wp2_with fail
      clear heq
      -- ROUNDS
      refine wpIn_loop_rounds 3 ?_
      obtain ⟨rb, hrb⟩ : ∃ rb, rb = w4.heap.size := ⟨_, rfl⟩
      obtain ⟨wr, hwr⟩ : ∃ wr, wr = w4.alloc (.cells #[.int .i64 0] 3) := ⟨_, rfl⟩
      have KR : Hid (wr.heap[rb]? = some (.cells #[.int .i64 0] 3 (0, 0)) ∧ w4.heap.size ≤ rb ∧ KB (fun _ => False) w4 wr) := Lib.hid (by
        subst hrb hwr; exact ⟨alloc_new w4 _, Nat.le_refl _, (KB.refl _ _).alloc _⟩)
      rw [← hrb, ← hwr]
      clear hrb hwr
      rw [roundsIn_succ]
      obtain ⟨nb, hnb⟩ : ∃ nb, nb = wr.heap.size := ⟨_, rfl⟩
      obtain ⟨w5, hw5⟩ : ∃ w5, w5 = wr.alloc (.cells #[.int .i64 0] 3) := ⟨_, rfl⟩
      have k5 : KB (fun _ => False) wr w5 := by subst hw5; exact (KB.refl _ _).alloc _
      have hs5 : w5.heap.size = nb + 1 := by subst hw5 hnb; simp
      have n5 : w5.heap[nb]? = some (.cells #[.int .i64 0] 3 (0, 0)) := by subst hw5 hnb; exact alloc_new wr _
      have hrb5 : rb < nb := by have := heap_lt KR.out.1; omega
      have h45 := KR.out.2.2.trans k5
      have hs4 := KR.out.2.2.size
      have hrb4 := KR.out.2.1
      have K5 := Lib.hid (And.intro k5 (And.intro hs5 (And.intro n5 (And.intro (k5.heap (fun x => x) KR.out.1) h45))))
      have HW5 := Lib.hid hw5
      have HNB := Lib.hid hnb
      have cR : wr.cell? ⟨rb, 0, none⟩ = some (.int .i64 0) := by have := KR.out.1; simp [World.cell?, this]
      clear hw5 hnb k5 hs5 n5 h45
      gi_wp2_with fail
      rw [← HNB.out, ← HW5.out]
      clear cR
      refine rangeFuncF (F := Fence.wide) rfl (by omega) (gf := 33) (lb := #[.pointer (some ⟨cb, 0, none⟩)]) rfl trivial (enters_of Try.func33 (by kernel_rfl) rfl)
        (each1_stops Fence.wide 19 (by omega) (fun _ => trivial) rfl lets_wide cb s w5 (fun j => j = nb) (by omega) (fun j hj => by have := K5.out.2.1; omega) (H4.out.1.kb K5.out.2.2.2.2 (fun x => x))) KC.trans
        (fun W l o o' _ h ho _ => KC.putObj W l o o' h ho) (Below.refl _ _) (fun _ => rfl)
        (fun pre W => W.heap[nb]? = some (.cells #[.int .i64 (pre.length : Nat)] 3 (0, 0)) ∧ KB (fun j => j = nb) w5 W)
        (fun c pre W => (c = .ret ∧ ¬ pre <+: takenL s) ∨ (c = .exit 6 ∧ (pre.length : Int) = few ∧ W.heap[nb]? = some (.cells #[.int .i64 (pre.length : Nat)] 3 (0, 0)) ∧ KB (fun j => j = nb) w5 W)) ?own0 ?ownx0 ?start0 ?rounds0 ?done0 ?stop0
      case own0 =>
        rintro pre A B row ⟨h1, h2⟩ hg hr
        exact ⟨own_heap hg hr h1 rfl, h2.grown hg (fun k e hk => by have := (hr k e).1; omega)⟩
      case ownx0 =>
        rintro c pre A B row (h | ⟨h0, h01, h1, h2⟩) hg hr
        · exact .inl h
        · exact .inr ⟨h0, h01, own_heap hg hr h1 rfl, h2.grown hg (fun k e hk => by have := (hr k e).1; omega)⟩
      case start0 => exact ⟨K5.out.2.2.1, KB.refl _ _⟩
      case rounds0 =>
        apply Exists.intro
        refine ⟨?assign0, ?body0⟩
        case assign0 =>
          intro l y W K hK
          simp only [encs2]
          gi_wp2
          exact hK
        case body0 =>
          rintro l pre y W ⟨h1, h2⟩ _
          have hrow := rowAt hv4 K5.out.2.2.2.2 (K5.out.2.1) h2 (by omega)
          obtain ⟨ad, had⟩ : ∃ ad, ad = addr y.1 := ⟨_, rfl⟩
          obtain ⟨cl, hcl⟩ : ∃ cl, cl = y.1.1 := ⟨_, rfl⟩
          rw [← had, ← hcl]
          obtain ⟨pl, hpl⟩ : ∃ pl, pl = pre.length := ⟨_, rfl⟩
          have cN : W.cell? ⟨nb, 0, none⟩ = some (.int .i64 (pl : Nat)) := by rw [hpl]; simp [World.cell?, h1]
          have fN : W.frozen? ⟨nb, 0, none⟩ = false := by simp [World.frozen?, h1]
          have hW : ∀ j, j < w4.heap.size → ∀ o, w4.heap[j]? = some o → W.heap[j]? = some o := fun j hj o ho => h2.heap (show ¬ j = nb by omega) (K5.out.2.2.2.2.heap (fun x => x) ho)
          have cW : W.cell? ⟨WB, 0, none⟩ = some (.slice va N vcap) := by simp [World.cell?, hW WB (by omega) _ H4.out.2.1]
          have cF : W.cell? ⟨F, 0, none⟩ = some (.int .i64 few) := by simp [World.cell?, hW F (by omega) _ H4.out.2.2.1]
          have cQ : W.cell? ⟨F + 1, 0, none⟩ = some (.bool false) := by simp [World.cell?, hW (F + 1) (by omega) _ H4.out.2.2.2.1]
          have fQ : W.frozen? ⟨F + 1, 0, none⟩ = false := by simp [World.frozen?, hW (F + 1) (by omega) _ H4.out.2.2.2.1]
          have cR : W.cell? ⟨rb, 0, none⟩ = some (.int .i64 0) := by
            have := h2.heap (show ¬ rb = nb by omega) K5.out.2.2.2.1
            simp [World.cell?, this]
          have HB := Lib.hid (And.intro h1 h2)
          rw [← hpl] at HB
          have HPL := Lib.hid hpl
          have HAD := Lib.hid (And.intro had hcl)
          clear h1 h2 hW hpl had hcl
          by_cases hge : N ≤ pl
          · have hnot : Hid (¬ (pre ++ [y]) <+: takenL s) := Lib.hid (fun h => by
              have := h.length_le
              rw [List.length_append, ← HPL.out, ← hlen.out, ← HN.out] at this
              simp at this; omega)
            clear hrow
            gi_wp2_with fail
            exact ⟨KeepsOthers.setCell _ _ _, .inl ⟨rfl, hnot.out⟩⟩
          · have hpl60 : (pl : Int) < 60 := by omega
            have hplN : (pl : Int) < (N : Int) := by omega
            have hplt : pl < (takenL s).length := by rw [← hlen.out, ← HN.out]; omega
            obtain ⟨q, hq⟩ : ∃ q, q = (takenL s)[pl] := ⟨_, rfl⟩
            obtain ⟨gw, rfl, c1, c2⟩ := hrow pl (by omega) hplt
            rw [← hq] at c1 c2
            clear hrow
            by_cases hqy : q = y
            · rw [hqy, ← HAD.out.1] at c1
              rw [hqy, ← HAD.out.2] at c2
              have hne := fun w => pair_neq Try.underlying67 Try.underlying3 (fun w => by kernel_rfl) (fun w => by kernel_rfl) ad (cl : Nat) ad (cl : Nat) true (by simp) w
              rw [Bool.not_true] at hne
              clear hq hqy
              by_cases hfew : ((pl + 1 : Nat) : Int) = few
              · have t4 : (((pl : Int) + 1) == few) = true := by rw [← hfew]; push_cast; simp
                gi_wp2_with fail
                have hfin : (W.setCell ⟨nb, 0, none⟩ (.int .i64 ((pl : Int) + 1))).heap[nb]? = some (.cells #[.int .i64 ((pre ++ [y]).length : Nat)] 3 (0, 0)) := by
                  rw [List.length_append, ← HPL.out]; exact setCell_heap HB.out.1
                exact ⟨KeepsOthers.setCell _ _ _, .inr ⟨rfl, by rw [List.length_append, ← HPL.out]; exact hfew, hfin, HB.out.2.setCell (p := ⟨nb, 0, none⟩) (fun _ => rfl) _⟩⟩
              · have t4 : (((pl : Int) + 1) == few) = false := by rw [beq_eq_false_iff_ne]; intro e; exact hfew (by rw [← e]; push_cast; rfl)
                gi_wp2_with fail
                have hfin : (W.setCell ⟨nb, 0, none⟩ (.int .i64 ((pl : Int) + 1))).heap[nb]? = some (.cells #[.int .i64 ((pre ++ [y]).length : Nat)] 3 (0, 0)) := by
                  rw [List.length_append, ← HPL.out]; exact setCell_heap HB.out.1
                exact ⟨KeepsOthers.setCell _ _ _, (KC.refl (fun j => j = nb) W).setCell (a := ⟨nb, 0, none⟩) rfl _, hfin, HB.out.2.setCell (p := ⟨nb, 0, none⟩) (fun _ => rfl) _⟩
            · have hnot : Hid (¬ (pre ++ [y]) <+: takenL s) := Lib.hid (fun h => by
                apply hqy
                rw [hq]
                have h5 := List.IsPrefix.getElem h (i := pl) (by rw [List.length_append, ← HPL.out]; simp)
                rw [← h5, List.getElem_append_right (by rw [HPL.out]; exact Nat.le_refl _)]
                simp [HPL.out])
              have hne := fun w => pair_neq Try.underlying67 Try.underlying3 (fun w => by kernel_rfl) (fun w => by kernel_rfl) (addr q.1) (q.1.1 : Nat) ad (cl : Nat) false (by rw [HAD.out.1, HAD.out.2]; exact enc_ne hqy) w
              rw [Bool.not_false] at hne
              clear hq hqy
              gi_wp2_with fail
              exact ⟨KeepsOthers.setCell _ _ _, .inl ⟨rfl, hnot.out⟩⟩
      case stop0 =>
        rintro D c pre W hD hp (⟨-, h⟩ | ⟨rfl, h01, h1, h2⟩) hK
        · exact (h hp).elim
        · obtain ⟨pl, hpl⟩ : ∃ pl, pl = pre.length := ⟨_, rfl⟩
          have hpN : pre.length ≤ N := by rw [HN.out, hlen.out]; exact hp.length_le
          rw [← hpl] at h1 h01 hpN
          have hpl60 : (pl : Int) ≤ 60 := by omega
          have cN : W.cell? ⟨nb, 0, none⟩ = some (.int .i64 (pl : Nat)) := by simp [World.cell?, h1]
          have hW : ∀ j, j < w4.heap.size → ∀ o, w4.heap[j]? = some o → W.heap[j]? = some o := fun j hj o ho => h2.heap (show ¬ j = nb by omega) (K5.out.2.2.2.2.heap (fun x => x) ho)
          have cW : W.cell? ⟨WB, 0, none⟩ = some (.slice va N vcap) := by simp [World.cell?, hW WB (by omega) _ H4.out.2.1]
          have cF : W.cell? ⟨F, 0, none⟩ = some (.int .i64 few) := by simp [World.cell?, hW F (by omega) _ H4.out.2.2.1]
          have cR : W.cell? ⟨rb, 0, none⟩ = some (.int .i64 0) := by
            have := h2.heap (show ¬ rb = nb by omega) K5.out.2.2.2.1
            simp [World.cell?, this]
          have t6 : ((pl : Int) != few) = false := by rw [h01]; simp
          have HB := Lib.hid (And.intro h1 (And.intro h2 hK))
          clear h1 h2 hW hpl hK h01
          by_cases hnN : pl = N
          · have t5 : ((pl : Int) != (N : Int)) = false := by simp [hnN]
            clear hnN
            gi_wp2_with fail
            clear cN cW cF cR t5 t6
            obtain ⟨rb, hrb⟩ : ∃ rb, rb = W.heap.size := ⟨_, rfl⟩
            obtain ⟨wr, hwr⟩ : ∃ wr, wr = W.alloc (.cells #[.int .i64 1] 3) := ⟨_, rfl⟩
            have k4W : KB (fun _ => False) w4 W := K5.out.2.2.2.2.seq HB.out.2.1 (fun j h1 h2 => by omega)
            have hDW := heap_lt HB.out.2.2
            have hsz4 := k4W.size
            have KR : Hid (wr.heap[rb]? = some (.cells #[.int .i64 1] 3 (0, 0)) ∧ w4.heap.size ≤ rb ∧ KB (fun _ => False) w4 wr) := Lib.hid (by
              subst hrb hwr; exact ⟨alloc_new W _, hsz4, k4W.alloc _⟩)
            have HD0 : Hid (wr.heap[D]? = some (.deferred (some []))) := Lib.hid (by
              subst hwr; exact ((KB.refl (fun _ => False) W).alloc _).heap (fun x => x) HB.out.2.2)
            have hDrb : D < rb := by rw [hrb]; exact hDW
            have hwD : w4.heap.size ≤ D := by have := K5.out.2.1; omega
            obtain ⟨D0, hD0⟩ : ∃ D0, D0 = D := ⟨_, rfl⟩
            rw [← hrb, ← hwr]
            rw [← hD0] at HD0 hDrb hwD ⊢
            clear hrb hwr k4W hDW hsz4 hD0
            rw [roundsIn_succ]
            obtain ⟨nb, hnb⟩ : ∃ nb, nb = wr.heap.size := ⟨_, rfl⟩
            obtain ⟨w5, hw5⟩ : ∃ w5, w5 = wr.alloc (.cells #[.int .i64 0] 3) := ⟨_, rfl⟩
            have k5 : KB (fun _ => False) wr w5 := by subst hw5; exact (KB.refl _ _).alloc _
            have hs5 : w5.heap.size = nb + 1 := by subst hw5 hnb; simp
            have n5 : w5.heap[nb]? = some (.cells #[.int .i64 0] 3 (0, 0)) := by subst hw5 hnb; exact alloc_new wr _
            have hrb5 : rb < nb := by have := heap_lt KR.out.1; omega
            have h45 := KR.out.2.2.trans k5
            have hs4 := KR.out.2.2.size
            have hrb4 := KR.out.2.1
            have K5 := Lib.hid (And.intro k5 (And.intro hs5 (And.intro n5 (And.intro (k5.heap (fun x => x) KR.out.1) h45))))
            have HW5 := Lib.hid hw5
            have HNB := Lib.hid hnb
            have cR : wr.cell? ⟨rb, 0, none⟩ = some (.int .i64 1) := by have := KR.out.1; simp [World.cell?, this]
            clear hw5 hnb k5 hs5 n5 h45
            gi_wp2_with fail
            rw [← HNB.out, ← HW5.out]
            clear cR
            refine rangeFuncF (F := Fence.wide) rfl (by omega) (gf := 33) (lb := #[.pointer (some ⟨cb, 0, none⟩)]) rfl trivial (enters_of Try.func33 (by kernel_rfl) rfl)
              (each1_stops Fence.wide 19 (by omega) (fun _ => trivial) rfl lets_wide cb s w5 (fun j => j = nb) (by omega) (fun j hj => by have := K5.out.2.1; omega) (H4.out.1.kb K5.out.2.2.2.2 (fun x => x))) KC.trans
              (fun W l o o' _ h ho _ => KC.putObj W l o o' h ho) (Below.refl _ _) (fun _ => rfl)
              (fun pre W => W.heap[nb]? = some (.cells #[.int .i64 (pre.length : Nat)] 3 (0, 0)) ∧ KB (fun j => j = nb) w5 W)
              (fun c pre W => (c = .ret ∧ ¬ pre <+: takenL s)) ?own1 ?ownx1 ?start1 ?rounds1 ?done1 ?stop1
            case own1 =>
              rintro pre A B row ⟨h1, h2⟩ hg hr
              exact ⟨own_heap hg hr h1 rfl, h2.grown hg (fun k e hk => by have := (hr k e).1; omega)⟩
            case ownx1 =>
              rintro c pre A B row h hg hr
              exact h
            case start1 => exact ⟨K5.out.2.2.1, KB.refl _ _⟩
            case rounds1 =>
              apply Exists.intro
              refine ⟨?assign1, ?body1⟩
              case assign1 =>
                intro l y W K hK
                simp only [encs2]
                gi_wp2
                exact hK
              case body1 =>
                rintro l pre y W ⟨h1, h2⟩ _
                have hrow := rowAt hv4 K5.out.2.2.2.2 (K5.out.2.1) h2 (by omega)
                obtain ⟨ad, had⟩ : ∃ ad, ad = addr y.1 := ⟨_, rfl⟩
                obtain ⟨cl, hcl⟩ : ∃ cl, cl = y.1.1 := ⟨_, rfl⟩
                rw [← had, ← hcl]
                obtain ⟨pl, hpl⟩ : ∃ pl, pl = pre.length := ⟨_, rfl⟩
                have cN : W.cell? ⟨nb, 0, none⟩ = some (.int .i64 (pl : Nat)) := by rw [hpl]; simp [World.cell?, h1]
                have fN : W.frozen? ⟨nb, 0, none⟩ = false := by simp [World.frozen?, h1]
                have hW : ∀ j, j < w4.heap.size → ∀ o, w4.heap[j]? = some o → W.heap[j]? = some o := fun j hj o ho => h2.heap (show ¬ j = nb by omega) (K5.out.2.2.2.2.heap (fun x => x) ho)
                have cW : W.cell? ⟨WB, 0, none⟩ = some (.slice va N vcap) := by simp [World.cell?, hW WB (by omega) _ H4.out.2.1]
                have cF : W.cell? ⟨F, 0, none⟩ = some (.int .i64 few) := by simp [World.cell?, hW F (by omega) _ H4.out.2.2.1]
                have cQ : W.cell? ⟨F + 1, 0, none⟩ = some (.bool false) := by simp [World.cell?, hW (F + 1) (by omega) _ H4.out.2.2.2.1]
                have fQ : W.frozen? ⟨F + 1, 0, none⟩ = false := by simp [World.frozen?, hW (F + 1) (by omega) _ H4.out.2.2.2.1]
                have cR : W.cell? ⟨rb, 0, none⟩ = some (.int .i64 1) := by
                  have := h2.heap (show ¬ rb = nb by omega) K5.out.2.2.2.1
                  simp [World.cell?, this]
                have HB := Lib.hid (And.intro h1 h2)
                rw [← hpl] at HB
                have HPL := Lib.hid hpl
                have HAD := Lib.hid (And.intro had hcl)
                clear h1 h2 hW hpl had hcl
                by_cases hge : N ≤ pl
                · have hnot : Hid (¬ (pre ++ [y]) <+: takenL s) := Lib.hid (fun h => by
                    have := h.length_le
                    rw [List.length_append, ← HPL.out, ← hlen.out, ← HN.out] at this
                    simp at this; omega)
                  clear hrow
                  gi_wp2_with fail
                  exact ⟨KeepsOthers.setCell _ _ _, ⟨rfl, hnot.out⟩⟩
                · have hpl60 : (pl : Int) < 60 := by omega
                  have hplN : (pl : Int) < (N : Int) := by omega
                  have hplt : pl < (takenL s).length := by rw [← hlen.out, ← HN.out]; omega
                  obtain ⟨q, hq⟩ : ∃ q, q = (takenL s)[pl] := ⟨_, rfl⟩
                  obtain ⟨gw, rfl, c1, c2⟩ := hrow pl (by omega) hplt
                  rw [← hq] at c1 c2
                  clear hrow
                  by_cases hqy : q = y
                  · rw [hqy, ← HAD.out.1] at c1
                    rw [hqy, ← HAD.out.2] at c2
                    have hne := fun w => pair_neq Try.underlying67 Try.underlying3 (fun w => by kernel_rfl) (fun w => by kernel_rfl) ad (cl : Nat) ad (cl : Nat) true (by simp) w
                    rw [Bool.not_true] at hne
                    clear hq hqy
                    gi_wp2_with fail
                    have hfin : (W.setCell ⟨nb, 0, none⟩ (.int .i64 ((pl : Int) + 1))).heap[nb]? = some (.cells #[.int .i64 ((pre ++ [y]).length : Nat)] 3 (0, 0)) := by
                      rw [List.length_append, ← HPL.out]; exact setCell_heap HB.out.1
                    exact ⟨KeepsOthers.setCell _ _ _, (KC.refl (fun j => j = nb) W).setCell (a := ⟨nb, 0, none⟩) rfl _, hfin, HB.out.2.setCell (p := ⟨nb, 0, none⟩) (fun _ => rfl) _⟩
                  · have hnot : Hid (¬ (pre ++ [y]) <+: takenL s) := Lib.hid (fun h => by
                      apply hqy
                      rw [hq]
                      have h5 := List.IsPrefix.getElem h (i := pl) (by rw [List.length_append, ← HPL.out]; simp)
                      rw [← h5, List.getElem_append_right (by rw [HPL.out]; exact Nat.le_refl _)]
                      simp [HPL.out])
                    have hne := fun w => pair_neq Try.underlying67 Try.underlying3 (fun w => by kernel_rfl) (fun w => by kernel_rfl) (addr q.1) (q.1.1 : Nat) ad (cl : Nat) false (by rw [HAD.out.1, HAD.out.2]; exact enc_ne hqy) w
                    rw [Bool.not_false] at hne
                    clear hq hqy
                    gi_wp2_with fail
                    exact ⟨KeepsOthers.setCell _ _ _, ⟨rfl, hnot.out⟩⟩
            case stop1 =>
              rintro D c pre W hD hp ⟨-, h⟩ hK
              exact (h hp).elim
            case done1 =>
              rintro D ys W hD rfl ⟨h1, h2⟩ hK
              rw [← hlen.out, ← HN.out] at h1
              have cN : W.cell? ⟨nb, 0, none⟩ = some (.int .i64 (N : Nat)) := by simp [World.cell?, h1]
              have hW : ∀ j, j < w4.heap.size → ∀ o, w4.heap[j]? = some o → W.heap[j]? = some o := fun j hj o ho => h2.heap (show ¬ j = nb by omega) (K5.out.2.2.2.2.heap (fun x => x) ho)
              have cW : W.cell? ⟨WB, 0, none⟩ = some (.slice va N vcap) := by simp [World.cell?, hW WB (by omega) _ H4.out.2.1]
              have cR : W.cell? ⟨rb, 0, none⟩ = some (.int .i64 1) := by
                have := h2.heap (show ¬ rb = nb by omega) K5.out.2.2.2.1
                simp [World.cell?, this]
              have t5 : ((N : Int) != (N : Int)) = false := by simp
              have hD0W : W.heap[D0]? = some (.deferred (some [])) := h2.heap (show ¬ D0 = nb by omega) ((KB.trans (S := fun _ => False) (KB.refl _ _) K5.out.1).heap (fun x => x) HD0.out)
              have k4W : KB (fun _ => False) w4 W := K5.out.2.2.2.2.seq h2 (fun j h1 h2 => by omega)
              have hRW := hW (F + 1) (by omega) _ H4.out.2.2.2.1
              have hneD : D0 ≠ D := by have := K5.out.2.1; omega
              have HB := Lib.hid (And.intro hK (And.intro hD0W (And.intro (H4.out.2.2.2.2.trans k4W) hRW)))
              have hs9 := k4W.size
              have hDW := heap_lt hK
              clear h1 h2 hW hK hD0W k4W hRW
              gi_wp2_with fail
              rw [roundsIn_succ]
              obtain ⟨rb, hrb⟩ : ∃ rb, rb = W.heap.size := ⟨_, rfl⟩
              obtain ⟨wr, hwr⟩ : ∃ wr, wr = W.alloc (.cells #[.int .i64 2] 3) := ⟨_, rfl⟩
              have k6 : KB (fun _ => False) W wr := by subst hwr; exact (KB.refl _ _).alloc _
              have cR : wr.cell? ⟨rb, 0, none⟩ = some (.int .i64 2) := by subst hrb hwr; have := alloc_new W (.cells #[.int .i64 2] 3); simp only [World.cell?, this]; rfl
              rw [← hrb, ← hwr]
              have hRw := k6.heap (fun x => x) HB.out.2.2.2
              have cQ : wr.cell? ⟨F + 1, 0, none⟩ = some (.bool false) := by simp [World.cell?, hRw]
              have fQ : wr.frozen? ⟨F + 1, 0, none⟩ = false := by simp [World.frozen?, hRw]
              have HE := Lib.hid (And.intro (k6.heap (fun x => x) HB.out.1) (And.intro (k6.heap (fun x => x) HB.out.2.1) (HB.out.2.2.1.trans k6)))
              clear hrb hwr k6 hRw
              gi_wp2_with fail
              have hc := World.cell?_setCell_same' wr ⟨F + 1, 0, none⟩ (.bool true) (by rw [cQ]; rfl)
              have hFD : F + 1 < D0 ∧ F + 1 < D := by have := K5.out.2.1; omega
              have hd1 : (wr.setCell ⟨F + 1, 0, none⟩ (.bool true)).heap[D]? = some (.deferred (some [])) := (Below.heap_setCell wr ⟨F + 1, 0, none⟩ _ D (by show D ≠ F + 1; omega)).trans HE.out.1
              have hd0 : (wr.setCell ⟨F + 1, 0, none⟩ (.bool true)).heap[D0]? = some (.deferred (some [])) := (Below.heap_setCell wr ⟨F + 1, 0, none⟩ _ D0 (by show D0 ≠ F + 1; omega)).trans HE.out.2.1
              have k9 : KB (fun _ => False) w (wr.setCell ⟨F + 1, 0, none⟩ (.bool true)) := HE.out.2.2.setCell (p := ⟨F + 1, 0, none⟩) (fun hh => by have := HF.out; simp at hh; omega) _
              refine ⟨by simp, .inl ⟨_, _, rfl, run_takeDeferred hd1, ?_⟩⟩
              refine ⟨by simp, .inl ⟨_, _, rfl, run_takeDeferred ((World.putObj_heap_other hneD).trans hd0), ?_⟩⟩
              have hwF : w.heap.size ≤ F := Nat.le_of_eq HF.out.symm
              refine ⟨.bool true, results_cell rfl _ rfl ((World.cell?_of_block (World.putObj_heap_other (k := F + 1) (by omega))).trans ((World.cell?_of_block (World.putObj_heap_other (k := F + 1) (by omega))).trans hc)), rfl, ?_⟩
              exact (k9.putObjF D _ (by omega)).putObjF D0 _ (by omega)
          · have t5 : ((pl : Int) != (N : Int)) = true := by simp; omega
            clear hnN
            gi_wp2_with fail
            clear cN cW cF cR t5 t6
            obtain ⟨rb, hrb⟩ : ∃ rb, rb = W.heap.size := ⟨_, rfl⟩
            obtain ⟨wr, hwr⟩ : ∃ wr, wr = W.alloc (.cells #[.int .i64 1] 3) := ⟨_, rfl⟩
            have k4W : KB (fun _ => False) w4 W := K5.out.2.2.2.2.seq HB.out.2.1 (fun j h1 h2 => by omega)
            have hDW := heap_lt HB.out.2.2
            have hsz4 := k4W.size
            have KR : Hid (wr.heap[rb]? = some (.cells #[.int .i64 1] 3 (0, 0)) ∧ w4.heap.size ≤ rb ∧ KB (fun _ => False) w4 wr) := Lib.hid (by
              subst hrb hwr; exact ⟨alloc_new W _, hsz4, k4W.alloc _⟩)
            have HD0 : Hid (wr.heap[D]? = some (.deferred (some []))) := Lib.hid (by
              subst hwr; exact ((KB.refl (fun _ => False) W).alloc _).heap (fun x => x) HB.out.2.2)
            have hDrb : D < rb := by rw [hrb]; exact hDW
            have hwD : w4.heap.size ≤ D := by have := K5.out.2.1; omega
            obtain ⟨D0, hD0⟩ : ∃ D0, D0 = D := ⟨_, rfl⟩
            rw [← hrb, ← hwr]
            rw [← hD0] at HD0 hDrb hwD ⊢
            clear hrb hwr k4W hDW hsz4 hD0
            rw [roundsIn_succ]
            obtain ⟨nb, hnb⟩ : ∃ nb, nb = wr.heap.size := ⟨_, rfl⟩
            obtain ⟨w5, hw5⟩ : ∃ w5, w5 = wr.alloc (.cells #[.int .i64 0] 3) := ⟨_, rfl⟩
            have k5 : KB (fun _ => False) wr w5 := by subst hw5; exact (KB.refl _ _).alloc _
            have hs5 : w5.heap.size = nb + 1 := by subst hw5 hnb; simp
            have n5 : w5.heap[nb]? = some (.cells #[.int .i64 0] 3 (0, 0)) := by subst hw5 hnb; exact alloc_new wr _
            have hrb5 : rb < nb := by have := heap_lt KR.out.1; omega
            have h45 := KR.out.2.2.trans k5
            have hs4 := KR.out.2.2.size
            have hrb4 := KR.out.2.1
            have K5 := Lib.hid (And.intro k5 (And.intro hs5 (And.intro n5 (And.intro (k5.heap (fun x => x) KR.out.1) h45))))
            have HW5 := Lib.hid hw5
            have HNB := Lib.hid hnb
            have cR : wr.cell? ⟨rb, 0, none⟩ = some (.int .i64 1) := by have := KR.out.1; simp [World.cell?, this]
            clear hw5 hnb k5 hs5 n5 h45
            gi_wp2_with fail
            rw [← HNB.out, ← HW5.out]
            clear cR
            refine rangeFuncF (F := Fence.wide) rfl (by omega) (gf := 33) (lb := #[.pointer (some ⟨cb, 0, none⟩)]) rfl trivial (enters_of Try.func33 (by kernel_rfl) rfl)
              (each1_stops Fence.wide 19 (by omega) (fun _ => trivial) rfl lets_wide cb s w5 (fun j => j = nb) (by omega) (fun j hj => by have := K5.out.2.1; omega) (H4.out.1.kb K5.out.2.2.2.2 (fun x => x))) KC.trans
              (fun W l o o' _ h ho _ => KC.putObj W l o o' h ho) (Below.refl _ _) (fun _ => rfl)
              (fun pre W => W.heap[nb]? = some (.cells #[.int .i64 (pre.length : Nat)] 3 (0, 0)) ∧ KB (fun j => j = nb) w5 W)
              (fun c pre W => (c = .ret ∧ ¬ pre <+: takenL s)) ?own1 ?ownx1 ?start1 ?rounds1 ?done1 ?stop1
            case own1 =>
              rintro pre A B row ⟨h1, h2⟩ hg hr
              exact ⟨own_heap hg hr h1 rfl, h2.grown hg (fun k e hk => by have := (hr k e).1; omega)⟩
            case ownx1 =>
              rintro c pre A B row h hg hr
              exact h
            case start1 => exact ⟨K5.out.2.2.1, KB.refl _ _⟩
            case rounds1 =>
              apply Exists.intro
              refine ⟨?assign1, ?body1⟩
              case assign1 =>
                intro l y W K hK
                simp only [encs2]
                gi_wp2
                exact hK
              case body1 =>
                rintro l pre y W ⟨h1, h2⟩ _
                have hrow := rowAt hv4 K5.out.2.2.2.2 (K5.out.2.1) h2 (by omega)
                obtain ⟨ad, had⟩ : ∃ ad, ad = addr y.1 := ⟨_, rfl⟩
                obtain ⟨cl, hcl⟩ : ∃ cl, cl = y.1.1 := ⟨_, rfl⟩
                rw [← had, ← hcl]
                obtain ⟨pl, hpl⟩ : ∃ pl, pl = pre.length := ⟨_, rfl⟩
                have cN : W.cell? ⟨nb, 0, none⟩ = some (.int .i64 (pl : Nat)) := by rw [hpl]; simp [World.cell?, h1]
                have fN : W.frozen? ⟨nb, 0, none⟩ = false := by simp [World.frozen?, h1]
                have hW : ∀ j, j < w4.heap.size → ∀ o, w4.heap[j]? = some o → W.heap[j]? = some o := fun j hj o ho => h2.heap (show ¬ j = nb by omega) (K5.out.2.2.2.2.heap (fun x => x) ho)
                have cW : W.cell? ⟨WB, 0, none⟩ = some (.slice va N vcap) := by simp [World.cell?, hW WB (by omega) _ H4.out.2.1]
                have cF : W.cell? ⟨F, 0, none⟩ = some (.int .i64 few) := by simp [World.cell?, hW F (by omega) _ H4.out.2.2.1]
                have cQ : W.cell? ⟨F + 1, 0, none⟩ = some (.bool false) := by simp [World.cell?, hW (F + 1) (by omega) _ H4.out.2.2.2.1]
                have fQ : W.frozen? ⟨F + 1, 0, none⟩ = false := by simp [World.frozen?, hW (F + 1) (by omega) _ H4.out.2.2.2.1]
                have cR : W.cell? ⟨rb, 0, none⟩ = some (.int .i64 1) := by
                  have := h2.heap (show ¬ rb = nb by omega) K5.out.2.2.2.1
                  simp [World.cell?, this]
                have HB := Lib.hid (And.intro h1 h2)
                rw [← hpl] at HB
                have HPL := Lib.hid hpl
                have HAD := Lib.hid (And.intro had hcl)
                clear h1 h2 hW hpl had hcl
                by_cases hge : N ≤ pl
                · have hnot : Hid (¬ (pre ++ [y]) <+: takenL s) := Lib.hid (fun h => by
                    have := h.length_le
                    rw [List.length_append, ← HPL.out, ← hlen.out, ← HN.out] at this
                    simp at this; omega)
                  clear hrow
                  gi_wp2_with fail
                  exact ⟨KeepsOthers.setCell _ _ _, ⟨rfl, hnot.out⟩⟩
                · have hpl60 : (pl : Int) < 60 := by omega
                  have hplN : (pl : Int) < (N : Int) := by omega
                  have hplt : pl < (takenL s).length := by rw [← hlen.out, ← HN.out]; omega
                  obtain ⟨q, hq⟩ : ∃ q, q = (takenL s)[pl] := ⟨_, rfl⟩
                  obtain ⟨gw, rfl, c1, c2⟩ := hrow pl (by omega) hplt
                  rw [← hq] at c1 c2
                  clear hrow
                  by_cases hqy : q = y
                  · rw [hqy, ← HAD.out.1] at c1
                    rw [hqy, ← HAD.out.2] at c2
                    have hne := fun w => pair_neq Try.underlying67 Try.underlying3 (fun w => by kernel_rfl) (fun w => by kernel_rfl) ad (cl : Nat) ad (cl : Nat) true (by simp) w
                    rw [Bool.not_true] at hne
                    clear hq hqy
                    gi_wp2_with fail
                    have hfin : (W.setCell ⟨nb, 0, none⟩ (.int .i64 ((pl : Int) + 1))).heap[nb]? = some (.cells #[.int .i64 ((pre ++ [y]).length : Nat)] 3 (0, 0)) := by
                      rw [List.length_append, ← HPL.out]; exact setCell_heap HB.out.1
                    exact ⟨KeepsOthers.setCell _ _ _, (KC.refl (fun j => j = nb) W).setCell (a := ⟨nb, 0, none⟩) rfl _, hfin, HB.out.2.setCell (p := ⟨nb, 0, none⟩) (fun _ => rfl) _⟩
                  · have hnot : Hid (¬ (pre ++ [y]) <+: takenL s) := Lib.hid (fun h => by
                      apply hqy
                      rw [hq]
                      have h5 := List.IsPrefix.getElem h (i := pl) (by rw [List.length_append, ← HPL.out]; simp)
                      rw [← h5, List.getElem_append_right (by rw [HPL.out]; exact Nat.le_refl _)]
                      simp [HPL.out])
                    have hne := fun w => pair_neq Try.underlying67 Try.underlying3 (fun w => by kernel_rfl) (fun w => by kernel_rfl) (addr q.1) (q.1.1 : Nat) ad (cl : Nat) false (by rw [HAD.out.1, HAD.out.2]; exact enc_ne hqy) w
                    rw [Bool.not_false] at hne
                    clear hq hqy
                    gi_wp2_with fail
                    exact ⟨KeepsOthers.setCell _ _ _, ⟨rfl, hnot.out⟩⟩
            case stop1 =>
              rintro D c pre W hD hp ⟨-, h⟩ hK
              exact (h hp).elim
            case done1 =>
              rintro D ys W hD rfl ⟨h1, h2⟩ hK
              rw [← hlen.out, ← HN.out] at h1
              have cN : W.cell? ⟨nb, 0, none⟩ = some (.int .i64 (N : Nat)) := by simp [World.cell?, h1]
              have hW : ∀ j, j < w4.heap.size → ∀ o, w4.heap[j]? = some o → W.heap[j]? = some o := fun j hj o ho => h2.heap (show ¬ j = nb by omega) (K5.out.2.2.2.2.heap (fun x => x) ho)
              have cW : W.cell? ⟨WB, 0, none⟩ = some (.slice va N vcap) := by simp [World.cell?, hW WB (by omega) _ H4.out.2.1]
              have cR : W.cell? ⟨rb, 0, none⟩ = some (.int .i64 1) := by
                have := h2.heap (show ¬ rb = nb by omega) K5.out.2.2.2.1
                simp [World.cell?, this]
              have t5 : ((N : Int) != (N : Int)) = false := by simp
              have hD0W : W.heap[D0]? = some (.deferred (some [])) := h2.heap (show ¬ D0 = nb by omega) ((KB.trans (S := fun _ => False) (KB.refl _ _) K5.out.1).heap (fun x => x) HD0.out)
              have k4W : KB (fun _ => False) w4 W := K5.out.2.2.2.2.seq h2 (fun j h1 h2 => by omega)
              have hRW := hW (F + 1) (by omega) _ H4.out.2.2.2.1
              have hneD : D0 ≠ D := by have := K5.out.2.1; omega
              have HB := Lib.hid (And.intro hK (And.intro hD0W (And.intro (H4.out.2.2.2.2.trans k4W) hRW)))
              have hs9 := k4W.size
              have hDW := heap_lt hK
              clear h1 h2 hW hK hD0W k4W hRW
              gi_wp2_with fail
              rw [roundsIn_succ]
              obtain ⟨rb, hrb⟩ : ∃ rb, rb = W.heap.size := ⟨_, rfl⟩
              obtain ⟨wr, hwr⟩ : ∃ wr, wr = W.alloc (.cells #[.int .i64 2] 3) := ⟨_, rfl⟩
              have k6 : KB (fun _ => False) W wr := by subst hwr; exact (KB.refl _ _).alloc _
              have cR : wr.cell? ⟨rb, 0, none⟩ = some (.int .i64 2) := by subst hrb hwr; have := alloc_new W (.cells #[.int .i64 2] 3); simp only [World.cell?, this]; rfl
              rw [← hrb, ← hwr]
              have hRw := k6.heap (fun x => x) HB.out.2.2.2
              have cQ : wr.cell? ⟨F + 1, 0, none⟩ = some (.bool false) := by simp [World.cell?, hRw]
              have fQ : wr.frozen? ⟨F + 1, 0, none⟩ = false := by simp [World.frozen?, hRw]
              have HE := Lib.hid (And.intro (k6.heap (fun x => x) HB.out.1) (And.intro (k6.heap (fun x => x) HB.out.2.1) (HB.out.2.2.1.trans k6)))
              clear hrb hwr k6 hRw
              gi_wp2_with fail
              have hc := World.cell?_setCell_same' wr ⟨F + 1, 0, none⟩ (.bool true) (by rw [cQ]; rfl)
              have hFD : F + 1 < D0 ∧ F + 1 < D := by have := K5.out.2.1; omega
              have hd1 : (wr.setCell ⟨F + 1, 0, none⟩ (.bool true)).heap[D]? = some (.deferred (some [])) := (Below.heap_setCell wr ⟨F + 1, 0, none⟩ _ D (by show D ≠ F + 1; omega)).trans HE.out.1
              have hd0 : (wr.setCell ⟨F + 1, 0, none⟩ (.bool true)).heap[D0]? = some (.deferred (some [])) := (Below.heap_setCell wr ⟨F + 1, 0, none⟩ _ D0 (by show D0 ≠ F + 1; omega)).trans HE.out.2.1
              have k9 : KB (fun _ => False) w (wr.setCell ⟨F + 1, 0, none⟩ (.bool true)) := HE.out.2.2.setCell (p := ⟨F + 1, 0, none⟩) (fun hh => by have := HF.out; simp at hh; omega) _
              refine ⟨by simp, .inl ⟨_, _, rfl, run_takeDeferred hd1, ?_⟩⟩
              refine ⟨by simp, .inl ⟨_, _, rfl, run_takeDeferred ((World.putObj_heap_other hneD).trans hd0), ?_⟩⟩
              have hwF : w.heap.size ≤ F := Nat.le_of_eq HF.out.symm
              refine ⟨.bool true, results_cell rfl _ rfl ((World.cell?_of_block (World.putObj_heap_other (k := F + 1) (by omega))).trans ((World.cell?_of_block (World.putObj_heap_other (k := F + 1) (by omega))).trans hc)), rfl, ?_⟩
              exact (k9.putObjF D _ (by omega)).putObjF D0 _ (by omega)
      case done0 =>
        rintro D ys W hD rfl ⟨h1, h2⟩ hK
        rw [← hlen.out, ← HN.out] at h1
        have cN : W.cell? ⟨nb, 0, none⟩ = some (.int .i64 (N : Nat)) := by simp [World.cell?, h1]
        have hW : ∀ j, j < w4.heap.size → ∀ o, w4.heap[j]? = some o → W.heap[j]? = some o := fun j hj o ho => h2.heap (show ¬ j = nb by omega) (K5.out.2.2.2.2.heap (fun x => x) ho)
        have cW : W.cell? ⟨WB, 0, none⟩ = some (.slice va N vcap) := by simp [World.cell?, hW WB (by omega) _ H4.out.2.1]
        have cR : W.cell? ⟨rb, 0, none⟩ = some (.int .i64 0) := by
          have := h2.heap (show ¬ rb = nb by omega) K5.out.2.2.2.1
          simp [World.cell?, this]
        have t5 : ((N : Int) != (N : Int)) = false := by simp
        have HB := Lib.hid (And.intro h1 (And.intro h2 hK))
        clear h1 h2 hW hK
        gi_wp2_with fail
        clear cN cW cR t5
        obtain ⟨rb, hrb⟩ : ∃ rb, rb = W.heap.size := ⟨_, rfl⟩
        obtain ⟨wr, hwr⟩ : ∃ wr, wr = W.alloc (.cells #[.int .i64 1] 3) := ⟨_, rfl⟩
        have k4W : KB (fun _ => False) w4 W := K5.out.2.2.2.2.seq HB.out.2.1 (fun j h1 h2 => by omega)
        have hDW := heap_lt HB.out.2.2
        have hsz4 := k4W.size
        have KR : Hid (wr.heap[rb]? = some (.cells #[.int .i64 1] 3 (0, 0)) ∧ w4.heap.size ≤ rb ∧ KB (fun _ => False) w4 wr) := Lib.hid (by
          subst hrb hwr; exact ⟨alloc_new W _, hsz4, k4W.alloc _⟩)
        have HD0 : Hid (wr.heap[D]? = some (.deferred (some []))) := Lib.hid (by
          subst hwr; exact ((KB.refl (fun _ => False) W).alloc _).heap (fun x => x) HB.out.2.2)
        have hDrb : D < rb := by rw [hrb]; exact hDW
        have hwD : w4.heap.size ≤ D := by have := K5.out.2.1; omega
        obtain ⟨D0, hD0⟩ : ∃ D0, D0 = D := ⟨_, rfl⟩
        rw [← hrb, ← hwr]
        rw [← hD0] at HD0 hDrb hwD ⊢
        clear hrb hwr k4W hDW hsz4 hD0
        rw [roundsIn_succ]
        obtain ⟨nb, hnb⟩ : ∃ nb, nb = wr.heap.size := ⟨_, rfl⟩
        obtain ⟨w5, hw5⟩ : ∃ w5, w5 = wr.alloc (.cells #[.int .i64 0] 3) := ⟨_, rfl⟩
        have k5 : KB (fun _ => False) wr w5 := by subst hw5; exact (KB.refl _ _).alloc _
        have hs5 : w5.heap.size = nb + 1 := by subst hw5 hnb; simp
        have n5 : w5.heap[nb]? = some (.cells #[.int .i64 0] 3 (0, 0)) := by subst hw5 hnb; exact alloc_new wr _
        have hrb5 : rb < nb := by have := heap_lt KR.out.1; omega
        have h45 := KR.out.2.2.trans k5
        have hs4 := KR.out.2.2.size
        have hrb4 := KR.out.2.1
        have K5 := Lib.hid (And.intro k5 (And.intro hs5 (And.intro n5 (And.intro (k5.heap (fun x => x) KR.out.1) h45))))
        have HW5 := Lib.hid hw5
        have HNB := Lib.hid hnb
        have cR : wr.cell? ⟨rb, 0, none⟩ = some (.int .i64 1) := by have := KR.out.1; simp [World.cell?, this]
        clear hw5 hnb k5 hs5 n5 h45
        gi_wp2_with fail
        rw [← HNB.out, ← HW5.out]
        clear cR
        refine rangeFuncF (F := Fence.wide) rfl (by omega) (gf := 33) (lb := #[.pointer (some ⟨cb, 0, none⟩)]) rfl trivial (enters_of Try.func33 (by kernel_rfl) rfl)
          (each1_stops Fence.wide 19 (by omega) (fun _ => trivial) rfl lets_wide cb s w5 (fun j => j = nb) (by omega) (fun j hj => by have := K5.out.2.1; omega) (H4.out.1.kb K5.out.2.2.2.2 (fun x => x))) KC.trans
          (fun W l o o' _ h ho _ => KC.putObj W l o o' h ho) (Below.refl _ _) (fun _ => rfl)
          (fun pre W => W.heap[nb]? = some (.cells #[.int .i64 (pre.length : Nat)] 3 (0, 0)) ∧ KB (fun j => j = nb) w5 W)
          (fun c pre W => (c = .ret ∧ ¬ pre <+: takenL s)) ?own1 ?ownx1 ?start1 ?rounds1 ?done1 ?stop1
        case own1 =>
          rintro pre A B row ⟨h1, h2⟩ hg hr
          exact ⟨own_heap hg hr h1 rfl, h2.grown hg (fun k e hk => by have := (hr k e).1; omega)⟩
        case ownx1 =>
          rintro c pre A B row h hg hr
          exact h
        case start1 => exact ⟨K5.out.2.2.1, KB.refl _ _⟩
        case rounds1 =>
          apply Exists.intro
          refine ⟨?assign1, ?body1⟩
          case assign1 =>
            intro l y W K hK
            simp only [encs2]
            gi_wp2
            exact hK
          case body1 =>
            rintro l pre y W ⟨h1, h2⟩ _
            have hrow := rowAt hv4 K5.out.2.2.2.2 (K5.out.2.1) h2 (by omega)
            obtain ⟨ad, had⟩ : ∃ ad, ad = addr y.1 := ⟨_, rfl⟩
            obtain ⟨cl, hcl⟩ : ∃ cl, cl = y.1.1 := ⟨_, rfl⟩
            rw [← had, ← hcl]
            obtain ⟨pl, hpl⟩ : ∃ pl, pl = pre.length := ⟨_, rfl⟩
            have cN : W.cell? ⟨nb, 0, none⟩ = some (.int .i64 (pl : Nat)) := by rw [hpl]; simp [World.cell?, h1]
            have fN : W.frozen? ⟨nb, 0, none⟩ = false := by simp [World.frozen?, h1]
            have hW : ∀ j, j < w4.heap.size → ∀ o, w4.heap[j]? = some o → W.heap[j]? = some o := fun j hj o ho => h2.heap (show ¬ j = nb by omega) (K5.out.2.2.2.2.heap (fun x => x) ho)
            have cW : W.cell? ⟨WB, 0, none⟩ = some (.slice va N vcap) := by simp [World.cell?, hW WB (by omega) _ H4.out.2.1]
            have cF : W.cell? ⟨F, 0, none⟩ = some (.int .i64 few) := by simp [World.cell?, hW F (by omega) _ H4.out.2.2.1]
            have cQ : W.cell? ⟨F + 1, 0, none⟩ = some (.bool false) := by simp [World.cell?, hW (F + 1) (by omega) _ H4.out.2.2.2.1]
            have fQ : W.frozen? ⟨F + 1, 0, none⟩ = false := by simp [World.frozen?, hW (F + 1) (by omega) _ H4.out.2.2.2.1]
            have cR : W.cell? ⟨rb, 0, none⟩ = some (.int .i64 1) := by
              have := h2.heap (show ¬ rb = nb by omega) K5.out.2.2.2.1
              simp [World.cell?, this]
            have HB := Lib.hid (And.intro h1 h2)
            rw [← hpl] at HB
            have HPL := Lib.hid hpl
            have HAD := Lib.hid (And.intro had hcl)
            clear h1 h2 hW hpl had hcl
            by_cases hge : N ≤ pl
            · have hnot : Hid (¬ (pre ++ [y]) <+: takenL s) := Lib.hid (fun h => by
                have := h.length_le
                rw [List.length_append, ← HPL.out, ← hlen.out, ← HN.out] at this
                simp at this; omega)
              clear hrow
              gi_wp2_with fail
              exact ⟨KeepsOthers.setCell _ _ _, ⟨rfl, hnot.out⟩⟩
            · have hpl60 : (pl : Int) < 60 := by omega
              have hplN : (pl : Int) < (N : Int) := by omega
              have hplt : pl < (takenL s).length := by rw [← hlen.out, ← HN.out]; omega
              obtain ⟨q, hq⟩ : ∃ q, q = (takenL s)[pl] := ⟨_, rfl⟩
              obtain ⟨gw, rfl, c1, c2⟩ := hrow pl (by omega) hplt
              rw [← hq] at c1 c2
              clear hrow
              by_cases hqy : q = y
              · rw [hqy, ← HAD.out.1] at c1
                rw [hqy, ← HAD.out.2] at c2
                have hne := fun w => pair_neq Try.underlying67 Try.underlying3 (fun w => by kernel_rfl) (fun w => by kernel_rfl) ad (cl : Nat) ad (cl : Nat) true (by simp) w
                rw [Bool.not_true] at hne
                clear hq hqy
                gi_wp2_with fail
                have hfin : (W.setCell ⟨nb, 0, none⟩ (.int .i64 ((pl : Int) + 1))).heap[nb]? = some (.cells #[.int .i64 ((pre ++ [y]).length : Nat)] 3 (0, 0)) := by
                  rw [List.length_append, ← HPL.out]; exact setCell_heap HB.out.1
                exact ⟨KeepsOthers.setCell _ _ _, (KC.refl (fun j => j = nb) W).setCell (a := ⟨nb, 0, none⟩) rfl _, hfin, HB.out.2.setCell (p := ⟨nb, 0, none⟩) (fun _ => rfl) _⟩
              · have hnot : Hid (¬ (pre ++ [y]) <+: takenL s) := Lib.hid (fun h => by
                  apply hqy
                  rw [hq]
                  have h5 := List.IsPrefix.getElem h (i := pl) (by rw [List.length_append, ← HPL.out]; simp)
                  rw [← h5, List.getElem_append_right (by rw [HPL.out]; exact Nat.le_refl _)]
                  simp [HPL.out])
                have hne := fun w => pair_neq Try.underlying67 Try.underlying3 (fun w => by kernel_rfl) (fun w => by kernel_rfl) (addr q.1) (q.1.1 : Nat) ad (cl : Nat) false (by rw [HAD.out.1, HAD.out.2]; exact enc_ne hqy) w
                rw [Bool.not_false] at hne
                clear hq hqy
                gi_wp2_with fail
                exact ⟨KeepsOthers.setCell _ _ _, ⟨rfl, hnot.out⟩⟩
        case stop1 =>
          rintro D c pre W hD hp ⟨-, h⟩ hK
          exact (h hp).elim
        case done1 =>
          rintro D ys W hD rfl ⟨h1, h2⟩ hK
          rw [← hlen.out, ← HN.out] at h1
          have cN : W.cell? ⟨nb, 0, none⟩ = some (.int .i64 (N : Nat)) := by simp [World.cell?, h1]
          have hW : ∀ j, j < w4.heap.size → ∀ o, w4.heap[j]? = some o → W.heap[j]? = some o := fun j hj o ho => h2.heap (show ¬ j = nb by omega) (K5.out.2.2.2.2.heap (fun x => x) ho)
          have cW : W.cell? ⟨WB, 0, none⟩ = some (.slice va N vcap) := by simp [World.cell?, hW WB (by omega) _ H4.out.2.1]
          have cR : W.cell? ⟨rb, 0, none⟩ = some (.int .i64 1) := by
            have := h2.heap (show ¬ rb = nb by omega) K5.out.2.2.2.1
            simp [World.cell?, this]
          have t5 : ((N : Int) != (N : Int)) = false := by simp
          have hD0W : W.heap[D0]? = some (.deferred (some [])) := h2.heap (show ¬ D0 = nb by omega) ((KB.trans (S := fun _ => False) (KB.refl _ _) K5.out.1).heap (fun x => x) HD0.out)
          have k4W : KB (fun _ => False) w4 W := K5.out.2.2.2.2.seq h2 (fun j h1 h2 => by omega)
          have hRW := hW (F + 1) (by omega) _ H4.out.2.2.2.1
          have hneD : D0 ≠ D := by have := K5.out.2.1; omega
          have HB := Lib.hid (And.intro hK (And.intro hD0W (And.intro (H4.out.2.2.2.2.trans k4W) hRW)))
          have hs9 := k4W.size
          have hDW := heap_lt hK
          clear h1 h2 hW hK hD0W k4W hRW
          gi_wp2_with fail
          rw [roundsIn_succ]
          obtain ⟨rb, hrb⟩ : ∃ rb, rb = W.heap.size := ⟨_, rfl⟩
          obtain ⟨wr, hwr⟩ : ∃ wr, wr = W.alloc (.cells #[.int .i64 2] 3) := ⟨_, rfl⟩
          have k6 : KB (fun _ => False) W wr := by subst hwr; exact (KB.refl _ _).alloc _
          have cR : wr.cell? ⟨rb, 0, none⟩ = some (.int .i64 2) := by subst hrb hwr; have := alloc_new W (.cells #[.int .i64 2] 3); simp only [World.cell?, this]; rfl
          rw [← hrb, ← hwr]
          have hRw := k6.heap (fun x => x) HB.out.2.2.2
          have cQ : wr.cell? ⟨F + 1, 0, none⟩ = some (.bool false) := by simp [World.cell?, hRw]
          have fQ : wr.frozen? ⟨F + 1, 0, none⟩ = false := by simp [World.frozen?, hRw]
          have HE := Lib.hid (And.intro (k6.heap (fun x => x) HB.out.1) (And.intro (k6.heap (fun x => x) HB.out.2.1) (HB.out.2.2.1.trans k6)))
          clear hrb hwr k6 hRw
          gi_wp2_with fail
          have hc := World.cell?_setCell_same' wr ⟨F + 1, 0, none⟩ (.bool true) (by rw [cQ]; rfl)
          have hFD : F + 1 < D0 ∧ F + 1 < D := by have := K5.out.2.1; omega
          have hd1 : (wr.setCell ⟨F + 1, 0, none⟩ (.bool true)).heap[D]? = some (.deferred (some [])) := (Below.heap_setCell wr ⟨F + 1, 0, none⟩ _ D (by show D ≠ F + 1; omega)).trans HE.out.1
          have hd0 : (wr.setCell ⟨F + 1, 0, none⟩ (.bool true)).heap[D0]? = some (.deferred (some [])) := (Below.heap_setCell wr ⟨F + 1, 0, none⟩ _ D0 (by show D0 ≠ F + 1; omega)).trans HE.out.2.1
          have k9 : KB (fun _ => False) w (wr.setCell ⟨F + 1, 0, none⟩ (.bool true)) := HE.out.2.2.setCell (p := ⟨F + 1, 0, none⟩) (fun hh => by have := HF.out; simp at hh; omega) _
          refine ⟨by simp, .inl ⟨_, _, rfl, run_takeDeferred hd1, ?_⟩⟩
          refine ⟨by simp, .inl ⟨_, _, rfl, run_takeDeferred ((World.putObj_heap_other hneD).trans hd0), ?_⟩⟩
          have hwF : w.heap.size ≤ F := Nat.le_of_eq HF.out.symm
          refine ⟨.bool true, results_cell rfl _ rfl ((World.cell?_of_block (World.putObj_heap_other (k := F + 1) (by omega))).trans ((World.cell?_of_block (World.putObj_heap_other (k := F + 1) (by omega))).trans hc)), rfl, ?_⟩
          exact (k9.putObjF D _ (by omega)).putObjF D0 _ (by omega)
end Go.Proofs.Ytnfoabccbkedgaa
