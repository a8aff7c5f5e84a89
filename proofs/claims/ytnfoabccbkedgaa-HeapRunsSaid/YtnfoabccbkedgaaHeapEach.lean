/- The iterator that Heap.Each answers: it gives the blocks that are taken, by class and number. -/
import Derived.RangeFuncNested
import Derived.RangeFuncBound
import Derived.RangeFuncCalls
import Derived.RangeFuncLeaves
import Derived.Shelf.Abstract
import Derived.Shelf.RegionOpen
import Derived.WalkKit
import Derived.OwnWalkIn
import Derived.TacticsInMore
import Derived.LoopNIn
import Derived.LoopIn
import Derived.Test.YtnfoabccbkedgaaHeapK
import Derived.Test.YtnfoabccbkedgaaRegionIn
namespace Go.Proofs.Ytnfoabccbkedgaa
open Go.RowKit Go.Shelf
attribute [local go_sem] Oper.semAt_some

/-- What a round keeps: cells outside of S. -/
structure KC (S : Nat → Prop) (W W' : World) : Prop where
  size : W.heap.size ≤ W'.heap.size
  same : ∀ k o, W.heap[k]? = some o → o.isCells = true → ¬ S k → W'.heap[k]? = some o
theorem KC.trans {S : Nat → Prop} {a b c : World} (h : KC S a b) (k : KC S b c) : KC S a c :=
  ⟨Nat.le_trans h.size k.size, fun i o hi ho hs => k.same i o (h.same i o hi ho hs) ho hs⟩
theorem KC.of_kb {S : Nat → Prop} {W W' : World} (h : KB S W W') : KC S W W' := ⟨h.size, fun _ _ hk _ hs => h.heap hs hk⟩
theorem KC.putObj {S : Nat → Prop} (W : World) (l : Nat) (o o' : Obj) (h : W.heap[l]? = some o) (ho : o.isCells = false) : KC S W (W.putObj l o') := by
  refine ⟨by simp, fun k x hk hx _ => ?_⟩
  have hne : k ≠ l := by rintro rfl; rw [h] at hk; cases hk; rw [ho] at hx; cases hx
  rw [World.putObj_heap_other hne]; exact hk
theorem abides {α : Type} {J : List α → World → Prop} {B : Nat} (hJ : AbidesFrom B J) {pre : List α} {W W' : World} (h : J pre W) (hk : KB (fun _ => False) W W') : J pre W' :=
  hJ pre W W' none h ⟨hk.os, hk.tape, hk.output, hk.size, fun k hk' _ => hk.block k hk' (fun x => x)⟩ (fun r e => by cases e)

/-- A block: its class and number. -/
abbrev Blk := {p : Nat × Nat // p.1 < 5 ∧ p.2 < 12}
def blk (c m : Nat) : Blk := if h : c < 5 ∧ m < 12 then ⟨(c, m), h⟩ else ⟨(0, 0), by decide⟩
theorem blk_val {c m : Nat} (hc : c < 5) (hm : m < 12) : (blk c m).1 = (c, m) := by unfold blk; rw [dif_pos ⟨hc, hm⟩]
/-- The blocks of one class that are taken, of the first n; of all classes below c. -/
def part (s : HS) (c n : Nat) : List Blk := ((List.range n).filter (fun i => s.T c i)).map fun i => blk c i
def below (s : HS) (c : Nat) : List Blk := (List.range c).flatMap fun k => part s k 12
theorem part_succ (s : HS) (c n : Nat) : part s c (n + 1) = part s c n ++ (if s.T c n = true then [blk c n] else []) := by
  unfold part; rw [List.range_succ, List.filter_append, List.map_append]
  congr 1
  by_cases h : s.T c n = true <;> simp [h]
theorem below_succ (s : HS) (c : Nat) : below s (c + 1) = below s c ++ part s c 12 := by
  unfold below; rw [List.range_succ, List.flatMap_append]; simp
def takenL (s : HS) : List Blk := below s 5
theorem part_len (s : HS) (c n : Nat) : (part s c n).length ≤ n := by unfold part; rw [List.length_map]; exact Nat.le_trans (List.length_filter_le _ _) (by simp)
theorem below_len (s : HS) : ∀ c, (below s c).length ≤ 12 * c
  | 0 => by simp [below]
  | c + 1 => by rw [below_succ, List.length_append]; have := below_len s c; have := part_len s c 12; omega
theorem part_prefix (s : HS) (c : Nat) : ∀ n m, n ≤ m → part s c n <+: part s c m
  | n, 0, h => by obtain rfl : n = 0 := by omega
                  exact List.prefix_refl _
  | n, m + 1, h => by
    by_cases e : n = m + 1
    · subst e; exact List.prefix_refl _
    · exact (part_prefix s c n m (by omega)).trans (by rw [part_succ]; exact List.prefix_append _ _)
theorem below_prefix (s : HS) (c : Nat) : ∀ m, c ≤ m → below s c <+: below s m
  | 0, h => by obtain rfl : c = 0 := by omega
               exact List.prefix_refl _
  | m + 1, h => by
    by_cases e : c = m + 1
    · subst e; exact List.prefix_refl _
    · exact (below_prefix s c m (by omega)).trans (by rw [below_succ]; exact List.prefix_append _ _)
theorem part_prefix_all (s : HS) (c n : Nat) (hc : c < 5) (hn : n ≤ 12) : below s c ++ part s c n <+: takenL s := by
  have h1 : below s c ++ part s c n <+: below s (c + 1) := by rw [below_succ]; exact (List.prefix_append_right_inj _).2 (part_prefix s c n 12 hn)
  exact h1.trans (below_prefix s (c + 1) 5 (by omega))

def encs2 (p : Blk) : Array Value := #[.int .i64 (addr p.1), .int .i64 (p.1.1 : Nat)]
theorem encs2_blk {c m : Nat} (hc : c < 5) (hm : m < 12) : encs2 (blk c m) = #[.int .i64 (addr (c, m)), .int .i64 (c : Nat)] := by unfold encs2; rw [blk_val hc hm]

set_option maxRecDepth 100000 in
set_option maxHeartbeats 4000000 in
theorem each1_stops (F : Fence) (n : Nat) (hn : 3 ≤ n) (hF : ∀ f, F.fn f) (hro : F.round = none) (hlet : Lets F Try.prog (n - 1)) (cb : Nat) (s : HS) (w : World) (S : Nat → Prop) (hS : ¬ S cb) (hSb : ∀ k, S k → k < w.heap.size) (hI : IH w cb s) :
    SeqStopsK F n Try.prog 33 #[.pointer (some ⟨cb, 0, none⟩)] encs2 (KC S) (fun xs => xs = takenL s) (fun pre => pre <+: takenL s) 60 w := fun l J Jx W hW hJ hJx hY h0 => by
  have hIW : IH W cb s := ⟨by rw [hW.block cb (heap_lt hI.1)]; exact hI.1, hI.2⟩
  have t0 := cellT hIW (c := 0) (by omega)
  have t1 := cellT hIW (c := 1) (by omega)
  have t2 := cellT hIW (c := 2) (by omega)
  have t3 := cellT hIW (c := 3) (by omega)
  have t4 := cellT hIW (c := 4) (by omega)
  have m0 := cellM hIW (c := 0) (by omega)
  have m1 := cellM hIW (c := 1) (by omega)
  have m2 := cellM hIW (c := 2) (by omega)
  have m3 := cellM hIW (c := 3) (by omega)
  have m4 := cellM hIW (c := 4) (by omega)
  simp only [Nat.reduceMul, Nat.reduceAdd] at t0 t1 t2 t3 t4 m0 m1 m2 m3 m4
  have HJ := Lib.hid hJ
  have HY := Lib.hid hY
  have H0 := Lib.hid h0
  have HSb := Lib.hid hSb
  have hWs := hW.size
  clear hJ hY h0 hSb hI hIW hJx hW
  refine callsIn_of_wp Try.func33 rfl (hF _) ?_ hro
  simp only [Try.ntmps33, List.size_toArray, List.length_cons, List.length_nil, Nat.reduceAdd, Nat.reduceSub, Array.replicate_succ, Array.replicate_zero, List.push_toArray, List.append_toArray, List.nil_append, List.cons_append]
  gi_wp2
  have ix := arr_at (.int .u16 (mk (s.T 0))) (.int .i64 (s.M 0)) (.int .u16 (mk (s.T 1))) (.int .i64 (s.M 1)) (.int .u16 (mk (s.T 2))) (.int .i64 (s.M 2)) (.int .u16 (mk (s.T 3))) (.int .i64 (s.M 3)) (.int .u16 (mk (s.T 4))) (.int .i64 (s.M 4))
  have j0 := fun w => (ix w).1
  have j1 := fun w => (ix w).2.1
  have j2 := fun w => (ix w).2.2.1
  have j3 := fun w => (ix w).2.2.2.1
  have j4 := fun w => (ix w).2.2.2.2
  clear ix t0 t1 t2 t3 t4 m0 m1 m2 m3 m4
  gi_loopw [8] (fun c wr => ∃ k : Nat, k ≤ 5 ∧ c = .int .i64 k ∧ J (below s k) wr ∧ W.heap.size ≤ wr.heap.size) (fun c _ => 5 - (intOf c).toNat)
  case atStart => exact ⟨0, by omega, rfl, H0.out, Nat.le_refl _⟩
  case round =>
    obtain ⟨k, hk, rfl, hJk, hsz⟩ := hrel
    obtain ⟨wo, rfl⟩ : ∃ wo : World, wo = wr := ⟨_, rfl⟩
    by_cases hlt : k < 5
    · have HJk := Lib.hid hJk
      clear hJk
      obtain ⟨f, hf⟩ : ∃ f, f = s.T k := ⟨_, rfl⟩
      obtain ⟨mm, hmm⟩ : ∃ mm, mm = s.M k := ⟨_, rfl⟩
      obtain ⟨pre, hpre⟩ : ∃ pre : Nat → List Blk, pre = fun m => below s k ++ part s k m := ⟨_, rfl⟩
      have HF : Hid (f = s.T k ∧ mm = s.M k) := Lib.hid ⟨hf, hmm⟩
      have P0 : Hid (pre 0 = below s k ∧ pre 12 = below s (k + 1)) := Lib.hid (by subst hpre; exact ⟨by simp [part], (below_succ s k).symm⟩)
      have P1 : Hid (∀ m, (f m = true → pre (m + 1) = pre m ++ [blk k m]) ∧ (f m = false → pre (m + 1) = pre m)) := Lib.hid (by
        subst hpre; intro m; constructor
        · intro h; simp only [part_succ, ← hf, h, if_true, List.append_assoc]
        · intro h; simp [part_succ, ← hf, h])
      have P2 : Hid (∀ m, m ≤ 12 → pre m <+: takenL s) := Lib.hid (by subst hpre; exact fun m hm => part_prefix_all s k m hlt hm)
      have P3 : Hid (∀ m, m < 12 → (pre m).length < 60) := Lib.hid (by subst hpre; intro m hm; simp only [List.length_append]; have := below_len s k; have := part_len s k m; omega)
      have hB := fun w => base_any k (by omega) w
      obtain ⟨B, hBe⟩ : ∃ B, B = hb k := ⟨_, rfl⟩
      have HBe := Lib.hid hBe
      rw [← hBe] at hB
      have HB := Lib.hid hB
      obtain ⟨adr, hadr⟩ : ∃ adr : Nat → Int, adr = fun m => addr (k, m) := ⟨_, rfl⟩
      have hYk : ∀ m W1, J (pre m) W1 → m < 12 → YieldAt F (n - 1) Try.prog l #[.int .i64 (adr m), .int .i64 (k : Nat)] W1 fun e W' =>
          e = .returned (.bool true) ∧ J (pre m ++ [blk k m]) W' ∧ KC S W1 W' ∨ e = .returned (.bool false) ∧ Jx (pre m ++ [blk k m]) W' := by
        intro m W1 h1 h2
        have := HY.out (pre m) (blk k m) W1 h1 (P3.out m h2)
        rw [encs2_blk hlt h2] at this
        rw [hadr]; exact this
      have HYk := Lib.hid hYk
      have hsum : ∀ m : Nat, m < 12 → IntKind.i64.wrap ((m : Int) * 2 ^ k) = (m : Int) * 2 ^ k ∧ IntKind.i64.wrap ((B : Int) + (m : Int) * 2 ^ k) = adr m := by
        intro m hm
        have hBle : B ≤ 181 := by
          rw [hBe]; obtain rfl | rfl | rfl | rfl | rfl : k = 0 ∨ k = 1 ∨ k = 2 ∨ k = 3 ∨ k = 4 := by omega
          all_goals decide
        have hle : (m : Int) * 2 ^ k ≤ 12 * 16 ∧ 0 ≤ (m : Int) * 2 ^ k := by
          obtain rfl | rfl | rfl | rfl | rfl : k = 0 ∨ k = 1 ∨ k = 2 ∨ k = 3 ∨ k = 4 := by omega
          all_goals (simp only [Int.reducePow]; omega)
        refine ⟨w64 (by omega) (by omega), ?_⟩
        rw [w64 (by omega) (by omega), hadr, hBe]
        simp only [addr]; push_cast; rfl
      have Hsum := Lib.hid hsum
      clear hf hmm hpre hB hBe hadr hYk hsum
      obtain rfl | rfl | rfl | rfl | rfl : k = 0 ∨ k = 1 ∨ k = 2 ∨ k = 3 ∨ k = 4 := by omega
      all_goals
        push_cast
        gi_wp2
        gi_loopw [12] (fun i wr' => ∃ m : Nat, m ≤ 12 ∧ i = .int .i64 m ∧ J (pre m) wr' ∧ wr'.heap[wo.heap.size]? = some (.cells #[.int .u16 (mk f), .int .i64 mm] 58 (0, 0)) ∧ W.heap.size ≤ wr'.heap.size) (fun i _ => 12 - (intOf i).toNat)
        case atStart =>
          exact ⟨0, by omega, rfl, by rw [P0.out.1]; exact abides HJ.out HJk.out ((KB.refl _ _).alloc _), by rw [HF.out.1, HF.out.2]; exact alloc_new wo _, by simp; omega⟩
        case round =>
          obtain ⟨m, hm, rfl, hJm, hbox, hsz'⟩ := hrel
          have HJm := Lib.hid hJm
          have cA : wr.cell? ⟨wo.heap.size, 0, none⟩ = some (.int .u16 (mk f)) := by simp [World.cell?, hbox]
          have Hbox := Lib.hid hbox
          clear hJm hbox
          by_cases hm12 : m < 12
          · have hbit := mk_bit f m hm12
            have hlt2 := mk_lt f
            cases hfm : f m
            · have ht : (bits BinOp.and IntKind.u16 (mk f / 2 ^ m) 1 == 1) = false := by rw [hbit, hfm]; rfl
              have Hp := Lib.hid ((P1.out m).2 hfm)
              clear hbit hfm
              gi_wp2
              refine wpIn_region_rv 18 GQ (kindV []) hlet (by kernel_rfl) (by kernel_rfl) (by kernel_rfl) GQ.trans GQ.refl (GQ.start _) (kindV_mono _) ?_
              simp only [List.take_succ_cons, List.take_zero, List.drop_succ_cons, List.drop_zero]
              refine rv_det (by kernel_rfl) rfl (by intro w hG hH; obtain ⟨n, rfl⟩ := hG; go_simp; first | done | with_reducible rfl) ?_
              simp only [Act.put, List.setIfInBounds_toArray, List.set_cons_zero, List.set_cons_succ]
              refine rv_det (by kernel_rfl) rfl (by intro w hG hH; obtain ⟨n, rfl⟩ := hG; go_simp; first | done | with_reducible rfl) ?_
              simp only [Act.put, List.setIfInBounds_toArray, List.set_cons_zero, List.set_cons_succ]
              refine rv_det (by kernel_rfl) rfl (by intro w hG hH; obtain ⟨n, rfl⟩ := hG; go_simp; first | done | with_reducible rfl) ?_
              simp only [Act.put, List.setIfInBounds_toArray, List.set_cons_zero, List.set_cons_succ]
              refine rv_det (by kernel_rfl) rfl (by intro w hG hH; obtain ⟨n, rfl⟩ := hG; go_simp; first | done | with_reducible rfl) ?_
              simp only [Act.put, List.setIfInBounds_toArray, List.set_cons_zero, List.set_cons_succ]
              refine rv_det (by kernel_rfl) rfl (by intro w hG hH; obtain ⟨n, rfl⟩ := hG; go_simp; first | done | with_reducible rfl) ?_
              simp only [Act.put, List.setIfInBounds_toArray, List.set_cons_zero, List.set_cons_succ]
              refine rv_det (by kernel_rfl) rfl (by intro w hG hH; obtain ⟨n, rfl⟩ := hG; go_simp; first | done | with_reducible rfl) ?_
              simp only [Act.put, List.setIfInBounds_toArray, List.set_cons_zero, List.set_cons_succ]
              refine rv_det (by kernel_rfl) rfl (by intro w hG hH; obtain ⟨n, rfl⟩ := hG; go_simp; first | done | with_reducible rfl) ?_
              simp only [Act.put, List.setIfInBounds_toArray, List.set_cons_zero, List.set_cons_succ]
              refine rv_skip (by kernel_rfl) ?_
              simp only [Act.put, List.setIfInBounds_toArray, List.set_cons_zero, List.set_cons_succ]
              refine rv_skip (by kernel_rfl) ?_
              simp only [Act.put, List.setIfInBounds_toArray, List.set_cons_zero, List.set_cons_succ]
              refine rv_skip (by kernel_rfl) ?_
              simp only [Act.put, List.setIfInBounds_toArray, List.set_cons_zero, List.set_cons_succ]
              refine rv_skip (by kernel_rfl) ?_
              simp only [Act.put, List.setIfInBounds_toArray, List.set_cons_zero, List.set_cons_succ]
              refine rv_skip (by kernel_rfl) ?_
              simp only [Act.put, List.setIfInBounds_toArray, List.set_cons_zero, List.set_cons_succ]
              refine rv_skip (by kernel_rfl) ?_
              simp only [Act.put, List.setIfInBounds_toArray, List.set_cons_zero, List.set_cons_succ]
              refine rv_skip (by kernel_rfl) ?_
              simp only [Act.put, List.setIfInBounds_toArray, List.set_cons_zero, List.set_cons_succ]
              refine rv_skip (by kernel_rfl) ?_
              simp only [Act.put, List.setIfInBounds_toArray, List.set_cons_zero, List.set_cons_succ]
              refine rv_skip (by kernel_rfl) ?_
              simp only [Act.put, List.setIfInBounds_toArray, List.set_cons_zero, List.set_cons_succ]
              refine rv_skip (by kernel_rfl) ?_
              simp only [Act.put, List.setIfInBounds_toArray, List.set_cons_zero, List.set_cons_succ]
              refine rv_det (by kernel_rfl) rfl (by intro w hG hH; obtain ⟨n, rfl⟩ := hG; go_simp; first | done | with_reducible rfl) ?_
              simp only [Act.put, List.setIfInBounds_toArray, List.set_cons_zero, List.set_cons_succ]
              refine rv_nil (fun w hG hH => ?_)
              obtain ⟨n, rfl⟩ := hG
              clear hH
              gi_wp2
              go_roundw
              case rel => exact ⟨m + 1, by omega, by go_num, by rw [Hp.out]; exact abides HJ.out HJm.out ((KB.refl _ _).drewN _), Hbox.out, by simp; omega⟩
              case measure => simp [intOf]; omega
            · have ht : (bits BinOp.and IntKind.u16 (mk f / 2 ^ m) 1 == 1) = true := by rw [hbit, hfm]; rfl
              have Hp := Lib.hid ((P1.out m).1 hfm)
              obtain ⟨hs1, hs2⟩ := Hsum.out m hm12
              simp only [Int.reducePow, Int.mul_one] at hs1 hs2
              clear hbit hfm
              gi_wp2
              refine wpIn_region_rv 15 GQ (kindV [(9, fun v => v = .int .i64 (B : Nat))]) hlet (by kernel_rfl) (by kernel_rfl) (by kernel_rfl) GQ.trans GQ.refl (GQ.start _) (kindV_mono _) ?_
              simp only [List.take_succ_cons, List.take_zero, List.drop_succ_cons, List.drop_zero]
              refine rv_det (by kernel_rfl) rfl (by intro w hG hH; obtain ⟨n, rfl⟩ := hG; go_simp; first | done | with_reducible rfl) ?_
              simp only [Act.put, List.setIfInBounds_toArray, List.set_cons_zero, List.set_cons_succ]
              refine rv_det (by kernel_rfl) rfl (by intro w hG hH; obtain ⟨n, rfl⟩ := hG; go_simp; first | done | with_reducible rfl) ?_
              simp only [Act.put, List.setIfInBounds_toArray, List.set_cons_zero, List.set_cons_succ]
              refine rv_det (by kernel_rfl) rfl (by intro w hG hH; obtain ⟨n, rfl⟩ := hG; go_simp; first | done | with_reducible rfl) ?_
              simp only [Act.put, List.setIfInBounds_toArray, List.set_cons_zero, List.set_cons_succ]
              refine rv_det (by kernel_rfl) rfl (by intro w hG hH; obtain ⟨n, rfl⟩ := hG; go_simp; first | done | with_reducible rfl) ?_
              simp only [Act.put, List.setIfInBounds_toArray, List.set_cons_zero, List.set_cons_succ]
              refine rv_det (by kernel_rfl) rfl (by intro w hG hH; obtain ⟨n, rfl⟩ := hG; go_simp; first | done | with_reducible rfl) ?_
              simp only [Act.put, List.setIfInBounds_toArray, List.set_cons_zero, List.set_cons_succ]
              refine rv_det (by kernel_rfl) rfl (by intro w hG hH; obtain ⟨n, rfl⟩ := hG; go_simp; first | done | with_reducible rfl) ?_
              simp only [Act.put, List.setIfInBounds_toArray, List.set_cons_zero, List.set_cons_succ]
              refine rv_det (by kernel_rfl) rfl (by intro w hG hH; obtain ⟨n, rfl⟩ := hG; go_simp; first | done | with_reducible rfl) ?_
              simp only [Act.put, List.setIfInBounds_toArray, List.set_cons_zero, List.set_cons_succ]
              refine rv_det (by kernel_rfl) rfl (by intro w hG hH; obtain ⟨n, rfl⟩ := hG; go_simp; first | done | with_reducible rfl) ?_
              simp only [Act.put, List.setIfInBounds_toArray, List.set_cons_zero, List.set_cons_succ]
              refine rv_det (by kernel_rfl) rfl (by intro w hG hH; obtain ⟨n, rfl⟩ := hG; go_simp; first | done | with_reducible rfl) ?_
              simp only [Act.put, List.setIfInBounds_toArray, List.set_cons_zero, List.set_cons_succ]
              refine rv_rel (by kernel_rfl) rfl ⟨_, rfl⟩ (by
                intro w hG hH; obtain ⟨n, rfl⟩ := hG
                refine opVal_call (by go_simp; first | done | exact ⟨⟨rfl, rfl⟩, rfl⟩) ?_
                refine (HB.out _).mono ?_
                rintro e w' ⟨rfl, hq⟩
                exact ⟨_, rfl, rfl, by (first | (obtain ⟨nq, rfl⟩ := hq) | subst hq); (try simp only [drew_eq1, drewN_drewN]); first | exact ⟨0, rfl⟩ | exact ⟨_, rfl⟩ | exact gq_le (by omega), trivial⟩) ?_
              rintro v rfl
              simp only [Act.put, List.setIfInBounds_toArray, List.set_cons_zero, List.set_cons_succ]
              refine rv_det (by kernel_rfl) rfl (by intro w hG hH; obtain ⟨n, rfl⟩ := hG; go_simp; first | done | with_reducible rfl) ?_
              simp only [Act.put, List.setIfInBounds_toArray, List.set_cons_zero, List.set_cons_succ]
              refine rv_det (by kernel_rfl) rfl (by intro w hG hH; obtain ⟨n, rfl⟩ := hG; go_simp; first | done | with_reducible rfl) ?_
              simp only [Act.put, List.setIfInBounds_toArray, List.set_cons_zero, List.set_cons_succ]
              refine rv_det (by kernel_rfl) rfl (by intro w hG hH; obtain ⟨n, rfl⟩ := hG; go_simp; first | done | with_reducible rfl) ?_
              simp only [Act.put, List.setIfInBounds_toArray, List.set_cons_zero, List.set_cons_succ]
              refine rv_det (by kernel_rfl) rfl (by intro w hG hH; obtain ⟨n, rfl⟩ := hG; go_simp; first | done | with_reducible rfl) ?_
              simp only [Act.put, List.setIfInBounds_toArray, List.set_cons_zero, List.set_cons_succ]
              refine rv_det (by kernel_rfl) rfl (by intro w hG hH; obtain ⟨n, rfl⟩ := hG; go_simp; first | done | with_reducible rfl) ?_
              simp only [Act.put, List.setIfInBounds_toArray, List.set_cons_zero, List.set_cons_succ]
              refine rv_nil (fun w hG hH => ?_)
              obtain ⟨n, rfl⟩ := hG
              clear hH
              obtain ⟨fn, tm, asg, bd, hy, hR⟩ := HYk.out m (wr.drewN n) (abides HJ.out HJm.out ((KB.refl _ _).drewN _)) hm12
              push_cast at hy
              gi_wp2
              refine ⟨fun _ => by omega, hR.mono ?_⟩
              rintro e W3 (⟨rfl, hJ3, hk3⟩ | ⟨rfl, hJx3⟩)
              · gi_wp2
                go_roundw
                case rel =>
                  exact ⟨m + 1, by omega, by go_num, by rw [Hp.out]; exact hJ3, hk3.same _ _ Hbox.out rfl (fun hh => absurd (HSb.out _ hh) (by omega)), by have := hk3.size; simp at this; omega⟩
                case measure => simp [intOf]; omega
              · gi_wp2
                refine bodyPost_ret (results_none rfl _ _ _) rfl ?_
                have hp2 := P2.out (m + 1) (by omega)
                rw [Hp.out] at hp2
                exact ⟨⟨_, rfl⟩, .inr ⟨_, hp2, hJx3⟩⟩
          · obtain rfl : m = 12 := by omega
            gi_wp2
            first | exact ⟨⟨1, by omega, rfl, by rw [← P0.out.2]; exact HJm.out, hsz'⟩, by simp [intOf]⟩ | exact ⟨⟨2, by omega, rfl, by rw [← P0.out.2]; exact HJm.out, hsz'⟩, by simp [intOf]⟩ | exact ⟨⟨3, by omega, rfl, by rw [← P0.out.2]; exact HJm.out, hsz'⟩, by simp [intOf]⟩ | exact ⟨⟨4, by omega, rfl, by rw [← P0.out.2]; exact HJm.out, hsz'⟩, by simp [intOf]⟩ | exact ⟨⟨5, by omega, rfl, by rw [← P0.out.2]; exact HJm.out, hsz'⟩, by simp [intOf]⟩
    · obtain rfl : k = 5 := by omega
      gi_wp2
      go_end0
      exact ⟨⟨_, rfl⟩, .inl ⟨_, rfl, hJk⟩⟩
end Go.Proofs.Ytnfoabccbkedgaa
