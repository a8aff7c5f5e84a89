/- The walk of the law HeapApart. -/
import Derived.Test.YtnfoabccbkedgaaHeapM
import Derived.Test.YtnfoabccbkedgaaHeapL
namespace Go.Proofs.Ytnfoabccbkedgaa
open Go.RowKit Go.Shelf
attribute [local go_sem] Oper.semAt_some

theorem results_cell {fn : Func} {t : Tmp} (h : fn.results = #[.cell t 4]) (tmps : Array Value) {w : World} {a : Addr} {v : Value} (ha : tmps[t]?.getD undef = .pointer (some a))
    (hc : w.cell? a = some v) : (results fn tmps).run Try.prog w = .ok v w := by
  simp [results, h, ha, go_sem, hc]
/-- The law on a range over a function, the frame behind the assignment found on the way. -/
theorem rangeFuncF {F : Fence} {n : Nat} {P : Program} {α : Type} {g : Operand} {ps : Array Tmp} {assign body : Code} {Q : Exit → Act → World → Prop} {a : Act} {w : World}
    (hro : F.round = none) (h1 : 1 ≤ n) {gf : Nat} {lb : Array Value} (hg : a.eval g = .func (.func gf) #[] lb) (hFg : F.fn gf) (eg : ∀ args w, (callFunc gf args).run P w = .ok (.enter gf args) w)
    {encs : α → Array Value} {Kp : World → World → Prop} {S Sp : List α → Prop} {N : Nat} {w0 : World} (hseq : SeqStopsK F (n - 1) P gf lb encs Kp S Sp N w0)
    (hKt : ∀ {A B C : World}, Kp A B → Kp B C → Kp A C) (hKb : ∀ (W : World) (l : Nat) (o o' : Obj), w.heap.size ≤ l → W.heap[l]? = some o → o.isCells = false → o.isWalk = false → Kp W (W.putObj l o')) (hb0 : Below w0.heap.size w0 w) (hps : ∀ x, (encs x).size = ps.size)
    (I : List α → World → Prop) (Ix : Code → List α → World → Prop) (hI : OwnFrom w.heap.size I) (hIx : ∀ c, OwnFrom w.heap.size (Ix c)) (h0 : I [] w)
    (h : ∃ a₁ : α → Act, (∀ (l : Nat) (x : α) (W : World) (K : Act → World → Prop), K (a₁ x) W →
        assign.wpIn (F.inRound l) (n - 1 - 1) P (Exit.then K (fun _ _ _ => False)) { tmps := (ps.zip (encs x)).foldl (fun t (p, v) => t.setIfInBounds p v) a.tmps, defers := [] } W) ∧
      (∀ (l : Nat) (pre : List α) (x : α) (W : World), I pre W → pre.length < N → body.wpIn (F.inRound l) (n - 1 - 1) P (ownPostK Kp I Ix (pre ++ [x]) W) (a₁ x) W))
    (hdone : ∀ (D : Nat) (xs : List α) (W : World), w.heap.size ≤ D → S xs → I xs W → W.heap[D]? = some (.deferred (some [])) → Q .normal { a with defers := { target := .collected D, args := #[] } :: a.defers } W)
    (hstop : ∀ (D : Nat) (c : Code) (pre : List α) (W : World), w.heap.size ≤ D → Sp pre → Ix c pre W → W.heap[D]? = some (.deferred (some [])) → c.wpIn F n P Q { a with defers := { target := .collected D, args := #[] } :: a.defers } W) :
    (Code.rangeFunc g ps assign body).wpIn F n P Q a w := by
  obtain ⟨a₁, ha, hb⟩ := h
  exact wpIn_rangeFunc_ownF hro h1 hg hFg eg hseq hKt hKb hb0 hps I Ix hI hIx h0 a₁ ha hb hdone hstop
theorem own_heap {W W' : World} {row : Option Nat} {B : Nat} (hg : W.grownBy W' row) (hr : ∀ r, row = some r → B ≤ r ∧ ∃ o : Obj, W.heap[r]? = some o ∧ o.isCells = false)
    {k : Nat} {o : Obj} (hk : W.heap[k]? = some o) (ho : o.isCells = true) : W'.heap[k]? = some o := by
  refine (hg.block k (Array.getElem?_eq_some_iff.1 hk).1 ?_).trans hk
  intro e
  obtain ⟨_, o', ho', hc⟩ := hr k e.symm
  rw [hk] at ho'; cases ho'; rw [ho] at hc; cases hc
theorem own_kbF {w W W' : World} {row : Option Nat} {B : Nat} (h : KB (fun _ => False) w W) (hB : w.heap.size ≤ B) (hg : W.grownBy W' row) (hr : ∀ r, row = some r → B ≤ r ∧ ∃ o : Obj, W.heap[r]? = some o ∧ o.isCells = false) :
    KB (fun _ => False) w W' := h.grown hg (fun k e hk => by have := (hr k e).1; omega)
theorem KC.refl (S : Nat → Prop) (W : World) : KC S W W := ⟨Nat.le_refl _, fun _ _ h _ _ => h⟩
theorem KC.setCell {S : Nat → Prop} {W0 W : World} (h : KC S W0 W) {a : Addr} (ha : S a.block) (v : Value) : KC S W0 (W.setCell a v) :=
  h.trans ⟨by simp, fun k o hk _ hs => (Below.heap_setCell W a v k (fun e => hs (e ▸ ha))).trans hk⟩
theorem callR {P : Program} {f : FuncId} {args : Array Value} {w : World} {m l : Nat} {R K : Ending → World → Prop} (h : Calls P f args w R) (hk : ∀ e w', R e w' → K e w') :
    (Fence.wide.inRound l).fn f ∧ CallsIn (Fence.wide.inRound l) m P f args w K := ⟨trivial, CallsIn.inRound l ((callsIn_wide.2 h).mono hk)⟩
theorem callW {P : Program} {f : FuncId} {args : Array Value} {w : World} {m : Nat} {R K : Ending → World → Prop} (h : Calls P f args w R) (hk : ∀ e w', R e w' → K e w') :
    Fence.wide.fn f ∧ CallsIn Fence.wide m P f args w K := ⟨trivial, (callsIn_wide.2 h).mono hk⟩

set_option maxRecDepth 100000 in
set_option maxHeartbeats 4000000 in
theorem apart_long (a1 : Option Addr) (n1 c1 : Nat) (w : World) (h : 300 < n1) :
    Calls Try.prog 4 #[.slice a1 n1 c1] w (lawPost w) := by
  have d1 : decide ((300 : Int) < (n1 : Int)) = true := by simp; omega
  refine (callsIn_wide (n := 20)).1 ?_
  refine callsIn_of_wp_marks Try.func4 rfl trivial ?_ rfl
  simp only [Try.ntmps4, List.size_toArray, List.length_cons, List.length_nil, Nat.reduceAdd, Nat.reduceSub, Array.replicate_succ, Array.replicate_zero, List.push_toArray, List.append_toArray, List.nil_append, List.cons_append]
  gi_wp2_with fail
  refine callW (awake_any _) ?_
  rintro e w' ⟨rfl, hk⟩
  have hr : w'.heap[w.heap.size]? = some (.cells #[.bool false] 4 (0, 0)) := hk.heap (fun x => x) (alloc_new w _)
  have hk' : KB (fun _ => False) w w' := ((KB.refl _ w).alloc _).trans hk
  have cr : w'.cell? ⟨w.heap.size, 0, none⟩ = some (.bool false) := by simp [World.cell?, hr]
  have fr : w'.frozen? ⟨w.heap.size, 0, none⟩ = false := by simp [World.frozen?, hr]
  clear hk hr
  gi_wp2_with fail
  have hc := World.cell?_setCell_same' w' ⟨w.heap.size, 0, none⟩ (.bool true) (by rw [cr]; rfl)
  refine ⟨.bool true, results_cell rfl _ rfl hc, rfl, ?_⟩
  exact hk'.setCell (p := ⟨w.heap.size, 0, none⟩) (fun hh => by simp at hh) _

set_option maxRecDepth 100000 in
set_option maxHeartbeats 4000000 in
theorem apart_short (a1 : Option Addr) (xs1 : List Int) (c1 : Nat) (w : World) (h1 : xs1.length ≤ 300)
    (hx1 : IntsAt w a1 xs1) (hr1 : ∀ x ∈ xs1, -9223372036854775808 ≤ x ∧ x < 9223372036854775808) :
    Calls Try.prog 4 #[.slice a1 xs1.length c1] w (lawPost w) := by
  have d1 : decide ((300 : Int) < (xs1.length : Int)) = false := by simp; omega
  obtain ⟨R, hR⟩ : ∃ R, R = w.heap.size := ⟨_, rfl⟩
  obtain ⟨w0, hw0⟩ : ∃ w0, w0 = w.alloc (.cells #[.bool false] 4) := ⟨_, rfl⟩
  have k0 : KB (fun _ => False) w w0 := by subst hw0; exact (KB.refl _ _).alloc _
  have hs0 : w0.heap.size = R + 1 := by subst hw0 hR; simp
  have r0 : w0.heap[R]? = some (.cells #[.bool false] 4 (0, 0)) := by subst hw0 hR; exact alloc_new w _
  have hx0 : IntsAt w0 a1 xs1 := hx1.kb k0 (fun _ _ _ x => x)
  obtain ⟨b, hb⟩ : ∃ b, b = w0.heap.size := ⟨_, rfl⟩
  have hlt : ∀ bl off k, k < xs1.length → a1 = some ⟨bl, off, none⟩ → bl < w0.heap.size := by
    intro bl off k hk ha
    obtain ⟨b', o', ha', hc⟩ := hx0 k hk
    rw [ha] at ha'
    simp only [Option.some.injEq, Addr.mk.injEq] at ha'
    obtain ⟨rfl, rfl, _⟩ := ha'
    exact World.block_lt_of_cell? w0 _ hc
  have Hnew := Lib.hid (new_any w0)
  rw [← hb] at Hnew
  have hab1 : ∀ bl off k, k < xs1.length → a1 = some ⟨bl, off, none⟩ → ¬ bl = b := fun bl off k hk ha => by have := hlt bl off k hk ha; omega
  have Hplay := Lib.hid (fun (w1 : World) (i1 : IH w1 b HS.new) (k1 : KB (fun _ => False) w0 w1) => play_any b HS.new a1 xs1 c1 w1 i1 good_new h1
    (hx0.kb k1 (fun _ _ _ x => x)) hr1 hab1)
  have K0 := Lib.hid k0
  have R0 := Lib.hid r0
  have HRw := Lib.hid hR
  have hRb : Hid (b = R + 1) := Lib.hid (by omega)
  have W0 := Lib.hid hw0
  obtain ⟨n1, hn1⟩ : ∃ n, n = xs1.length := ⟨_, rfl⟩
  rw [← hn1] at d1 Hplay ⊢
  clear hx1 hr1 hlt hab1 h1 hn1 hb k0 r0 hx0 hs0 hR hw0
  refine (callsIn_wide (n := 20)).1 ?_
  refine callsIn_of_wp_marks Try.func4 rfl trivial ?_ rfl
  simp only [Try.ntmps4, List.size_toArray, List.length_cons, List.length_nil, Nat.reduceAdd, Nat.reduceSub, Array.replicate_succ, Array.replicate_zero, List.push_toArray, List.append_toArray, List.nil_append, List.cons_append]
  have hmk := make_met
  gi_wp2_with fail
  rw [← W0.out]
  refine callW Hnew.out ?_
  rintro e w1 ⟨rfl, i1, k1⟩
  have I := Lib.hid i1
  have K := Lib.hid k1
  clear i1 k1
  gi_wp2_with fail
  refine callW (Hplay.out _ I.out K.out) ?_
  rintro e w2 ⟨pv, s, rfl, i2, g2, k2⟩
  have R1 : w1.heap[R]? = some (.cells #[.bool false] 4 (0, 0)) := K.out.heap (fun x => x) R0.out
  replace K := Lib.hid ((K0.out.trans K.out).seq k2 (fun j h1 h2 => by have := hRb.out; have := HRw.out; omega))
  have R2 : Hid (w2.heap[R]? = some (.cells #[.bool false] 4 (0, 0))) := Lib.hid (k2.heap (by have := hRb.out; omega) R1)
  have IB := Lib.hid i2
  have G2 := Lib.hid g2
  clear i2 g2 k2 I R1 Hplay Hnew R0
  gi_wp2_with fail
  refine callW (size_any _) ?_
  rintro e _ ⟨rfl, rfl⟩
  gi_wp2_with fail
  obtain ⟨Bm, hBm⟩ : ∃ Bm, Bm = w2.heap.size := ⟨_, rfl⟩
  rw [← hBm]
  obtain ⟨w3, hw3⟩ : ∃ w3, w3 = (w2.alloc (.cells (marr fun _ => 0) 3)).alloc (.cells #[.slice (some ⟨Bm, 0, none⟩) 373 373] 22) := ⟨_, rfl⟩
  have hs3 : w3.heap.size = Bm + 2 := by subst hw3 hBm; simp
  have k3 : KB (fun _ => False) w2 w3 := by subst hw3; exact ((KB.refl _ w2).alloc _).alloc _
  have m3 : w3.heap[Bm]? = some (.cells (marr fun _ => 0) 3 (0, 0)) := by
    subst hw3 hBm
    exact ((KB.refl (fun _ => False) _).alloc (.cells #[.slice (some ⟨w2.heap.size, 0, none⟩) 373 373] 22)).heap (fun x => x) (alloc_new w2 _)
  have x3 : w3.heap[Bm + 1]? = some (.cells #[.slice (some ⟨Bm, 0, none⟩) 373 373] 22 (0, 0)) := by
    have := alloc_new (w2.alloc (.cells (marr fun _ => 0) 3)) (.cells #[.slice (some ⟨Bm, 0, none⟩) 373 373] 22 (0, 0))
    rw [World.size_alloc, ← hBm] at this
    rw [hw3]; exact this
  rw [← hw3]
  have hRB : R < b ∧ b < Bm := ⟨by have := hRb.out; omega, by have := heap_lt IB.out.1; omega⟩
  replace IB := Lib.hid (IB.out.kb k3 (fun x => x))
  replace R2 := Lib.hid (k3.heap (fun x => x) R2.out)
  replace K := Lib.hid (K.out.trans k3)
  have hX3 := Lib.hid (And.intro m3 x3)
  have hS3 := Lib.hid hs3
  clear hw3 k3 m3 x3 hs3 hBm hmk
  refine callW (each_any b s _ IB.out) ?_
  rintro e w4 ⟨rfl, ic, k4⟩
  have cbs : w3.heap.size = Bm + 2 := hS3.out
  rw [cbs] at ic ⊢
  have hS4 : Hid (Bm + 2 < w4.heap.size) := Lib.hid (heap_lt ic.1)
  have IC := Lib.hid ic
  replace IB := Lib.hid (IB.out.kb k4 (fun x => x))
  replace R2 := Lib.hid (k4.heap (fun x => x) R2.out)
  replace K := Lib.hid (K.out.trans k4)
  have hX4 : Hid (w4.heap[Bm]? = some (.cells (marr fun _ => 0) 3 (0, 0)) ∧ w4.heap[Bm + 1]? = some (.cells #[.slice (some ⟨Bm, 0, none⟩) 373 373] 22 (0, 0))) :=
    Lib.hid ⟨k4.heap (fun x => x) hX3.out.1, k4.heap (fun x => x) hX3.out.2⟩
  clear ic k4 cbs hX3 hS3
  gi_wp2_with fail
  refine rangeFuncF (F := Fence.wide) rfl (by omega) (gf := 33) (lb := #[.pointer (some ⟨Bm + 2, 0, none⟩)]) rfl trivial (enters_of Try.func33 (by kernel_rfl) rfl)
    (each1_stops Fence.wide 19 (by omega) (fun _ => trivial) rfl lets_wide (Bm + 2) s w4 (fun j => j = R ∨ j = Bm) (by omega) (fun j hj => by have := hS4.out; omega) IC.out) KC.trans
    (fun W l o o' _ h ho _ => KC.putObj W l o o' h ho) (Below.refl _ _) (fun _ => rfl)
    (fun pre W => ∃ g, W.heap[Bm]? = some (.cells (marr g) 3 (0, 0)) ∧ (∀ j, 0 < g j → ∃ p ∈ pre, covers p j) ∧ W.heap[Bm + 1]? = some (.cells #[.slice (some ⟨Bm, 0, none⟩) 373 373] 22 (0, 0)) ∧
      W.heap[R]? = some (.cells #[.bool false] 4 (0, 0)) ∧ IH W b s ∧ KB (fun _ => False) w W ∧ w4.heap.size ≤ W.heap.size)
    (fun _ pre _ => ∃ pre' x p j, pre = pre' ++ [x] ∧ p ∈ pre' ∧ covers p j ∧ covers x j) ?own (fun _ => ownFrom_pure _ _) ?start ?rounds ?done ?stop
  case own =>
    rintro pre A B row ⟨g, h1, h2, h3, h4, h5, h6, h7⟩ hg hr
    exact ⟨g, own_heap hg hr h1 rfl, h2, own_heap hg hr h3 rfl, own_heap hg hr h4 rfl, ⟨own_heap hg hr h5.1 rfl, h5.2⟩, own_kbF h6 K.out.size hg hr, Nat.le_trans h7 hg.size⟩
  case start => exact ⟨_, hX4.out.1, fun j hj => absurd hj (Nat.lt_irrefl 0), hX4.out.2, R2.out, IB.out, K.out, Nat.le_refl _⟩
  case stop =>
    rintro D c pre W _ hp ⟨pre', x, p, j, rfl, h1, h2, h3⟩ _
    exact (twice_no hp h1 h2 h3).elim
  case rounds =>
    apply Exists.intro
    refine ⟨?assign, ?body⟩
    case assign =>
      intro l x W K hK
      simp only [encs2]
      gi_wp2
      exact hK
    case body =>
      rintro l pre x W ⟨g, h1, h2, h3, h4, h5, h6, h7⟩ _
      rw [addr_aN x]
      obtain ⟨ad, had⟩ : ∃ ad, ad = aN x := ⟨_, rfl⟩
      obtain ⟨c, hc⟩ : ∃ c, c = x.1.1 := ⟨_, rfl⟩
      have hbd := aN_bounds x
      have Hcov : Hid (∀ j, ad ≤ j → j < ad + 2 ^ c → covers x j) := Lib.hid (fun j h1 h2 => ⟨by rw [← had]; exact h1, by rw [← had, ← hc]; exact h2⟩)
      have hc5 : c < 5 := by rw [hc]; exact x.2.1
      have hmod : ∀ i, i < 2 ^ c → (ad + i - hb c) % 2 ^ c = i := by
        intro i hi
        have e : ad + i - hb c = x.1.2 * 2 ^ c + i := by rw [had, hc]; unfold aN; omega
        rw [e, Nat.mul_comm, Nat.mul_add_mod, Nat.mod_eq_of_lt hi]
      rw [← had, ← hc] at hbd ⊢
      have Hcls : Hid (∀ (i q : Nat), q = ad + i → i < 2 ^ c → ∀ wr, Calls Try.prog 20 #[.int .i64 (q : Nat)] wr fun e w' => e = .returned (.tuple #[.int .i64 (c : Nat), .int .i64 (ad : Nat), .bool true]) ∧ ∃ n, w' = wr.drewN n) :=
        Lib.hid (fun i q hq hi wr => by
          have h := class_yes q c hc5 (by omega) (by omega) wr
          rw [hq, hmod i hi, ← hq, show q - i = ad by omega] at h
          exact h)
      have hle : ad + 2 ^ c ≤ 373 := hbd.2.2.2
      have h1ad : 1 ≤ ad := hbd.2.2.1
      obtain ⟨E, hE⟩ : ∃ E, E = 2 ^ c := ⟨_, rfl⟩
      rw [← hE] at Hcov Hcls hle
      clear hbd had hc hmod
      have Hp : Hid (∃ P : Nat → Prop, P = fun j => ∃ p ∈ pre, covers p j) := Lib.hid ⟨_, rfl⟩
      have H0 : Hid (W.heap[Bm]? = some (.cells (marr g) 3 (0, 0)) ∧ (∀ j, 0 < g j → (∃ p ∈ pre, covers p j) ∨ (ad ≤ j ∧ j < ad + 0)) ∧ W.heap[Bm + 1]? = some (.cells #[.slice (some ⟨Bm, 0, none⟩) 373 373] 22 (0, 0)) ∧
        W.heap[R]? = some (.cells #[.bool false] 4 (0, 0)) ∧ IH W b s ∧ KB (fun _ => False) w W ∧ w4.heap.size ≤ W.heap.size) := Lib.hid ⟨h1, fun j hj => .inl (h2 j hj), h3, h4, h5, h6, h7⟩
      have Kw := K.out.size
      clear h1 h2 h3 h4 h5 h6 h7 Hp K IB IC R2 hX4
      obtain rfl | rfl | rfl | rfl | rfl : c = 0 ∨ c = 1 ∨ c = 2 ∨ c = 3 ∨ c = 4 := by omega
      all_goals
        simp only [Nat.reducePow] at hE
        push_cast
        push_cast at Hcls
        gi_wp2
        gi_loopw [7] (fun iv wr => ∃ (k : Nat) (g : Nat → Nat), k ≤ E ∧ iv = .int .i64 k ∧ wr.heap[Bm]? = some (.cells (marr g) 3 (0, 0)) ∧ (∀ j, 0 < g j → (∃ p ∈ pre, covers p j) ∨ (ad ≤ j ∧ j < ad + k)) ∧
          wr.heap[Bm + 1]? = some (.cells #[.slice (some ⟨Bm, 0, none⟩) 373 373] 22 (0, 0)) ∧ wr.heap[R]? = some (.cells #[.bool false] 4 (0, 0)) ∧ IH wr b s ∧ KB (fun _ => False) w wr ∧ w4.heap.size ≤ wr.heap.size ∧
          KC (fun j => j = R ∨ j = Bm) W wr ∧ KeepsOthers W wr) (fun iv _ => 400 - (intOf iv).toNat)
        case atStart => exact ⟨0, g, by omega, rfl, H0.out.1, H0.out.2.1, H0.out.2.2.1, H0.out.2.2.2.1, H0.out.2.2.2.2.1, H0.out.2.2.2.2.2.1, H0.out.2.2.2.2.2.2, KC.refl _ _, KeepsOthers.refl _⟩
        case round =>
          obtain ⟨k, g, hk, rfl, h1, h2, h3, h4, h5, h6, h7, h8, h9⟩ := hrel
          clear H0
          by_cases hlt : k < E
          · obtain ⟨q, hq⟩ : ∃ q, q = ad + k := ⟨_, rfl⟩
            have hcl := Hcls.out k q hq hlt
            have hs : IntKind.i64.wrap ((ad : Int) + (k : Int)) = (q : Int) := by rw [w64 (by omega) (by omega)]; omega
            have t1 : decide ((q : Int) < 1) = false := by simp; omega
            have t2 : decide ((373 : Int) ≤ (q : Int)) = false := by simp; omega
            have hq373 : (q : Int) < 373 := by omega
            have hqn : q < 373 := by omega
            obtain ⟨gq, hgq⟩ : ∃ gq, gq = g q := ⟨_, rfl⟩
            have cM : wr.cell? ⟨Bm, q, none⟩ = some (.int .i64 (gq : Nat)) := by simp only [World.cell?, h1]; rw [marr_get g (by omega), hgq]; rfl
            have fM : wr.frozen? ⟨Bm, q, none⟩ = false := by simp [World.frozen?, h1]
            have cB : wr.cell? ⟨Bm + 1, 0, none⟩ = some (.slice (some ⟨Bm, 0, none⟩) 373 373) := by simp [World.cell?, h3]
            have cR : wr.cell? ⟨R, 0, none⟩ = some (.bool false) := by simp [World.cell?, h4]
            have fR : wr.frozen? ⟨R, 0, none⟩ = false := by simp [World.frozen?, h4]
            have L := Lib.hid (And.intro h1 (And.intro h2 (And.intro h3 (And.intro h4 (And.intro h5 (And.intro h6 (And.intro h7 (And.intro h8 h9))))))))
            have Hcl := Lib.hid hcl
            have HG := Lib.hid hgq
            have HQ := Lib.hid hq
            rw [hE] at hlt
            clear h1 h2 h3 h4 h5 h6 h7 h8 h9 hgq hcl hq
            rcases Nat.eq_zero_or_pos gq with hz | hz
            · subst hz
              gi_wp2_with fail
              refine callR (Hcl.out _) ?_
              rintro e w5 ⟨rfl, m5, rfl⟩
              have cM5 : (wr.drewN m5).cell? ⟨Bm, q, none⟩ = some (.int .i64 0) := cM
              have cB5 : (wr.drewN m5).cell? ⟨Bm + 1, 0, none⟩ = some (.slice (some ⟨Bm, 0, none⟩) 373 373) := cB
              have fM5 : (wr.drewN m5).frozen? ⟨Bm, q, none⟩ = false := fM
              gi_wp2_with fail
              go_roundw
              case rel =>
                obtain ⟨h1, h2, h3, h4, h5, h6, h7, h8, h9⟩ := L.out
                have hq := HQ.out
                refine ⟨k + 1, upc g q 1, by omega, by go_num, ?_, ?_, ?_, ?_, ?_, ?_, ?_, ?_, ?_⟩
                · exact (setCell_heap (w := wr.drewN m5) h1).trans (by rw [← marr_set]; rfl)
                · intro j hj
                  unfold upc at hj
                  by_cases e : j = q
                  · exact .inr ⟨by omega, by omega⟩
                  · rw [if_neg e] at hj
                    rcases h2 j hj with h | h
                    · exact .inl h
                    · exact .inr ⟨h.1, by omega⟩
                · exact (Below.heap_setCell (wr.drewN m5) ⟨Bm, q, none⟩ _ (Bm + 1) (by show Bm + 1 ≠ Bm; omega)).trans h3
                · exact (Below.heap_setCell (wr.drewN m5) ⟨Bm, q, none⟩ _ R (by show R ≠ Bm; omega)).trans h4
                · exact ⟨(Below.heap_setCell (wr.drewN m5) ⟨Bm, q, none⟩ _ b (by show b ≠ Bm; omega)).trans h5.1, h5.2⟩
                · exact (h6.drewN m5).setCell (p := ⟨Bm, q, none⟩) (fun hh => by simp at hh; have := HRw.out; omega) _
                · simp; omega
                · exact (KC.trans h8 ⟨Nat.le_refl _, fun _ _ h _ _ => h⟩ : KC _ W (wr.drewN m5)).setCell (.inr rfl) _
                · exact KeepsOthers.trans (h9.trans ⟨Nat.le_refl _, fun _ _ h _ => h⟩ : KeepsOthers W (wr.drewN m5)) (KeepsOthers.setCell _ _ _)
              case measure => simp [intOf]; omega
            · have t3 : decide ((0 : Int) < (gq : Int)) = true := by simp; omega
              gi_wp2_with fail
              refine callR (Hcl.out _) ?_
              rintro e w5 ⟨rfl, m5, rfl⟩
              have cM5 : (wr.drewN m5).cell? ⟨Bm, q, none⟩ = some (.int .i64 gq) := cM
              have cB5 : (wr.drewN m5).cell? ⟨Bm + 1, 0, none⟩ = some (.slice (some ⟨Bm, 0, none⟩) 373 373) := cB
              have fR5 : (wr.drewN m5).frozen? ⟨w.heap.size, 0, none⟩ = false := by rw [← HRw.out]; exact fR
              have cR5 : (wr.drewN m5).cell? ⟨w.heap.size, 0, none⟩ = some (.bool false) := by rw [← HRw.out]; exact cR
              gi_wp2_with fail
              obtain ⟨h1, h2, h3, h4, h5, h6, h7, h8, h9⟩ := L.out
              have hq := HQ.out
              have hcx : covers x q := Hcov.out q (by omega) (by omega)
              have hpx : ∃ p ∈ pre, covers p q := by
                rcases h2 q (by rw [← HG.out]; exact hz) with h | h
                · exact h
                · omega
              obtain ⟨p, hp1, hp2⟩ := hpx
              exact ⟨KeepsOthers.trans (h9.trans ⟨Nat.le_refl _, fun _ _ h _ => h⟩ : KeepsOthers W (wr.drewN m5)) (KeepsOthers.setCell _ _ _), pre, x, p, q, rfl, hp1, hp2, hcx⟩
          · obtain rfl : k = E := by omega
            subst hE
            gi_wp2_with fail
            refine ⟨h9, h8, g, h1, ?_, h3, h4, h5, h6, h7⟩
            intro j hj
            rcases h2 j hj with ⟨p, hp1, hp2⟩ | ⟨ha, hb⟩
            · exact ⟨p, by simp [hp1], hp2⟩
            · exact ⟨x, by simp, Hcov.out j ha (by omega)⟩
  case done =>
    rintro D ys W hD rfl ⟨g, h1, h2, h3, h4, h5, h6, h7⟩ hK
    have HW : Hid (W.heap[R]? = some (.cells #[.bool false] 4 (0, 0)) ∧ IH W b s ∧ KB (fun _ => False) w W ∧ W.heap[D]? = some (.deferred (some []))) := Lib.hid ⟨h4, h5, h6, hK⟩
    have hwD : w.heap.size < D := by have := HRw.out; have := hS4.out; omega
    have hwW := h6.size
    clear h1 h2 h3 h4 h5 h6 h7 hK K IB IC R2 hX4 K0 g
    gi_wp2_with fail
    gi_loopw [11] (fun iv wr => ∃ (k m : Nat), 1 ≤ k ∧ k ≤ 373 ∧ iv = .int .i64 k ∧ wr = W.drewN m) (fun iv _ => 373 - (intOf iv).toNat)
    case atStart => exact ⟨1, 0, by omega, by omega, rfl, rfl⟩
    case round =>
      obtain ⟨k, m0, hk1, hk2, rfl, rfl⟩ := hrel
      by_cases hlt : k ≤ 372
      · obtain ⟨c, hc⟩ : ∃ c, c = wcls k := ⟨_, rfl⟩
        obtain ⟨hc5, hbk, hbk2⟩ := wcls_spec hk1 hlt
        rw [← hc] at hc5 hbk hbk2
        have hcl := class_yes k c hc5 hbk hbk2
        have hba := hbase_yes c hc5
        obtain ⟨B, hB⟩ : ∃ B, B = hb c := ⟨_, rfl⟩
        obtain ⟨f, hf⟩ : ∃ f, f = k - (k - hb c) % 2 ^ c := ⟨_, rfl⟩
        obtain ⟨E, hE⟩ : ∃ E, E = 2 ^ c := ⟨_, rfl⟩
        obtain ⟨d, hd⟩ : ∃ d, d = (k - hb c) / 2 ^ c := ⟨_, rfl⟩
        have hd12 : d < 12 ∧ (k - B) = E * d + (k - B) % E := by
          refine ⟨?_, by rw [hd, hE, hB]; exact (Nat.div_add_mod _ _).symm⟩
          obtain ⟨v0, v1, v2, v3, v4, v5⟩ := hb_vals
          obtain rfl | rfl | rfl | rfl | rfl : c = 0 ∨ c = 1 ∨ c = 2 ∨ c = 3 ∨ c = 4 := by omega
          all_goals
            simp only [v0, v1, v2, v3, v4, v5, Nat.reduceAdd] at hbk hbk2 hd
            simp only [Nat.reducePow] at hd
            omega
        have hmE : (k - B) % E < E := Nat.mod_lt _ (by rw [hE]; exact Nat.two_pow_pos c)
        rw [← hf] at hcl
        rw [← hB] at hba hf hbk
        rw [← hE] at hf
        have Hcl := Lib.hid hcl
        have Hba := Lib.hid hba
        obtain ⟨hd12, hkB⟩ := hd12
        generalize (k - B) % E = r at hf hkB hmE
        obtain ⟨v, hv⟩ : ∃ v, v = f - B := ⟨_, rfl⟩
        have hs : IntKind.i64.wrap ((f : Int) - (B : Int)) = (v : Int) := by rw [w64 (by omega) (by omega)]; omega
        have u1 : decide ((f : Int) < (B : Int)) = false := by simp; omega
        have u2 : decide ((k : Int) < (f : Int)) = false := by simp; omega
        have hv12 : v = E * d := by omega
        have u3 : Int.tmod (v : Int) (E : Int) = 0 := by rw [hv12, Int.natCast_mul, Int.mul_comm]; exact Int.mul_tmod_left _ _
        have u4 : decide ((f : Int) + (E : Int) ≤ (k : Int)) = false := by simp; omega
        have u5 : (v : Int) / (E : Int) = d := by rw [hv12, Int.natCast_mul]; exact Int.mul_ediv_cancel_left _ (by omega)
        have u6 : decide ((12 : Int) ≤ (d : Int)) = false := by simp; omega
        have hf373 : (f : Int) ≤ 372 := by omega
        have hbf : B ≤ f := by omega
        have hfk : f ≤ k := by omega
        have hkE : k < f + E := by omega
        have hkEi : (k : Int) < (f : Int) + (E : Int) := by omega
        have hk372 : (k : Int) ≤ 372 := by omega
        clear hv hkB hf hv12
        clear hcl hba hc hbk2 hd hB
        obtain rfl | rfl | rfl | rfl | rfl : c = 0 ∨ c = 1 ∨ c = 2 ∨ c = 3 ∨ c = 4 := by omega
        all_goals
          simp only [Nat.reducePow] at hE
          subst hE
          push_cast at Hcl Hba u3 u4 u5 hkEi
          gi_wp2_with fail
          refine callW (size_any _) ?_
          rintro e _ ⟨rfl, rfl⟩
          gi_wp2_with fail
          refine callW (Hcl.out _) ?_
          rintro e _ ⟨rfl, m1, rfl⟩
          gi_wp2_with fail
          refine callW (Hba.out _) ?_
          rintro e _ ⟨rfl, m2, rfl⟩
          gi_wp2_with fail
          exact ⟨⟨k + 1, _, by omega, by omega, by go_num, rfl⟩, by simp [intOf]; omega⟩
      · obtain rfl : k = 373 := by omega
        push_cast
        gi_wp2_with fail
        refine callW (size_any _) ?_
        rintro e _ ⟨rfl, rfl⟩
        gi_wp2_with fail
        gi_loopw [17] (fun iv wr => ∃ k : Nat, k ≤ 5 ∧ iv = .int .i64 k ∧ KB (fun _ => False) W wr) (fun iv _ => 5 - (intOf iv).toNat)
        case atStart => exact ⟨0, by omega, rfl, (KB.refl _ _).drewN _⟩
        case round =>
          obtain ⟨k, hk, rfl, hkb⟩ := hrel
          by_cases hlt5 : k < 5
          · have KB1 := Lib.hid hkb
            clear hkb
            obtain ⟨cv, hcv⟩ : ∃ cv, cv = cnt (s.T k) := ⟨_, rfl⟩
            obtain ⟨mv, hmv⟩ : ∃ mv, mv = s.M k := ⟨_, rfl⟩
            have hcm : cv ≤ mv := by rw [hcv, hmv]; exact G2.out k hlt5
            have hm12 : mv ≤ 12 := by rw [hmv]; exact HW.out.2.1.2 k hlt5
            have hcount := hcount_yes b s k hlt5 wr (HW.out.2.1.kb KB1.out (fun x => x))
            have hmost := fun wq (hq : KB (fun _ => False) W wq) => hmost_yes b s k hlt5 wq (HW.out.2.1.kb hq (fun x => x))
            rw [← hcv] at hcount
            rw [← hmv] at hmost
            have Hc := Lib.hid hcount
            have Hm := Lib.hid hmost
            clear hcount hmost hcv hmv
            gi_wp2_with fail
            refine callW Hc.out ?_
            rintro e w5 ⟨rfl, k5⟩
            have K5 := Lib.hid (KB1.out.trans k5)
            clear k5
            gi_wp2_with fail
            refine callW (Hm.out _ K5.out) ?_
            rintro e w6 ⟨rfl, k6⟩
            have K6 := Lib.hid (K5.out.trans k6)
            clear k6
            gi_wp2_with fail
            go_roundw
            case rel => exact ⟨k + 1, by omega, by go_num, K6.out⟩
            case measure => simp [intOf]; omega
          · obtain rfl : k = 5 := by omega
            have KB1 := Lib.hid hkb
            clear hkb
            push_cast
            gi_wp2_with fail
            refine callW (awake_any _) ?_
            rintro e w7 ⟨rfl, k7⟩
            have k8 : KB (fun _ => False) W w7 := KB1.out.trans k7
            have r8 : w7.heap[w.heap.size]? = some (.cells #[.bool false] 4 (0, 0)) := by rw [← HRw.out]; exact k8.heap (fun x => x) HW.out.1
            have d8 : w7.heap[D]? = some (.deferred (some [])) := k8.heap (fun x => x) HW.out.2.2.2
            have kw : KB (fun _ => False) w w7 := HW.out.2.2.1.trans k8
            have cr : w7.cell? ⟨w.heap.size, 0, none⟩ = some (.bool false) := by simp [World.cell?, r8]
            have fr : w7.frozen? ⟨w.heap.size, 0, none⟩ = false := by simp [World.frozen?, r8]
            have D8 := Lib.hid d8
            have KW := Lib.hid kw
            clear r8 d8 kw k7 k8
            gi_wp2_with fail
            have hc := World.cell?_setCell_same' w7 ⟨w.heap.size, 0, none⟩ (.bool true) (by rw [cr]; rfl)
            have hd9 : (w7.setCell ⟨w.heap.size, 0, none⟩ (.bool true)).heap[D]? = some (.deferred (some [])) := (Below.heap_setCell w7 ⟨w.heap.size, 0, none⟩ _ D (by show D ≠ w.heap.size; omega)).trans D8.out
            refine ⟨by simp, .inl ⟨_, _, rfl, run_takeDeferred hd9, ?_⟩⟩
            have k9 : KB (fun _ => False) w (w7.setCell ⟨w.heap.size, 0, none⟩ (.bool true)) := KW.out.setCell (p := ⟨w.heap.size, 0, none⟩) (fun hh => by simp at hh) _
            refine ⟨.bool true, results_cell rfl _ rfl ((World.cell?_of_block (World.putObj_heap_other (k := w.heap.size) (by omega))).trans hc), rfl, ?_⟩
            exact k9.grown (grownBy_putObj' _ D _) (fun j e hj => by cases e; omega)
end Go.Proofs.Ytnfoabccbkedgaa
