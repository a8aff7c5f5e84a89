/- loanwordref03.Own. -/
import Derived.Test.YtoophdcagpfmpaaGreatDoorTreeZ
import Derived.Test.YtoophdcagpfmpaaGreatDoorMg23
import Derived.Laws.AppendOwnNone
namespace Go.Proofs.YtoophdcagpfmpaaGreatDoor
open Go.RowKit

/-- A node whose list is so far made. -/
def ndObj (x : Nd) (lv : Value) : Obj := .cells #[.int .u8 (x.k : Nat), .int .i64 x.at_, .int .i64 x.n, .string x.s, lv] 44
/-- A store into a block of another type leaves a tree's memory as it is. -/
theorem OwnTs.other {w w' : World} {B O : Nat} {v : Value} {ts : List Nd} {ls : List Value} {cs : Array Value} {t : TypeId} (h : OwnTs w B v ts ls) (hk : KB (fun k => k = O) w w') (hO : w.heap[O]? = some (.cells cs t (0, 0))) (h1 : t ≠ 44) (h2 : t ≠ 3) : OwnTs w' B v ts ls := by
  have hne : ∀ {u : Value} {e : TypeId} {z n : Nat} {xs : List Value}, w.ownsRow B e z u n xs → e ≠ t → w'.ownsRow B e z u n xs := fun hu he => own_kb hu hk (fun g e1 e2 => by
    obtain ⟨c1, h1, hb⟩ := own_block hu e1
    subst e2
    rw [hO] at h1
    simp only [Option.some.injEq, Obj.cells.injEq] at h1
    exact he h1.2.1.symm)
  exact ⟨h.len, hne h.row (fun e => h1 e.symm), fun k hk => hne (h.lists k hk) (fun e => h2 e.symm)⟩
theorem OwnTs.keep {w w' : World} {B X : Nat} {v : Value} {ts : List Nd} {ls : List Value} (h : OwnTs w B v ts ls) (hk : KB (fun k => X ≤ k) w w') (hX : w.heap.size ≤ X) : OwnTs w' B v ts ls :=
  h.kb hk (fun g _ h2 e => by omega)
theorem KB.up {X : Nat} {a b c : World} (h : KB F0 a b) (k : KB (fun i => X ≤ i) b c) (hX : a.heap.size ≤ X) : KB F0 a c := h.above k (fun _i hi => Nat.le_trans hX hi)
theorem ints_one {l : List Int} : ∀ u ∈ ints l, u.oneCell' = true := fun u hu => by
  obtain ⟨x, -, rfl⟩ := List.mem_map.1 hu
  rfl
/-- A result that lies in a cell. -/
theorem ret_cell {fn : Func} {R : Ending → World → Prop} {a : Act} {w : World} {p X : Nat} {v : Value} (h : fn.results = #[.cell p 24]) (hp : a.tmps.getD p undef = .pointer (some ⟨X, 0, none⟩))
    (hc : w.cell? ⟨X, 0, none⟩ = some v) (hd : a.defers = []) (hR : R (.returned (.agg #[v])) w) : bodyPost Tryz.prog fn R .ret a w := by
  refine bodyPost_ret (v := .agg #[v]) ?_ hd hR
  have hp' : a.tmps[p]?.getD undef = .pointer (some ⟨X, 0, none⟩) := by simpa using hp
  simp only [results, h]
  go_simp
theorem run_append_owned_none2 {P : Program} {w : World} (base : Nat) (t ty e : TypeId) (i : TypeInfo) (size : Nat) (ht : P.underlying t = some (.slice e)) (hi : P.info? e = some i)
    (v : Value) (n : Nat) (xs : List Value) (c : Nat) (hown : w.ownsRow base e size v n xs) : (Builtin.append_ #[t, t] ty #[v, .slice none 0 c]).run P w = .ok v w := by
  rcases hown.2 with ⟨rfl, rfl⟩ | ⟨g, cap, cur, rfl, -, -, hnc, -⟩
  · simp [Builtin.append_, run_underlying ht, sizeOf, typeInfo, hi, Builtin.lenOf, Builtin.firstCells]
  · simp [Builtin.append_, run_underlying ht, sizeOf, typeInfo, hi, Builtin.lenOf, Builtin.firstCells, hnc, storeCells]
/-- A list copied: 'append([]int(nil), l...)'. -/
theorem wpList_append_copy {P : Program} {ops : Array Oper} {rest : List Oper} {o : Oper} {a : Act} {Q : Exit → Act → World → Prop} {w : World} (t e : TypeId) (base : Nat) {bytes : Nat}
    (hinfo : (P.info? e).map (fun i => (i.zero, i.size, i.bytes)) = some (some (.int .i64 0), 1, bytes)) (ht : P.underlying t = some (.slice e)) {s x : Operand} {la : Option Addr} {M lc : Nat} (hgd : o.guard = none)
    (ho : o.op = .call { callee := .builtin .append, args := #[s, x], argTypes := #[t, t] }) (hs : a.eval s = .slice none 0 0) (hx : a.eval x = .slice la M lc) (l : List Int) (hM : M = l.length) (hl : IntsAt w la l) (hb : M ≤ 20000) (hbase : base ≤ w.heap.size)
    (h : ∀ lv w', w'.ownsRow base e 1 lv M (ints l) → KB F0 w w' → wpList P ops Q rest (a.put o.dst lv) w') (hby : bytes ≤ 8 := by decide) : wpList P ops Q (o :: rest) a w := by
  obtain ⟨i, hi, hz0, hz1, hz2⟩ := info_parts hinfo
  have hnil : w.ownsRow base e 1 (.slice none 0 0) 0 [] := World.ownsRow_nil _ _ _ _
  by_cases h0 : M = 0
  · subst h0
    have e1 : l = [] := List.eq_nil_of_length_eq_zero hM.symm
    subst e1
    cases la with
    | none =>
      refine wpList_plain hgd fun K hK => ?_
      have hrun := run_append_owned_none2 (P := P) (w := w) base t o.type e i 1 ht hi _ 0 [] lc hnil
      unfold Oper.wp
      simp [execOp, ho, resolve, invoke, builtin, hs, hx, hrun, Result.andThen]
      exact hK _ _ (h _ _ hnil (KB.refl _ _))
    | some p =>
      refine wpList_append_own w hgd s x t ho base e i _ 1 bytes ht hi hz0 hz1 hz2 rfl (by decide) _ 0 [] hs hnil p 0 lc [] hx rfl (fun j u hj => by simp at hj) (fun u hu => by cases hu) (by unfold maxLen; omega) (by simp) hbase ?_
      intro v' w' h1 h2 _
      exact h v' w' h1 (KB.of_grown h2 (fun k e => by cases e))
  · obtain ⟨b, off, rfl, -⟩ := hl 0 (by omega)
    refine wpList_append_own w hgd s x t ho base e i _ 1 bytes ht hi hz0 hz1 hz2 rfl (by decide) _ 0 [] hs hnil ⟨b, off, none⟩ M lc (ints l) hx (by rw [ints_len]; omega) (fun j u hj => ?_) ints_one (by unfold maxLen; omega) (by have : M * bytes ≤ 20000 * 8 := Nat.mul_le_mul hb hby; rw [Nat.zero_add]; omega) hbase ?_
    · have hjl : j < l.length := by
        have := (List.getElem?_eq_some_iff.1 hj).1
        rwa [ints_len] at this
      obtain ⟨b', off', e, hc⟩ := hl j hjl
      simp only [Option.some.injEq, Addr.mk.injEq, and_true] at e
      obtain ⟨rfl, rfl⟩ := e
      rw [ints_get hjl] at hj
      obtain rfl := Option.some.inj hj
      rw [show ((⟨b, off, none⟩ : Addr).add j) = ⟨b, off + j, none⟩ by unfold Addr.add; split <;> simp_all]
      exact hc
    · intro v' w' h1 h2 _
      rw [Nat.zero_add, List.nil_append] at h1
      exact h v' w' h1 (KB.of_grown h2 (fun k e => by cases e))
set_option maxRecDepth 100000 in
set_option maxHeartbeats 8000000 in
theorem cown_any (ts : List Nd) (hlen : ts.length ≤ 100000) (hlens : ∀ x ∈ ts, x.l.length ≤ 20000) (a : Option Addr) (cap : Nat) (w : World) (hts : NodesAt w a ts) :
    Calls Tryz.prog 10 #[.agg #[.slice a ts.length cap]] w fun e w' => ∃ v ls, e = .returned (.agg #[v]) ∧ OwnTs w' w.heap.size v ts ls ∧ KB F0 w w' := by
  obtain ⟨w0, rfl⟩ : ∃ w0, w0 = w := ⟨_, rfl⟩
  obtain ⟨N, hN⟩ : ∃ N, N = ts.length := ⟨_, rfl⟩
  have HTS := Lib.hid (And.intro hts hlens)
  rw [← hN] at hlen ⊢
  have HN := Lib.hid hN
  have hs0 : (w0.alloc (.cells #[.slice a N cap] 24)).heap.size = w0.heap.size + 1 := by simp
  have hs1 : ((w0.alloc (.cells #[.slice a N cap] 24)).alloc (.cells #[.slice none 0 0] 24)).heap.size = w0.heap.size + 1 + 1 := by simp
  obtain ⟨W1, hW1⟩ : ∃ W1, W1 = (((w0.alloc (.cells #[.slice a N cap] 24)).alloc (.cells #[.slice none 0 0] 24)).alloc (.cells #[.slice none 0 0] 24)) := ⟨_, rfl⟩
  have k1 : KB F0 w0 W1 := by rw [hW1]; exact (((KB.refl _ _).alloc _).alloc _).alloc _
  have h0h : W1.heap[w0.heap.size]? = some (.cells #[.slice a N cap] 24 (0, 0)) := by
    rw [hW1]; exact (((KB.refl F0 _).alloc _).alloc _).heap (fun x => x) (alloc_new _ _)
  have h1h : W1.heap[w0.heap.size + 1]? = some (.cells #[.slice none 0 0] 24 (0, 0)) := by
    rw [hW1, ← hs0]; exact ((KB.refl F0 _).alloc _).heap (fun x => x) (alloc_new _ _)
  have h2h : W1.heap[w0.heap.size + 1 + 1]? = some (.cells #[.slice none 0 0] 24 (0, 0)) := by
    rw [hW1, ← hs1]; exact alloc_new _ _
  have H1 := Lib.hid (And.intro k1 (And.intro h0h (And.intro h1h h2h)))
  have HW1 := Lib.hid hW1
  clear hts hlens hN k1 h0h h1h h2h hs0 hs1 hW1
  go_enter Tryz.func10, Tryz.ntmps10
  go_wp2_with fail
  rw [← HW1.out]
  go_loopw [4] (fun iv wr => ∃ (i : Nat) (v : Value) (ls : List Value), i ≤ N ∧ iv = .int .i64 i ∧ OwnTs wr w0.heap.size v (ts.take i) ls ∧ wr.heap[w0.heap.size + 1 + 1]? = some (.cells #[v] 24 (0, 0)) ∧
    wr.heap[w0.heap.size]? = some (.cells #[.slice a N cap] 24 (0, 0)) ∧ wr.heap[w0.heap.size + 1]? = some (.cells #[.slice none 0 0] 24 (0, 0)) ∧ KB F0 w0 wr) (fun iv _ => N - (intOf iv).toNat)
  case atStart => exact ⟨0, _, [], by omega, rfl, ownTs_nil _ _, H1.out.2.2.2, H1.out.2.1, H1.out.2.2.1, H1.out.1⟩
  case round =>
    obtain ⟨i, v, ls, hi1, rfl, hown, hO, hA, hB, hkb⟩ := hrel
    have b0 : wr.cell? ⟨w0.heap.size, 0, none⟩ = some (.slice a N cap) := blk_cell hA 0
    by_cases hlt : i < N
    · obtain ⟨b, off, rfl, hnd0⟩ := HTS.out.1 i (by rw [← HN.out]; exact hlt)
      have hxl := HTS.out.2 _ (getD_memN (ts := ts) (k := i) (by rw [← HN.out]; exact hlt))
      have htk : Hid (ts.take (i + 1) = ts.take i ++ [ts.getD i nd0]) := Lib.hid (take_getD (by rw [← HN.out]; exact hlt))
      have hdl : (ts.take i).length = i := by rw [List.length_take, ← HN.out, Nat.min_eq_left hi1]
      generalize ts.getD i nd0 = x at hnd0 hxl htk
      obtain ⟨done, hdone⟩ : ∃ done, done = ts.take i := ⟨_, rfl⟩
      rw [← hdone] at hown htk hdl
      clear hdone
      have hnd := hnd0.kbF hkb
      have c0 := hnd.k
      have c1 := hnd.at_
      have c2 := hnd.n
      have c3 := hnd.s
      obtain ⟨la, lc, hl4, hints, hlc, hlm⟩ := hnd.l
      obtain ⟨M, hM⟩ : ∃ M, M = x.l.length := ⟨_, rfl⟩
      rw [← hM] at hl4 hlc hxl
      have HM := Lib.hid hM
      unfold maxLen at hlm
      have HK := Lib.hid (And.intro hown (And.intro hO (And.intro hA (And.intro hB (And.intro hkb hints)))))
      have hiN : (i : Int) < (N : Int) := by omega
      clear hown hO hA hB hkb hnd hnd0 hints hM
      have kV : KB F0 wr (wr.alloc (.cells #[.int .u8 (x.k : Nat), .int .i64 x.at_, .int .i64 x.n, .string x.s, .slice none 0 0] 44)) := (KB.refl _ _).alloc _
      have hX := alloc_new wr (.cells #[.int .u8 (x.k : Nat), .int .i64 x.at_, .int .i64 x.n, .string x.s, .slice none 0 0] 44)
      have b0v := kV.cell (p := ⟨w0.heap.size, 0, none⟩) (fun x => x) b0
      have l4v := kV.cell (p := ⟨b, off + i * 5 + 4, none⟩) (fun x => x) hl4
      have HV := Lib.hid (And.intro kV hX)
      go_wp2_with fail
      obtain ⟨V, hV⟩ : ∃ V, V = wr.alloc (.cells #[.int .u8 (x.k : Nat), .int .i64 x.at_, .int .i64 x.n, .string x.s, .slice none 0 0] 44) := ⟨_, rfl⟩
      have hVs : V.heap.size = wr.heap.size + 1 := by rw [hV]; simp
      rw [← hV] at HV b0v l4v ⊢
      obtain ⟨X, hXe⟩ : ∃ X, X = wr.heap.size := ⟨_, rfl⟩
      rw [← hXe] at HV hVs ⊢
      have hOX : w0.heap.size + 1 + 1 < X := by rw [hXe]; exact heap_lt HK.out.2.1
      have x4 : V.cell? ⟨X, 4, none⟩ = some (.slice none 0 0) := blk_cell HV.out.2 4
      have HXe := Lib.hid hXe
      clear hV hX kV b0 hl4 c0 c1 c2 c3 hXe
      refine wp_region_rv 8 GQ (kindV []) (by kernel_rfl) (by kernel_rfl) GQ.trans GQ.refl (GQ.start _) (kindV_mono _) ?_
      simp only [List.take_succ_cons, List.take_zero, List.drop_succ_cons, List.drop_zero]
      iterate 8 (refine rv_det (by kernel_rfl) rfl (by intro w hG hH; obtain ⟨n, rfl⟩ := hG; go_simp; first | done | with_reducible rfl) ?_; simp only [Act.put, List.setIfInBounds_toArray, List.set_cons_zero, List.set_cons_succ])
      refine rv_nil (fun w hG hH => ?_)
      obtain ⟨n, rfl⟩ := hG
      clear hH
      have HW := Lib.hid (And.intro (HV.out.1.drewN n) (show (V.drewN n).heap[X]? = _ from HV.out.2))
      have hVn : (V.drewN n).heap.size = X + 1 := hVs
      obtain ⟨U, hU⟩ : ∃ U, U = V.drewN n := ⟨_, rfl⟩
      rw [← hU] at HW hVn ⊢
      clear hU b0v l4v x4 HV hVs
      have hnil : U.ownsRow (X + 1) 3 1 (.slice none 0 0) 0 [] := World.ownsRow_nil _ _ _ _
      go_wp2_with (at_builtin; refine Stopped.out ?_)
      refine ⟨?_⟩
      -- the copy of the list
      refine wpList_append_copy 42 3 (X + 1) Tryz.infoInt Tryz.underlying42 rfl rfl rfl rfl x.l (by rw [HM.out]) (HK.out.2.2.2.2.2.kbF HW.out.1) hxl (by omega) ?_
      intro lv w' hlv hkc
      have hXw := hkc.heap (fun x => x) HW.out.2
      obtain ⟨lva, lvc, rfl, -⟩ := own_shape hlv
      have y4 : w'.cell? ⟨X, 4, none⟩ = some (.slice none 0 0) := blk_cell hXw 4
      have y4f := blk_frozen hXw 4
      have ks := kb_set w' X 4 (.slice lva M lvc)
      have hX2 := setCell_blk (i := 4) hXw (.slice lva M lvc)
      have kAll : KB (fun k => X ≤ k) wr (w'.setCell ⟨X, 4, none⟩ (.slice lva M lvc)) := ((HW.out.1.trans hkc).mono (fun _ _ x => x.elim)).trans (ks.mono (fun k _ e => by rw [e]; exact Nat.le_refl _))
      have hlv2 := own_kb hlv ks (fun g e1 e2 => by
        obtain ⟨cu, h1, h2⟩ := own_block hlv e1
        omega)
      have kO := HK.out.2.2.2.2.1.up kAll (by rw [HXe.out]; exact HK.out.2.2.2.2.1.size)
      have hown4 := HK.out.1.keep kAll (by rw [HXe.out]; exact Nat.le_refl _)
      have hOh := kAll.heap (b := w0.heap.size + 1 + 1) (fun (h : X ≤ w0.heap.size + 1 + 1) => by omega) HK.out.2.1
      have hAh := kAll.heap (b := w0.heap.size) (fun (h : X ≤ w0.heap.size) => by omega) HK.out.2.2.1
      have hBh := kAll.heap (b := w0.heap.size + 1) (fun (h : X ≤ w0.heap.size + 1) => by omega) HK.out.2.2.2.1
      have hlvx := own_base (B' := w0.heap.size) hlv2 (by omega)
      have HQ := Lib.hid (And.intro hown4 (And.intro hOh (And.intro hAh (And.intro hBh (And.intro kO (And.intro hlvx hX2))))))
      clear hlv hkc hXw ks hX2 kAll hlv2 kO hown4 hOh hAh hBh hlvx hnil
      obtain ⟨W9, hW9⟩ : ∃ W9, W9 = w'.setCell ⟨X, 4, none⟩ (.slice lva M lvc) := ⟨_, rfl⟩
      rw [← hW9] at HQ
      have x0 : W9.cell? ⟨X, 0, none⟩ = some (.int .u8 (x.k : Nat)) := blk_cell HQ.out.2.2.2.2.2.2 0
      have x1 : W9.cell? ⟨X, 1, none⟩ = some (.int .i64 x.at_) := blk_cell HQ.out.2.2.2.2.2.2 1
      have x2 : W9.cell? ⟨X, 2, none⟩ = some (.int .i64 x.n) := blk_cell HQ.out.2.2.2.2.2.2 2
      have x3 : W9.cell? ⟨X, 3, none⟩ = some (.string x.s) := blk_cell HQ.out.2.2.2.2.2.2 3
      have x4 : W9.cell? ⟨X, 4, none⟩ = some (.slice lva M lvc) := blk_cell HQ.out.2.2.2.2.2.2 4
      have c0O : W9.cell? ⟨w0.heap.size + 1 + 1, 0, none⟩ = some v := blk_cell HQ.out.2.1 0
      have hws := HQ.out.2.2.2.2.1.size
      have HW9 := Lib.hid hW9
      rw [hW9] at x0 x1 x2 x3 x4 c0O hws
      clear hW9
      go_wp2_with (at_builtin; refine Stopped.out ?_)
      refine ⟨?_⟩
      rw [← HW9.out]
      rw [← HW9.out] at hws
      have ka : KB F0 W9 (W9.alloc (.cells #[.int .u8 (x.k : Nat), .int .i64 x.at_, .int .i64 x.n, .string x.s, .slice lva M lvc] 44)) := (KB.refl _ _).alloc _
      have hxlen : x.l.length = M := HM.out.symm
      have HO := Lib.hid (And.intro (HQ.out.1.kbF ka) (own_kb HQ.out.2.2.2.2.2.1 ka (fun _ _ x => x)))
      have hsV : (w'.setCell ⟨X, 4, none⟩ (.slice lva M lvc)).heap.size = W9.heap.size := by rw [HW9.out]
      refine appRow 22 44 w0.heap.size (ndCells x (.slice lva M lvc)) Tryz.infoNode Tryz.underlying22 rfl (by decide) HO.out.1.row rfl rfl rfl rfl (by first | exact alloc_new _ _ | (rw [← hsV]; exact alloc_new _ _) | (have e9 := alloc_new W9 (.cells (ndCells x (.slice lva M lvc)).toArray 44); rw [← hsV] at e9; simpa [World.setCell, ndCells] using e9)) rfl
        (by intro u hu; simp [ndCells] at hu; rcases hu with rfl | rfl | rfl | rfl | rfl <;> rfl) (by unfold maxLen; omega) (by omega) (by simp; omega) ?_
      intro v' w2 hown' hgr
      have hpush := HO.out.1.push (x := x) (by rw [hxlen]; exact HO.out.2) hown' hgr
      have hk' := (HQ.out.2.2.2.2.1.trans ka).grown hgr (fun g e h => by
        obtain ⟨-, -, hb⟩ := own_block HO.out.1.row e
        omega)
      have hgo : ∀ {g : Nat} {cs : Array Value}, W9.heap[g]? = some (.cells cs 24 (0, 0)) → w2.heap[g]? = some (.cells cs 24 (0, 0)) := fun {g cs} hg => by
        have hg2 := ka.heap (fun x => x) hg
        rw [hgr.block g (heap_lt hg2) (fun e => by
          obtain ⟨cu, h1, -⟩ := own_block HO.out.1.row e.symm
          rw [hg2] at h1; cases h1)]
        exact hg2
      have hO7 := hgo HQ.out.2.1
      have hA7 := hgo HQ.out.2.2.1
      have hB7 := hgo HQ.out.2.2.2.1
      rw [← htk.out] at hpush
      obtain ⟨a7, c7, rfl, -⟩ := own_shape hown'
      have k8 := kb_set w2 (w0.heap.size + 1 + 1) 0 (.slice a7 (done.length + 1) c7)
      have hown9 := hpush.other k8 hO7 (by decide) (by decide)
      have hO8 := setCell_blk (i := 0) hO7 (.slice a7 (done.length + 1) c7)
      have hA8 := k8.heap (b := w0.heap.size) (fun e => by omega) hA7
      have hB8 := k8.heap (b := w0.heap.size + 1) (fun e => by omega) hB7
      have hkb8 := hk'.setCell (p := ⟨w0.heap.size + 1 + 1, 0, none⟩) (fun h => by
        have h1 : w0.heap.size + 1 + 1 < w0.heap.size := h; omega) (.slice a7 (done.length + 1) c7)
      have c7O : w2.cell? ⟨w0.heap.size + 1 + 1, 0, none⟩ = some v := blk_cell hO7 0
      have f7O := blk_frozen hO7 0
      have HP := Lib.hid (And.intro hown9 (And.intro hO8 (And.intro hA8 (And.intro hB8 hkb8))))
      clear hpush hk' hown' hgr HO ka x0 x1 x2 x3 x4 c0O hO7 hA7 hB7 k8 hown9 hO8 hA8 hB8 hkb8 hgo hsV y4 y4f
      go_wp2
      go_roundw
      case rel =>
        have H9 := HP.out
        rw [hdl] at H9
        exact ⟨i + 1, _, _, by omega, by go_num, H9.1, H9.2.1, H9.2.2.1, H9.2.2.2.1, H9.2.2.2.2⟩
      case measure => simp [intOf]; omega
    · obtain rfl : i = N := by omega
      have hts : ts.take i = ts := List.take_of_length_le (by rw [← HN.out]; exact Nat.le_refl _)
      rw [hts] at hown
      obtain ⟨va, vc, rfl, -⟩ := hown.nodes
      have c0O : wr.cell? ⟨w0.heap.size + 1 + 1, 0, none⟩ = some (.slice va ts.length vc) := blk_cell hO 0
      have b1 : wr.cell? ⟨w0.heap.size + 1, 0, none⟩ = some (.slice none 0 0) := blk_cell hB 0
      have hfz := blk_frozen hB 0
      have Hc1 := Lib.hid (World.cell?_setCell_same wr ⟨w0.heap.size + 1, 0, none⟩ (.slice va ts.length vc) b1)
      have HF := Lib.hid (And.intro (hown.other (kb_set wr (w0.heap.size + 1) 0 (.slice va ts.length vc)) hB (by decide) (by decide)) (hkb.setCell (p := ⟨w0.heap.size + 1, 0, none⟩) (fun h => by
        have h1 : w0.heap.size + 1 < w0.heap.size := h; omega) (.slice va ts.length vc)))
      clear hown hO hB hkb hA
      go_wp2
      (try simp only [Exit.inBlock, Exit.then])
      refine ret_cell rfl rfl Hc1.out rfl ?_
      exact ⟨_, ls, rfl, HF.out.1, HF.out.2⟩
end Go.Proofs.YtoophdcagpfmpaaGreatDoor
