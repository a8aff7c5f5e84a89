/- loanwordref03.Join. -/
import Derived.Test.YtjefoojkgocinaaDoorTrJoin
import Derived.Test.YtjefoojkgocinaaDoorTrCSub
namespace Go.Proofs.YtjefoojkgocinaaDoor
open Go.RowKit

theorem shN_len (d : Int) (x : Nd) : (shN d x).l.length = x.l.length := by simp [shN]
theorem OwnTs.apart {w w' : World} {B B2 n : Nat} {v l0 : Value} {ts : List Nd} {ls xs : List Value} (h : OwnTs w B v ts ls) (hl : w.ownsRow B2 3 1 l0 n xs) (hap : Apart l0 ls) (hk : KB (fun k => l0.ownBlock = some k) w w') : OwnTs w' B v ts ls :=
  ⟨h.len, own_kb h.row hk (fun g e1 e2 => by
    obtain ⟨c1, h1, -⟩ := own_block h.row e1
    obtain ⟨c2, h2, -⟩ := own_block hl e2
    rw [h1] at h2; cases h2), fun k hk' => own_kb (h.lists k hk') hk (fun g e1 e2 => by
    have hkl : k < ls.length := by rw [h.len]; exact hk'
    exact hap _ (by rw [List.getD_eq_getElem?_getD, List.getElem?_eq_getElem hkl]; exact List.getElem_mem hkl) g e1 e2)⟩
theorem OwnTs.listLt {w : World} {B g : Nat} {v u : Value} {ts : List Nd} {ls : List Value} (h : OwnTs w B v ts ls) (hu : u ∈ ls) (hg : u.ownBlock = some g) : g < w.heap.size := by
  obtain ⟨p, hp, rfl⟩ := List.getElem_of_mem hu
  have h4 := h.lists p (by rw [← h.len]; exact hp)
  have e5 : ls.getD p undef = ls[p] := by simp [List.getD_eq_getElem?_getD, hp]
  rw [e5] at h4
  obtain ⟨cu, h5, -⟩ := own_block h4 hg
  exact heap_lt h5
theorem OwnTs.nodesAt {W : World} {B c n : Nat} {a : Option Addr} {ts : List Nd} {ls : List Value} (h : OwnTs W B (.slice a n c) ts ls) : NodesAt W a ts := by
  obtain ⟨a', c', e, hn, -⟩ := h.nodes
  simp only [Value.slice.injEq] at e
  obtain ⟨rfl, -, -⟩ := e
  exact hn
/-- The root written anew. -/
theorem OwnTs.setRoot {w : World} {B g n cap : Nat} {r x : Nd} {rest : List Nd} {l0 : Value} {ls : List Value} (h : OwnTs w B (.slice (some ⟨g, 0, none⟩) n cap) (r :: rest) ls) (hl : w.ownsRow B 3 1 l0 x.l.length (ints x.l)) :
    ∃ cur u0 ls', w.heap[g]? = some (.cells cur 25 (0, 0)) ∧ (w.cell? ⟨g, 0, none⟩ = some (.int .u8 (r.k : Nat)) ∧ w.cell? ⟨g, 1, none⟩ = some (.int .i64 r.at_) ∧ w.cell? ⟨g, 2, none⟩ = some (.int .i64 r.n) ∧ w.cell? ⟨g, 3, none⟩ = some (.string r.s) ∧ w.cell? ⟨g, 4, none⟩ = some u0) ∧
      OwnTs (((((w.setCell ⟨g, 0, none⟩ (.int .u8 (x.k : Nat))).setCell ⟨g, 1, none⟩ (.int .i64 x.at_)).setCell ⟨g, 2, none⟩ (.int .i64 x.n)).setCell ⟨g, 3, none⟩ (.string x.s)).setCell ⟨g, 4, none⟩ l0) B (.slice (some ⟨g, 0, none⟩) n cap) (x :: rest) (l0 :: ls') ∧
      KB (fun k => k = g) w (((((w.setCell ⟨g, 0, none⟩ (.int .u8 (x.k : Nat))).setCell ⟨g, 1, none⟩ (.int .i64 x.at_)).setCell ⟨g, 2, none⟩ (.int .i64 x.n)).setCell ⟨g, 3, none⟩ (.string x.s)).setCell ⟨g, 4, none⟩ l0) := by
  obtain ⟨u0, ls', rfl⟩ : ∃ u0 ls', ls = u0 :: ls' := by
    have := h.len
    cases ls with
    | nil => cases this
    | cons u l => exact ⟨u, l, rfl⟩
  obtain ⟨hr1, hr2⟩ := h.row
  rcases hr2 with ⟨hr2, -⟩ | ⟨g', cap', cur, hv, hb, hh, hcap, hm, hsz, hx⟩
  · cases hr2
  simp only [Value.slice.injEq, Option.some.injEq, Addr.mk.injEq, and_true] at hv
  obtain ⟨rfl, rfl, rfl⟩ := hv
  have e0 : List.take ((r :: rest).length * 5) cur.toList = rowCells (r :: rest) (u0 :: ls') := hx
  have hc : ∀ i, i < 5 → w.cell? ⟨g, i, none⟩ = (ndCells r u0)[i]? := fun i hi => by
    rw [blk_cell hh i, ← Array.getElem?_toList]
    have e := congrArg (fun l => l[i]?) e0
    simp only [List.getElem?_take] at e
    rw [if_pos (by simp; omega)] at e
    rw [e]
    simp only [rowCells]
    rw [List.getElem?_append_left (by simp [ndCells]; omega)]
  have k0 := ((((kb_set w g 0 (.int .u8 (x.k : Nat))).trans (kb_set _ g 1 (.int .i64 x.at_))).trans (kb_set _ g 2 (.int .i64 x.n))).trans (kb_set _ g 3 (.string x.s))).trans (kb_set _ g 4 l0)
  have hh5 := setCell_blk (i := 4) (setCell_blk (i := 3) (setCell_blk (i := 2) (setCell_blk (i := 1) (setCell_blk (i := 0) hh (.int .u8 (x.k : Nat))) (.int .i64 x.at_)) (.int .i64 x.n)) (.string x.s)) l0
  have hkeep : ∀ {u : Value} {m : Nat} {xs : List Value}, w.ownsRow B 3 1 u m xs → (((((w.setCell ⟨g, 0, none⟩ (.int .u8 (x.k : Nat))).setCell ⟨g, 1, none⟩ (.int .i64 x.at_)).setCell ⟨g, 2, none⟩ (.int .i64 x.n)).setCell ⟨g, 3, none⟩ (.string x.s)).setCell ⟨g, 4, none⟩ l0).ownsRow B 3 1 u m xs := fun hu => own_kb hu k0 (fun g1 e1 e2 => by
    obtain ⟨c1, h1, -⟩ := own_block hu e1
    subst e2
    rw [hh] at h1; cases h1)
  refine ⟨cur, u0, ls', hh, ⟨hc 0 (by omega), hc 1 (by omega), hc 2 (by omega), hc 3 (by omega), hc 4 (by omega)⟩, ⟨by have := h.len; simpa using this, ⟨by rw [rowCells_len _ _ (by have := h.len; simpa using this)], Or.inr ⟨g, cap, _, by simp, hb, hh5, hcap, hm, by simpa using hsz, ?_⟩⟩, ?_⟩, k0⟩
  · simp only [Array.toList_setIfInBounds, List.take_set]
    rw [show (x :: rest : List Nd).length * 5 = (r :: rest).length * 5 by simp, e0]
    simp [rowCells, ndCells]
  · intro k hk'
    cases k with
    | zero => exact hkeep hl
    | succ k =>
      have h0 := h.lists (k + 1) (by simpa using hk')
      simp only [List.getD_cons_succ] at h0 ⊢
      exact hkeep h0
/-- As app1; what is known of the new slice's block too. -/
theorem app1F {P : Program} {ops : Array Oper} {rest : List Oper} {o : Oper} {a : Act} {Q : Exit → Act → World → Prop} {w : World} (t e : TypeId) (base : Nat) (u : Value) {z : Value} {bytes : Nat}
    (hinfo : (P.info? e).map (fun i => (i.zero, i.size, i.bytes)) = some (some z, 1, bytes)) (ht : P.underlying t = some (.slice e)) (hz : z.cells.size = 1)
    {v : Value} {n : Nat} {xs : List Value} (hown : w.ownsRow base e 1 v n xs) {s x : Operand} {nb c : Nat} {te : TypeId} (hgd : o.guard = none)
    (ho : o.op = .call { callee := .builtin .append, args := #[s, x], argTypes := #[t, t] }) (hs : a.eval s = v)
    (hx : a.eval x = .slice (some ⟨nb, 0, none⟩) 1 c) (hu : w.heap[nb]? = some (.cells #[u] te (0, 0))) (h1 : u.oneCell' = true) (h63 : n + 1 ≤ maxLen) (hbytes : (n + 1) * bytes ≤ 140737488355328) (hbase : base ≤ w.heap.size)
    (h : ∀ v' w', FA base w.heap.size e v (n + 1) (xs ++ [u]) v' w' → GA base e v (n + 1) (xs ++ [u]) w w' → wpList P ops Q rest (a.put o.dst v') w') : wpList P ops Q (o :: rest) a w := by
  obtain ⟨v', w', hr, h2, h3⟩ := run_append_two (P := P) w base w.heap.size (Nat.le_refl _) t o.type e hinfo ht hz v n xs hown ⟨nb, 0, none⟩ c u (cells_of_block (us := [u]) hu) h1 h63 hbytes hbase
  refine wpList_plain hgd fun K hK => ?_
  unfold Oper.wp
  simp [execOp, ho, resolve, invoke, builtin, hs, hx, hr, Result.andThen]
  exact hK _ _ (h _ _ h2 h3)
set_option maxRecDepth 100000 in
set_option maxHeartbeats 8000000 in
theorem cjoin_any (x : Nd) (hx : NdOk x) (xa : Option Addr) (xl xc : Nat) (l : List (List Nd)) (hl : l.length ≤ 1000) (hll : ∀ c ∈ l, c.length ≤ 20000) (hok : NdOks l) (a : Option Addr) (cap : Nat) (w : World) (hts : TreesAt w a l) (hT : Tab w) :
    Calls Tryd.prog 12 #[.agg #[.int .u8 (x.k : Nat), .int .i64 x.at_, .int .i64 x.n, .string x.s, .slice xa xl xc], .slice a l.length cap] w
      fun e w' => ∃ v ls, e = .returned (.tuple #[.agg #[v], .int .i64 (joinE x l : Nat)]) ∧ OwnTs w' w.heap.size v (joinT x l) ls ∧ KB F0 w w' := by
  obtain ⟨w0, rfl⟩ : ∃ w0, w0 = w := ⟨_, rfl⟩
  obtain ⟨N, hN⟩ : ∃ N, N = l.length := ⟨_, rfl⟩
  have hsz := sizes_le hll
  rw [← hN] at hl hsz ⊢
  have HN := Lib.hid hN
  obtain ⟨W1, hW1⟩ : ∃ W1, W1 = ((w0.alloc (.cells #[.int .u8 (x.k : Nat), .int .i64 x.at_, .int .i64 x.n, .string x.s, .slice xa xl xc] 25)).alloc (.cells #[.slice none 0 0] 31)) := ⟨_, rfl⟩
  have k1 : KB F0 w0 W1 := by rw [hW1]; exact ((KB.refl _ _).alloc _).alloc _
  have hs0 : (w0.alloc (.cells #[.int .u8 (x.k : Nat), .int .i64 x.at_, .int .i64 x.n, .string x.s, .slice xa xl xc] 25)).heap.size = w0.heap.size + 1 := by simp
  have b0 : W1.heap[w0.heap.size]? = some (.cells #[.int .u8 (x.k : Nat), .int .i64 x.at_, .int .i64 x.n, .string x.s, .slice xa xl xc] 25 (0, 0)) := by
    rw [hW1]; exact ((KB.refl F0 _).alloc _).heap (fun x => x) (alloc_new _ _)
  have b1 : W1.heap[w0.heap.size + 1]? = some (.cells #[.slice none 0 0] 31 (0, 0)) := by
    rw [hW1, ← hs0]; exact alloc_new _ _
  have hs1 : W1.heap.size = w0.heap.size + 2 := by rw [hW1]; simp
  have H1 := Lib.hid (And.intro k1 (And.intro b0 (And.intro b1 hs1)))
  have HW1 := Lib.hid hW1
  have HTS := Lib.hid (And.intro hts (And.intro hT (And.intro hok hll)))
  obtain ⟨R, hR⟩ : ∃ R, R = joinT x l := ⟨_, rfl⟩
  obtain ⟨E, hE⟩ : ∃ E, E = joinE x l := ⟨_, rfl⟩
  rw [← hR, ← hE]
  have HR := Lib.hid (And.intro hR hE)
  have Hsz := Lib.hid hsz
  have hszb : sizes l ≤ 20000000 := Nat.le_trans hsz (by omega)
  clear hts hT hok hN hR hE k1 b0 b1 hs1 hs0 hW1 hsz hll
  go_enter Tryd.func12, Tryd.ntmps12
  go_wp2_with fail
  rw [← HW1.out]
  go_loopw [6] (fun kv wr => ∃ k : Nat, k ≤ N ∧ kv = .int .i64 k ∧ KB F0 W1 wr ∧ Hid (∀ c ∈ l.take k, mayN c = true)) (fun kv _ => N - (intOf kv).toNat)
  case atStart => exact ⟨0, by omega, rfl, KB.refl _ _, Lib.hid (fun c hc => by simp at hc)⟩
  case round =>
    obtain ⟨k, hk, rfl, hkb, hmay⟩ := hrel
    have HK := Lib.hid hkb
    clear hkb
    by_cases hlt : k < N
    · have hlt' : k < l.length := by rw [← HN.out]; exact hlt
      obtain ⟨b, off, rfl, ta, tc, hcl, hnd, hc1, hc2⟩ := HTS.out.1 k hlt'
      have hm := trees_mem hlt'
      have hcl := (H1.out.1.trans HK.out).cell (p := ⟨b, off + k, none⟩) (fun x => x) hcl
      have Hm := Lib.hid (fun (W : World) (h : KB F0 w0 W) => cmay_any (l.getD k []) (by have := HTS.out.2.2.2 _ hm; omega) (HTS.out.2.2.1 _ hm) ta tc W (hnd.kbF h) (HTS.out.2.1.kb h))
      have htk := take_getD (d := []) hlt'
      have Hall := Lib.hid (fun (h : mayN (l.getD k []) = false) => (show l.all mayN = false from by
        rw [List.all_eq_false]; exact ⟨_, hm, by rw [h]; decide⟩))
      generalize l.getD k [] = c at hcl hm Hm htk Hall hnd hc1
      obtain ⟨M, hM⟩ : ∃ M, M = c.length := ⟨_, rfl⟩
      rw [← hM] at hcl Hm hc1
      have Hmay' := Lib.hid (fun (h : mayN c = true) => (show ∀ y ∈ l.take (k + 1), mayN y = true from fun y hy => by
        rw [htk] at hy
        rcases List.mem_append.1 hy with hy | hy
        · exact hmay.out y hy
        · rw [List.mem_singleton] at hy; rw [hy]; exact h))
      clear hnd hm htk hM hmay
      generalize mayN c = m at Hm Hall Hmay'
      go_wp2_with fail
      refine (Hm.out _ (H1.out.1.trans HK.out)).mono ?_
      rintro e W2 ⟨rfl, hk2⟩
      have HK2 := Lib.hid (HK.out.trans hk2)
      clear hk2
      cases m
      · have HE : Hid (R = [] ∧ E = 2) := Lib.hid (by
          have := Hall.out rfl
          have e : joinE x l = 2 := by rw [joinE, this]; rfl
          rw [HR.out.1, HR.out.2, joinT, e]
          exact ⟨rfl, rfl⟩)
        have hb1 := HK2.out.heap (fun x => x) H1.out.2.2.1
        have b1 := blk_cell hb1 0
        have hfz := blk_frozen hb1 0
        have Hc1 := Lib.hid (World.cell?_setCell_same W2 ⟨w0.heap.size + 1, 0, none⟩ (.slice none 0 0) b1)
        have Hkf := Lib.hid ((H1.out.1.trans HK2.out).setCell (p := ⟨w0.heap.size + 1, 0, none⟩) (fun h => by
          have h1 : w0.heap.size + 1 < w0.heap.size := h; omega) (.slice none 0 0))
        clear hb1
        go_wp2
        (try simp only [Exit.inBlock, Exit.then])
        refine ret_cell_tmp rfl rfl Hc1.out rfl ?_
        exact ⟨_, [], by rw [HE.out.2]; rfl, by rw [HE.out.1]; exact ownTs_nil _ _, Hkf.out⟩
      · have hmk := Lib.hid (Hmay'.out rfl)
        go_wp2
        go_roundw
        case rel => exact ⟨k + 1, by omega, by go_num, HK2.out, hmk⟩
        case measure => simp [intOf]; omega
    · obtain rfl : k = N := by omega
      have hall : l.all mayN = true := by
        rw [List.all_eq_true]
        intro c hc
        refine hmay.out c ?_
        rw [List.take_of_length_le (by rw [← HN.out]; exact Nat.le_refl _)]; exact hc
      have Hall := Lib.hid hall
      have hb0 := HK.out.heap (fun x => x) H1.out.2.1
      have hb1 := HK.out.heap (fun x => x) H1.out.2.2.1
      have b04 := blk_cell hb0 4
      have b04f := blk_frozen hb0 4
      have hset := setCell_blk (i := 4) hb0 (.slice none 0 0)
      have y0 := blk_cell hset 0
      have y1 := blk_cell hset 1
      have y2 := blk_cell hset 2
      have y3 := blk_cell hset 3
      have y4 := blk_cell hset 4
      simp at b04 y0 y1 y2 y3 y4
      clear hmay hall
      go_wp2_with fail
      have kS := kb_set wr w0.heap.size 4 (.slice none 0 0)
      have hkS : KB F0 w0 (wr.setCell ⟨w0.heap.size, 4, none⟩ (.slice none 0 0)) := (H1.out.1.trans HK.out).setCell (p := ⟨w0.heap.size, 4, none⟩) (fun h => by
        have h1 : w0.heap.size < w0.heap.size := h; omega) _
      have hb1S := kS.heap (b := w0.heap.size + 1) (fun (e : w0.heap.size + 1 = w0.heap.size) => by omega) hb1
      obtain ⟨V, hV⟩ : ∃ V, V = wr.setCell ⟨w0.heap.size, 4, none⟩ (.slice none 0 0) := ⟨_, rfl⟩
      have hVs : V.heap.size = wr.heap.size := by rw [hV]; simp [World.setCell]
      have hset : V.heap[w0.heap.size]? = some (.cells #[.int .u8 (x.k : Nat), .int .i64 x.at_, .int .i64 x.n, .string x.s, .slice none 0 0] 25 (0, 0)) := by
        rw [hV]; exact hset
      rw [← hV] at kS hkS hb1S ⊢
      rw [← hVs]
      have hs4 : (V.alloc (.cells #[.int .u8 (x.k : Nat), .int .i64 x.at_, .int .i64 x.n, .string x.s, .slice none 0 0] 25)).heap.size = V.heap.size + 1 := by simp
      obtain ⟨W3, hW3⟩ : ∃ W3, W3 = ((V.alloc (.cells #[.int .u8 (x.k : Nat), .int .i64 x.at_, .int .i64 x.n, .string x.s, .slice none 0 0] 25)).alloc (.cells #[.slice (some ⟨V.heap.size, 0, none⟩) 1 1] 31)) := ⟨_, rfl⟩
      rw [← hW3]
      have k3 : KB F0 V W3 := by rw [hW3]; exact ((KB.refl _ _).alloc _).alloc _
      have hO : W3.heap[V.heap.size + 1]? = some (.cells #[.slice (some ⟨V.heap.size, 0, none⟩) 1 1] 31 (0, 0)) := by rw [hW3, ← hs4]; exact alloc_new _ _
      have hN3 : W3.heap[V.heap.size]? = some (.cells #[.int .u8 (x.k : Nat), .int .i64 x.at_, .int .i64 x.n, .string x.s, .slice none 0 0] 25 (0, 0)) := by
        rw [hW3]; exact ((KB.refl F0 _).alloc _).heap (fun x => x) (alloc_new _ _)
      have hvs : w0.heap.size + 2 ≤ V.heap.size := by rw [hVs, ← H1.out.2.2.2]; exact HK.out.size
      have hown0 : OwnTs W3 (w0.heap.size + 2) (.slice (some ⟨V.heap.size, 0, none⟩) 1 1) [{ x with l := [] }] [.slice none 0 0] := ⟨rfl, ⟨rfl, Or.inr ⟨V.heap.size, 1, _, rfl, hvs, hN3, Nat.le_refl _, by decide, rfl, rfl⟩⟩, fun k hk => by
        obtain rfl : k = 0 := by simp at hk; omega
        exact World.ownsRow_nil _ _ _ _⟩
      have HI := Lib.hid (And.intro hown0 (And.intro hO (And.intro (k3.heap (fun x => x) hset) (And.intro (k3.heap (fun x => x) hb1S) (hkS.trans k3)))))
      obtain ⟨O, hOe⟩ : ∃ O, O = V.heap.size + 1 := ⟨_, rfl⟩
      rw [← hOe] at HI ⊢
      have hOb : w0.heap.size + 2 ≤ O := by omega
      obtain ⟨G0, hG0⟩ : ∃ G0, G0 = V.heap.size := ⟨_, rfl⟩
      rw [← hG0] at HI ⊢
      clear hb0 hb1 b04 b04f y0 y1 y2 y3 y4 kS hkS hb1S hV hVs hs4 hW3 k3 hO hN3 hvs hown0 hOe hG0 hset
      go_loopw [9, 8] (fun kv sv wr => ∃ q : Nat, q ≤ k ∧ kv = .int .i64 q ∧ sv = .int .i64 ((1 + sizes (l.take q) : Nat) : Int) ∧ wr = W3) (fun kv _ _ => k - (intOf kv).toNat)
      case atStart => exact ⟨0, by omega, rfl, by rw [List.take_zero]; rfl, by first | trivial | rfl⟩
      case round =>
        obtain ⟨q, hq, rfl, rfl, rfl⟩ := hrel
        have hst := sizes_take_le l q
        by_cases hlt : q < k
        · have hlt' : q < l.length := by rw [← HN.out]; exact hlt
          obtain ⟨b, off, rfl, ta, tc, hcl, hnd, hc1, hc2⟩ := HTS.out.1 q hlt'
          have hcl := HI.out.2.2.2.2.cell (p := ⟨b, off + q, none⟩) (fun x => x) hcl
          have hst2 := sizes_take_le l (q + 1)
          have hsk : sizes (l.take (q + 1)) = sizes (l.take q) + (l.getD q []).length := by rw [take_getD (d := []) hlt', sizes_app]
          have Hsk := Lib.hid hsk
          rw [hsk] at hst2
          have Hlast := Lib.hid (fun (s : Nat) (h : s = sizes (l.take (q + 1))) => h)
          generalize sizes (l.take q) = sk at hst Hsk hst2
          generalize (l.getD q []).length = M at hcl hc1 Hsk hst2
          clear hnd hsk
          go_wp2
          go_roundw
          case rel => exact ⟨q + 1, by omega, by go_num, by rw [Hsk.out]; go_num, by first | trivial | rfl⟩
          case measure => simp [intOf]; omega
        · obtain rfl : q = k := by omega
          have hsl : sizes (l.take q) = sizes l := by rw [List.take_of_length_le (by rw [← HN.out]; exact Nat.le_refl _)]
          rw [hsl]
          by_cases hlong : 16384 < 1 + sizes l
          · have HE : Hid (R = [] ∧ E = 3) := Lib.hid (by
              have e : joinE x l = 3 := by rw [joinE, if_pos Hall.out, if_pos hlong]
              rw [HR.out.1, HR.out.2, joinT, e]
              exact ⟨rfl, rfl⟩)
            generalize sizes l = sl at *
            clear hsl hst
            have b1 := blk_cell HI.out.2.2.2.1 0
            have hfz := blk_frozen HI.out.2.2.2.1 0
            have Hc1 := Lib.hid (World.cell?_setCell_same wr ⟨w0.heap.size + 1, 0, none⟩ (.slice none 0 0) b1)
            have Hkf := Lib.hid (HI.out.2.2.2.2.setCell (p := ⟨w0.heap.size + 1, 0, none⟩) (fun h => by
              have h1 : w0.heap.size + 1 < w0.heap.size := h; omega) (.slice none 0 0))
            go_wp2
            (try simp only [Exit.inBlock, Exit.then])
            refine ret_cell_tmp rfl rfl Hc1.out rfl ?_
            exact ⟨_, [], by rw [HE.out.2]; rfl, by rw [HE.out.1]; exact ownTs_nil _ _, Hkf.out⟩
          · have hEc : Hid (E = chk (joinN x l)) := Lib.hid (by rw [HR.out.2, joinE, if_pos Hall.out, if_neg hlong])
            obtain ⟨sl, hsle⟩ : ∃ sl, sl = sizes l := ⟨_, rfl⟩
            rw [← hsle] at hlong hszb hst Hsz ⊢
            have Hsle := Lib.hid hsle
            have hsl16 : 1 + sl ≤ 16384 := by omega
            obtain ⟨S1, hS1⟩ : ∃ S1, S1 = 1 + sl := ⟨_, rfl⟩
            rw [← hS1] at hlong ⊢
            have hz2 : decide ((16384 : Int) < (S1 : Int)) = false := decide_eq_false (by omega)
            clear hS1 hsl hsle
            go_wp2_with fail
            go_loopw [10] (fun kv wr => ∃ (j : Nat) (v : Value) (rl : List Int) (rest : List Nd) (l0 : Value) (ls : List Value), j ≤ q ∧ kv = .int .i64 j ∧ (l.take j).foldl addT [{ x with l := [] }] = { x with l := rl } :: rest ∧ rl.length = j ∧
                OwnTs wr (w0.heap.size + 2) v ({ x with l := [] } :: rest) ls ∧ wr.ownsRow (w0.heap.size + 2) 3 1 l0 j (ints rl) ∧ Apart l0 ls ∧
                wr.heap[O]? = some (.cells #[v] 31 (0, 0)) ∧ wr.heap[w0.heap.size]? = some (.cells #[.int .u8 (x.k : Nat), .int .i64 x.at_, .int .i64 x.n, .string x.s, l0] 25 (0, 0)) ∧ wr.heap[w0.heap.size + 1]? = some (.cells #[.slice none 0 0] 31 (0, 0)) ∧ KB F0 w0 wr) (fun kv _ => q - (intOf kv).toNat)
            case atStart => exact ⟨0, _, [], [], _, _, by omega, rfl, by rw [List.take_zero]; rfl, rfl, HI.out.1, World.ownsRow_nil _ _ _ _, (fun u _ g _ e => by cases e), HI.out.2.1, HI.out.2.2.1, HI.out.2.2.2.1, HI.out.2.2.2.2⟩
            case round =>
              obtain ⟨j, v, rl, rest, l0, ls, hj, rfl, hjo, hrl, hown, hl0, hap, hO, hb0, hb1, hkb⟩ := hrel
              by_cases hlt : j < q
              · have hlt' : j < l.length := by rw [← HN.out]; exact hlt
                obtain ⟨b, off, rfl, ta, tc, hcl, hnd, hc1, hc2⟩ := HTS.out.1 j hlt'
                have hm := trees_mem hlt'
                have htk := take_getD (d := []) hlt'
                have hcs := HTS.out.2.2.2 _ hm
                have hcm := List.all_eq_true.1 Hall.out _ hm
                have hcok := HTS.out.2.2.1 _ hm
                have hln := (foldT_len (l.take j) [{ x with l := [] }] (by simp)).1
                rw [hjo] at hln
                have hst := sizes_take_le l j
                have hst2 := sizes_take_le l (j + 1)
                rw [htk, sizes_app] at hst2
                obtain ⟨c, hce⟩ : ∃ c, c = l.getD j [] := ⟨_, rfl⟩
                rw [← hce] at hcl hm htk hcs hnd hc1 hcm hcok hst2
                have hjo2 : Hid ((l.take (j + 1)).foldl addT [{ x with l := [] }] = { x with l := rl ++ [((rest.length + 1 : Nat) : Int)] } :: (rest ++ c.map (shN ((rest.length + 1 : Nat) : Int)))) := Lib.hid (by
                  rw [htk, List.foldl_append, hjo]; rfl)
                obtain ⟨M, hM⟩ : ∃ M, M = c.length := ⟨_, rfl⟩
                rw [← hM] at hcl hcs hc1 hst2
                have HM := Lib.hid hM
                obtain ⟨n, hn⟩ : ∃ n, n = rest.length + 1 := ⟨_, rfl⟩
                have hnb : n + M ≤ 16384 := by have := Hsle.out; simp at hln; omega
                have Hn := Lib.hid hn
                have hn0 : 0 < n := by omega
                rw [← hn] at hjo2
                obtain ⟨va, vc, rfl, hvn, hvc1, hvc2, hva⟩ := hown.nodes
                rw [show ({ x with l := [] } :: rest : List Nd).length = n by rw [hn]; rfl] at hO hown hvc1
                have c0O := blk_cell hO 0
                have b04 := blk_cell hb0 4
                have hcl0 := hkb.cell (p := ⟨b, off + j, none⟩) (fun x => x) hcl
                have hgood := (may_parts hcm).1
                simp at c0O b04
                unfold maxLen at hvc2
                have HC := Lib.hid (And.intro hgood (And.intro hcok hnd))
                have HO := Lib.hid (And.intro hown (And.intro hl0 (And.intro hap (And.intro hO (And.intro hb0 (And.intro hb1 hkb))))))
                have Hcl := Lib.hid hcl
                clear hnd hcm hcok hM hn hjo htk hce hln hm hown hap hO hb1 hkb hvn hva hgood hl0 hb0 hcl
                go_wp2_with (at_builtin; refine Stopped.out ?_)
                refine ⟨?_⟩
                have ka : KB F0 wr (wr.alloc (.cells #[.int .i64 n] 3)) := (KB.refl _ _).alloc _
                have hrow := alloc_new wr (.cells #[.int .i64 n] 3)
                have HA := Lib.hid (And.intro ka (own_kb HO.out.2.1 ka (fun _ _ x => x)))
                have hws := HO.out.2.2.2.2.2.2.size
                have hOwr := heap_lt HO.out.2.2.2.1
                refine app1F 23 3 (w0.heap.size + 2) (.int .i64 n) Tryd.infoInt Tryd.underlying23 rfl HA.out.2 rfl rfl rfl rfl hrow rfl (by unfold maxLen; omega) (by omega) (by simp; omega) ?_
                intro l1 w' hfa hga
                have hl1 := hfa.1
                obtain ⟨l1a, l1c, rfl, -⟩ := own_shape hl1
                have hnb2 : ∀ g, l0.ownBlock = some g → w0.heap.size + 2 ≤ g := fun g hg => by
                  obtain ⟨cu, h1, h2⟩ := own_block HO.out.2.1 hg
                  exact h2
                have hap1 : Apart (.slice l1a (j + 1) l1c) ls := fun u hu g hg e => by
                  rcases hfa.2 with h2 | h2
                  · exact HO.out.2.2.1 u hu g hg (by rw [← e, h2, inPlace_block])
                  · have h3 := (h2 g e).2
                    have h6 := HO.out.1.listLt hu hg
                    simp at h3
                    omega
                have kall := (ka.mono (S' := fun k => l0.ownBlock = some k) (fun _ _ x => x.elim)).trans hga.1
                have hown1 := HO.out.1.apart HO.out.2.1 HO.out.2.2.1 kall
                have hO1 := kall.heap (fun e => by
                  obtain ⟨cu, h1, -⟩ := own_block HO.out.2.1 e
                  rw [HO.out.2.2.2.1] at h1; cases h1) HO.out.2.2.2.1
                have hb01 := kall.heap (fun e => by have := hnb2 _ e; omega) HO.out.2.2.2.2.1
                have hb11 := kall.heap (fun e => by have := hnb2 _ e; omega) HO.out.2.2.2.2.2.1
                have ks := kb_set w' w0.heap.size 4 (.slice l1a (j + 1) l1c)
                have hkb2 := (HO.out.2.2.2.2.2.2.above kall (fun g hg => by have := hnb2 _ hg; omega)).setCell (p := ⟨w0.heap.size, 4, none⟩) (fun h => by
                  have h1 : w0.heap.size < w0.heap.size := h; omega) (.slice l1a (j + 1) l1c)
                have hl12 := own_kb hl1 ks (fun g hg e => by
                  obtain ⟨cu, h1, h2⟩ := own_block hl1 hg
                  omega)
                have hri : ints rl ++ [Value.int .i64 n] = ints (rl ++ [(n : Int)]) := by simp [ints]
                rw [hri] at hl12
                have HQ := Lib.hid (And.intro (hown1.kb ks (fun g h1 _ e => by omega)) (And.intro hl12 (And.intro hap1 (And.intro (ks.heap (b := O) (fun e => by omega) hO1) (And.intro (setCell_blk (i := 4) hb01 (.slice l1a (j + 1) l1c)) (And.intro (ks.heap (b := w0.heap.size + 1) (fun e => by omega) hb11) hkb2))))))
                have c4 := blk_cell hb01 4
                have f4 := blk_frozen hb01 4
                simp at c4
                clear ka hrow hfa hga hl1 hap1 kall hown1 hO1 hb01 hb11 ks hkb2 hl12 hri hnb2
                go_wp2_with fail
                obtain ⟨W5, hW5⟩ : ∃ W5, W5 = w'.setCell ⟨w0.heap.size, 4, none⟩ (.slice l1a (j + 1) l1c) := ⟨_, rfl⟩
                rw [← hW5] at HQ ⊢
                obtain ⟨D0, hD0⟩ : ∃ D0, D0 = ({ x with l := [] } :: rest : List Nd) := ⟨_, rfl⟩
                have hDl : D0.length = n := by rw [hD0, Hn.out]; rfl
                rw [← hD0] at HQ
                obtain ⟨rl1, hrl1⟩ : ∃ rl1, rl1 = rl ++ [(n : Int)] := ⟨_, rfl⟩
                rw [← hrl1] at HQ hjo2
                have hrl1l : rl1.length = j + 1 := by rw [hrl1]; simp [hrl]
                have HD := Lib.hid (And.intro hD0 hDl)
                clear hD0 hDl hW5 hrl1 c4 f4 c0O b04 hcl0 hvc1 hvc2 HA HO
                go_loopw [12] (fun kv wr => ∃ (p : Nat) (v : Value) (ls : List Value), p ≤ M ∧ kv = .int .i64 p ∧ OwnTs wr (w0.heap.size + 2) v (D0 ++ (c.take p).map (shN (n : Int))) ls ∧ wr.ownsRow (w0.heap.size + 2) 3 1 (.slice l1a (j + 1) l1c) (j + 1) (ints rl1) ∧ Apart (.slice l1a (j + 1) l1c) ls ∧
                    wr.heap[O]? = some (.cells #[v] 31 (0, 0)) ∧ wr.heap[w0.heap.size]? = some (.cells #[.int .u8 (x.k : Nat), .int .i64 x.at_, .int .i64 x.n, .string x.s, .slice l1a (j + 1) l1c] 25 (0, 0)) ∧ wr.heap[w0.heap.size + 1]? = some (.cells #[.slice none 0 0] 31 (0, 0)) ∧ KB F0 w0 wr) (fun kv _ => M - (intOf kv).toNat)
                case atStart => exact ⟨0, _, ls, by omega, rfl, by rw [List.take_zero, List.map_nil, List.append_nil]; exact HQ.out.1, HQ.out.2.1, HQ.out.2.2.1, HQ.out.2.2.2.1, HQ.out.2.2.2.2.1, HQ.out.2.2.2.2.2.1, HQ.out.2.2.2.2.2.2⟩
                case round =>
                  obtain ⟨p, v, ls2, hp, rfl, hown, hl1, hap, hO, hb0, hb1, hkb⟩ := hrel
                  have hcl := hkb.cell (p := ⟨b, off + j, none⟩) (fun x => x) Hcl.out
                  by_cases hpt : p < M
                  · obtain ⟨wq, rfl⟩ : ∃ wq, wq = wr := ⟨_, rfl⟩
                    have hpc : p < c.length := by rw [← HM.out]; exact hpt
                    obtain ⟨tb, tof, rfl, hnd0⟩ := HC.out.2.2 p hpc
                    have hxo := HC.out.2.1 _ (getD_memN hpc)
                    have hyl := good_len HC.out.1 (n := p) hpc
                    have hdn := good_down HC.out.1 p hpc
                    have htk : Hid (D0 ++ (c.take (p + 1)).map (shN (n : Int)) = (D0 ++ (c.take p).map (shN (n : Int))) ++ [shN (n : Int) (c.getD p nd0)]) := Lib.hid (by
                      rw [take_getD (d := nd0) hpc, List.map_append, ← List.append_assoc]; rfl)
                    have hdl : (D0 ++ (c.take p).map (shN (n : Int))).length = n + p := by
                      rw [List.length_append, HD.out.2, List.length_map, List.length_take]; omega
                    unfold kids at hyl
                    generalize c.getD p nd0 = y at hnd0 hxo hyl hdn htk
                    obtain ⟨done, hdone⟩ : ∃ done, done = D0 ++ (c.take p).map (shN (n : Int)) := ⟨_, rfl⟩
                    rw [← hdone] at hown htk hdl
                    clear hdone
                    rw [← HM.out] at hyl hdn
                    have hnd := hnd0.kbF hkb
                    have c0 := hnd.k
                    have c1 := hnd.at_
                    have c2 := hnd.n
                    have c3 := hnd.s
                    obtain ⟨la, lc, hl40, hints, hlc, hlm⟩ := hnd0.l
                    have hl4 := hkb.cell (p := ⟨tb, tof + p * 5 + 4, none⟩) (fun x => x) hl40
                    obtain ⟨K, hK⟩ : ∃ K, K = y.l.length := ⟨_, rfl⟩
                    rw [← hK] at hl4 hl40 hlc hyl
                    have HKy := Lib.hid hK
                    obtain ⟨va2, vc2, rfl, -⟩ := hown.nodes
                    rw [hdl] at hown hO
                    have hOwr2 := heap_lt hO
                    have HO := Lib.hid (And.intro hown (And.intro hl1 (And.intro hap (And.intro hO (And.intro hb0 (And.intro hb1 hkb))))))
                    have HX := Lib.hid (And.intro hints (And.intro hdn (And.intro hxo hl40)))
                    unfold maxLen at hlm
                    clear hnd hnd0 hints hdn hxo hK hl40 hown hl1 hap hO hb0 hb1 hkb
                    go_wp2_with fail
                    obtain ⟨V, hV⟩ : ∃ V, V = wq.alloc (.cells #[.int .u8 (y.k : Nat), .int .i64 y.at_, .int .i64 y.n, .string y.s, .slice none 0 0] 25) := ⟨_, rfl⟩
                    rw [← hV]
                    have kV : KB F0 wq V := by rw [hV]; exact (KB.refl _ _).alloc _
                    have hX : V.heap[wq.heap.size]? = some (.cells #[.int .u8 (y.k : Nat), .int .i64 y.at_, .int .i64 y.n, .string y.s, .slice none 0 0] 25 (0, 0)) := by rw [hV]; exact alloc_new _ _
                    have hVs : V.heap.size = wq.heap.size + 1 := by rw [hV]; simp
                    obtain ⟨X, hXe⟩ : ∃ X, X = wq.heap.size := ⟨_, rfl⟩
                    rw [← hXe] at hX hVs hOwr2 ⊢
                    have HV := Lib.hid (And.intro kV (And.intro hX (And.intro hVs hXe)))
                    clear hV kV hX hVs hXe hl4 c0 c1 c2 c3 hcl
                    go_loopw [14] (fun jv wr2 => ∃ (i : Nat) (lv : Value), i ≤ K ∧ jv = .int .i64 i ∧ wr2.heap[X]? = some (.cells #[.int .u8 (y.k : Nat), .int .i64 y.at_, .int .i64 y.n, .string y.s, lv] 25 (0, 0)) ∧ wr2.ownsRow (X + 1) 3 1 lv i (ints ((y.l.take i).map (· + (n : Int)))) ∧ KB (fun k => X ≤ k) V wr2) (fun jv _ => K - (intOf jv).toNat)
                    case atStart => exact ⟨0, _, by omega, rfl, HV.out.2.1, World.ownsRow_nil _ _ _ _, KB.refl _ _⟩
                    case round =>
                      obtain ⟨i, lv, hi, rfl, hXw, hlv, hkb⟩ := hrel
                      have kW : KB (fun k => X ≤ k) wq wr := (HV.out.1.mono (fun _ _ x => x.elim)).trans hkb
                      have kO : KB F0 w0 wr := HO.out.2.2.2.2.2.2.up kW (by rw [HV.out.2.2.2]; exact HO.out.2.2.2.2.2.2.size)
                      have hcl := kO.cell (p := ⟨b, off + j, none⟩) (fun x => x) Hcl.out
                      have hl4 := kO.cell (p := ⟨tb, tof + p * 5 + 4, none⟩) (fun x => x) HX.out.2.2.2
                      by_cases hjt : i < K
                      · have hi1 : i < y.l.length := by rw [← HKy.out]; exact hjt
                        obtain ⟨lb, lo, rfl, hcli⟩ := HX.out.1 i hi1
                        have hcli := kO.cell (p := ⟨lb, lo + i, none⟩) (fun x => x) hcli
                        have hrg := HX.out.2.1 _ (getD_memI hi1)
                        have htk2 : Hid ((y.l.take (i + 1)).map (· + (n : Int)) = (y.l.take i).map (· + (n : Int)) ++ [y.l.getD i 0 + (n : Int)]) := Lib.hid (by
                          rw [take_getD (d := (0 : Int)) hi1, List.map_append]; rfl)
                        obtain ⟨ys, hys⟩ : ∃ ys, ys = (y.l.take i).map (· + (n : Int)) := ⟨_, rfl⟩
                        rw [← hys] at hlv htk2
                        generalize y.l.getD i 0 = cc at hcli hrg htk2
                        have x4 : wr.cell? ⟨X, 4, none⟩ = some lv := blk_cell hXw 4
                        have hwrap : IntKind.i64.wrap (cc + (n : Int)) = cc + (n : Int) := w64 (by omega) (by omega)
                        have HR3 := Lib.hid (And.intro hXw (And.intro hlv (And.intro hkb (And.intro kO hys))))
                        have hwz := (HV.out.2.2.1 ▸ hkb.size : X + 1 ≤ wr.heap.size)
                        clear hXw hlv hkb kW kO hys
                        go_wp2_with fail
                        refine wp_region_rv 17 GK (kindW [(16, OneRow wr.heap.size #[.int .i64 (cc + (n : Int))] 3, OneRowAt wr.heap.size #[.int .i64 (cc + (n : Int))] 3)]) (by kernel_rfl) (by kernel_rfl) (kb_trans _) (kb_refl _) (kb_start _ _) (kindW_mono _ (by intro p hp; simp only [List.mem_cons, List.not_mem_nil, or_false] at hp; subst hp; exact lasts_row _ _ _)) ?_
                        simp only [List.take_succ_cons, List.take_zero, List.drop_succ_cons, List.drop_zero]
                        iterate 16 (refine rv_det (by kernel_rfl) rfl (by intro w hG hH; have hc0 := KB.cell hG (fun x => x) (x4); have hc1 := KB.cell hG (fun x => x) (hcl); have hc2 := KB.cell hG (fun x => x) (hl4); have hc3 := KB.cell hG (fun x => x) (hcli); go_simp; first | done | with_reducible rfl) ?_; simp only [Act.put, List.setIfInBounds_toArray, List.set_cons_zero, List.set_cons_succ])
                        refine rv_rel (by kernel_rfl) rfl ⟨.slice (some ⟨_, 0, none⟩) 1 1, _, rfl, Nat.le_refl _⟩ (fun w hG hH => opVal_row hG (by go_simp; first | done | rfl)) ?_
                        rintro v ⟨nb, rfl, hnb⟩
                        simp only [Act.put, List.setIfInBounds_toArray, List.set_cons_zero, List.set_cons_succ]
                        refine rv_nil (fun w hG hH => ?_)
                        have hrow : OneRowAt wr.heap.size #[.int .i64 (cc + (n : Int))] 3 (.slice (some ⟨nb, 0, none⟩) 1 1) w := hH (16, fun w => OneRowAt wr.heap.size #[.int .i64 (cc + (n : Int))] 3 (.slice (some ⟨nb, 0, none⟩) 1 1) w) List.mem_cons_self
                        obtain ⟨nb', e, -, hrow⟩ := hrow
                        simp only [Value.slice.injEq, Option.some.injEq, Addr.mk.injEq, and_true] at e
                        subst e
                        have HG2 := Lib.hid (And.intro hG (And.intro (own_kb HR3.out.2.1 hG (fun _ _ x => x)) (hG.heap (fun x => x) HR3.out.1)))
                        have hsw := hG.size
                        clear hG hH x4 hcl hl4 hcli
                        go_wp2_with (at_builtin; refine Stopped.out ?_)
                        refine ⟨?_⟩
                        refine app1 23 3 (X + 1) (.int .i64 (cc + (n : Int))) Tryd.infoInt Tryd.underlying23 rfl HG2.out.2.1 rfl rfl rfl rfl (blk_cell hrow 0) rfl (by unfold maxLen; omega) (by omega) (by omega) ?_
                        intro v' w' hown' hgr
                        have hXw' : w'.heap[X]? = some (.cells #[.int .u8 (y.k : Nat), .int .i64 y.at_, .int .i64 y.n, .string y.s, lv] 25 (0, 0)) := by
                          rw [hgr.block X (heap_lt HG2.out.2.2) (fun e => by
                            obtain ⟨cu, h1, h2⟩ := own_block HG2.out.2.1 e.symm
                            omega)]
                          exact HG2.out.2.2
                        obtain ⟨va, vc2, rfl, -⟩ := own_shape hown'
                        have y4 : w'.cell? ⟨X, 4, none⟩ = some lv := blk_cell hXw' 4
                        have y4f := blk_frozen hXw' 4
                        have ks := kb_set w' X 4 (.slice va (i + 1) vc2)
                        have hX2 := setCell_blk (i := 4) hXw' (.slice va (i + 1) vc2)
                        have hlv2 := own_kb hown' ks (fun g e1 e2 => by
                          obtain ⟨cu, h1, h2⟩ := own_block hown' e1
                          omega)
                        have hkb2 : KB (fun k => X ≤ k) V (w'.setCell ⟨X, 4, none⟩ (.slice va (i + 1) vc2)) := ((HR3.out.2.2.1.trans (HG2.out.1.mono (fun _ _ x => x.elim))).grown hgr (fun k e h => by
                          obtain ⟨cu, h1, h2⟩ := own_block HG2.out.2.1 e
                          show X ≤ k
                          omega)).trans (ks.mono (fun k _ e => by rw [e]; exact Nat.le_refl _))
                        have hys2 : ints ((y.l.take (i + 1)).map (· + (n : Int))) = ints ys ++ [.int .i64 (cc + (n : Int))] := by
                          rw [htk2.out]; simp [ints]
                        rw [← hys2] at hlv2
                        have HZ := Lib.hid (And.intro hX2 (And.intro hlv2 hkb2))
                        clear hown' hgr hXw' ks hX2 hlv2 hkb2 hys2 hrow
                        go_wp2
                        go_roundw
                        case rel => exact ⟨i + 1, _, by omega, by go_num, HZ.out.1, HZ.out.2.1, HZ.out.2.2⟩
                        case measure => simp [intOf]; omega
                      · obtain rfl : i = K := by omega
                        have hX0 : X = wq.heap.size := HV.out.2.2.2
                        have hlt1 : ∀ {u : Value} {e : TypeId} {z m : Nat} {zs : List Value}, wq.ownsRow (w0.heap.size + 2) e z u m zs → wr.ownsRow (w0.heap.size + 2) e z u m zs := fun hu => own_kb hu kW (fun g e1 e2 => by
                          obtain ⟨cu, h1, -⟩ := own_block hu e1
                          have := heap_lt h1
                          have h2 : X ≤ g := e2
                          omega)
                        have hown4 := HO.out.1.keep kW (by rw [hX0]; exact Nat.le_refl _)
                        have hl14 := hlt1 HO.out.2.1
                        have hOh := kW.heap (b := O) (fun (h : X ≤ O) => by omega) HO.out.2.2.2.1
                        have hq := HO.out.2.2.2.2.2.2.size
                        have hBlt := heap_lt HO.out.2.2.2.2.2.1
                        have hAh := kW.heap (b := w0.heap.size) (fun (h : X ≤ w0.heap.size) => by omega) HO.out.2.2.2.2.1
                        have hBh := kW.heap (b := w0.heap.size + 1) (fun (h : X ≤ w0.heap.size + 1) => by omega) HO.out.2.2.2.2.2.1
                        have hapn : Apart (.slice l1a (j + 1) l1c) (ls2 ++ [lv]) := fun u hu g hg e => by
                          rcases List.mem_append.1 hu with hu | hu
                          · exact HO.out.2.2.1 u hu g hg e
                          · rw [List.mem_singleton] at hu
                            subst hu
                            obtain ⟨cu, h1, h2⟩ := own_block hlv hg
                            obtain ⟨cu2, h3, -⟩ := own_block HO.out.2.1 e
                            have := heap_lt h3
                            omega
                        have hlvx : wr.ownsRow (w0.heap.size + 2) 3 1 lv (shN (n : Int) y).l.length (ints (shN (n : Int) y).l) := by
                          have e : (shN (n : Int) y).l.length = i := by rw [HKy.out]; simp [shN]
                          have e2 : (shN (n : Int) y).l = (y.l.take i).map (· + (n : Int)) := by rw [List.take_of_length_le (by rw [HKy.out]; exact Nat.le_refl _)]; rfl
                          rw [e, e2]
                          exact own_base hlv (by omega)
                        have x0 : wr.cell? ⟨X, 0, none⟩ = some (.int .u8 (y.k : Nat)) := blk_cell hXw 0
                        have x1 : wr.cell? ⟨X, 1, none⟩ = some (.int .i64 y.at_) := blk_cell hXw 1
                        have x2 : wr.cell? ⟨X, 2, none⟩ = some (.int .i64 y.n) := blk_cell hXw 2
                        have x3 : wr.cell? ⟨X, 3, none⟩ = some (.string y.s) := blk_cell hXw 3
                        have x4 : wr.cell? ⟨X, 4, none⟩ = some lv := blk_cell hXw 4
                        obtain ⟨lva, lvc, rfl, -⟩ := own_shape hlv
                        have c0O : wr.cell? ⟨O, 0, none⟩ = some (.slice va2 (n + p) vc2) := blk_cell hOh 0
                        have HQ := Lib.hid (And.intro hown4 (And.intro hl14 (And.intro hapn (And.intro hOh (And.intro hAh (And.intro hBh (And.intro kO hlvx)))))))
                        have hws := kO.size
                        have hwsz := hkb.size
                        clear hX0 hown4 hl14 hapn hOh hAh hBh hlvx hlv hXw hkb kW kO hlt1
                        go_wp2_with (at_builtin; refine Stopped.out ?_)
                        refine ⟨?_⟩
                        have ka : KB F0 wr (wr.alloc (.cells #[.int .u8 (y.k : Nat), .int .i64 y.at_, .int .i64 y.n, .string y.s, .slice lva i lvc] 25)) := (KB.refl _ _).alloc _
                        have HOa := Lib.hid (And.intro (HQ.out.1.kbF ka) (And.intro (own_kb HQ.out.2.2.2.2.2.2.2 ka (fun _ _ x => x)) (own_kb HQ.out.2.1 ka (fun _ _ x => x))))
                        have hrowO := HOa.out.1.row
                        rw [hdl] at hrowO
                        refine appRow 29 25 (w0.heap.size + 2) (ndCells (shN (n : Int) y) (.slice lva i lvc)) Tryd.infoNode Tryd.underlying29 rfl (by decide) hrowO rfl rfl rfl rfl (alloc_new _ _) rfl
                          (by intro u hu; simp [ndCells] at hu; rcases hu with rfl | rfl | rfl | rfl | rfl <;> rfl) (by unfold maxLen; omega) (by omega) (by have h1 := HV.out.2.2.1; simp; omega) ?_
                        intro v' w' hown' hgr
                        rw [← hdl] at hown'
                        have hpush := HOa.out.1.push HOa.out.2.1 hown' hgr
                        have hk' := (HQ.out.2.2.2.2.2.2.1.trans ka).grown hgr (fun g e h => by
                          obtain ⟨-, -, hb⟩ := own_block hrowO e
                          omega)
                        have hO7 : w'.heap[O]? = some (.cells #[.slice va2 (n + p) vc2] 31 (0, 0)) := by
                          have hg2 := ka.heap (fun x => x) HQ.out.2.2.2.1
                          rw [hgr.block O (heap_lt hg2) (fun e => by
                            obtain ⟨cu, h1, -⟩ := own_block hrowO e.symm
                            rw [hg2] at h1; cases h1)]
                          exact hg2
                        have hgo : ∀ {g : Nat} {o : Obj}, g < w0.heap.size + 2 → wr.heap[g]? = some o → w'.heap[g]? = some o := fun {g o} hlt hg => by
                          have hg2 := ka.heap (fun x => x) hg
                          rw [hgr.block g (heap_lt hg2) (fun e => by
                            obtain ⟨cu, h1, h2⟩ := own_block hrowO e.symm
                            omega)]
                          exact hg2
                        have hA7 := hgo (by omega) HQ.out.2.2.2.2.1
                        have hB7 := hgo (by omega) HQ.out.2.2.2.2.2.1
                        have hl17 := own_grown HOa.out.2.2 hgr (fun g e1 e2 => by
                          obtain ⟨c1, h1, -⟩ := own_block HOa.out.2.2 e1
                          obtain ⟨c2, h2, -⟩ := own_block hrowO e2
                          rw [h1] at h2; cases h2)
                        rw [← htk.out] at hpush
                        rw [hdl] at hown'
                        obtain ⟨a7, c7, rfl, -⟩ := own_shape hown'
                        have k8 := kb_set w' O 0 (.slice a7 (n + p + 1) c7)
                        have hown9 := hpush.other k8 hO7 (by decide) (by decide)
                        have hO8 := setCell_blk (i := 0) hO7 (.slice a7 (n + p + 1) c7)
                        have hA8 := k8.heap (b := w0.heap.size) (fun e => by omega) hA7
                        have hB8 := k8.heap (b := w0.heap.size + 1) (fun e => by omega) hB7
                        have hl18 := own_kb hl17 k8 (fun g e1 e2 => by
                          obtain ⟨c1, h1, -⟩ := own_block hl17 e1
                          rw [e2, hO7] at h1; cases h1)
                        have hkb8 := hk'.setCell (p := ⟨O, 0, none⟩) (fun h => by
                          have h1 : O < w0.heap.size := h; omega) (.slice a7 (n + p + 1) c7)
                        have c7O : w'.cell? ⟨O, 0, none⟩ = some (.slice va2 (n + p) vc2) := blk_cell hO7 0
                        have f7O := blk_frozen hO7 0
                        have HP := Lib.hid (And.intro hown9 (And.intro hl18 (And.intro HQ.out.2.2.1 (And.intro hO8 (And.intro hA8 (And.intro hB8 hkb8))))))
                        clear hpush hk' hown' hgr HOa ka x0 x1 x2 x3 x4 c0O hO7 hA7 hB7 k8 hown9 hO8 hA8 hB8 hkb8 hgo hl17 hl18 hrowO
                        go_wp2
                        go_roundw
                        case rel => exact ⟨p + 1, _, _, by omega, by go_num, HP.out.1, HP.out.2.1, HP.out.2.2.1, HP.out.2.2.2.1, HP.out.2.2.2.2.1, HP.out.2.2.2.2.2.1, HP.out.2.2.2.2.2.2⟩
                        case measure => simp [intOf]; omega
                  · obtain rfl : p = M := by omega
                    have hown2 : OwnTs wr (w0.heap.size + 2) v ({ x with l := [] } :: (rest ++ c.map (shN (n : Int)))) ls2 := by
                      rw [HD.out.1, List.take_of_length_le (by rw [HM.out]; exact Nat.le_refl _)] at hown
                      exact hown
                    have HP := Lib.hid (And.intro hown2 (And.intro hl1 (And.intro hap (And.intro hO (And.intro hb0 (And.intro hb1 hkb))))))
                    clear hown hown2 hl1 hap hO hb0 hb1 hkb
                    go_wp2
                    go_roundw
                    case rel => exact ⟨j + 1, _, _, _, _, _, by omega, by go_num, hjo2.out, hrl1l, HP.out.1, HP.out.2.1, HP.out.2.2.1, HP.out.2.2.2.1, HP.out.2.2.2.2.1, HP.out.2.2.2.2.2.1, HP.out.2.2.2.2.2.2⟩
                    case measure => simp [intOf]; omega
              · obtain rfl : j = q := by omega
                have hjn : joinN x l = { x with l := rl } :: rest := by rw [← hjo, List.take_of_length_le (by rw [← HN.out]; exact Nat.le_refl _)]; rfl
                have hjl := joinN_len x l
                have hnok := joinN_ok hx (by have := Hsle.out; omega) (List.all_eq_true.1 Hall.out) HTS.out.2.2.1
                have hE := hEc.out
                rw [hjn] at hnok hE hjl
                have hR : Hid (R = if E = 0 then { x with l := rl } :: rest else []) := Lib.hid (by rw [HR.out.1, HR.out.2, joinT, hjn])
                obtain ⟨va, vc, rfl, hvn, hvc1, hvc2, hva⟩ := hown.nodes
                rcases hva with rfl | ⟨g, rfl, hgB⟩
                · obtain ⟨b9, o9, e, h9⟩ := hvn 0 (by simp)
                  cases e
                obtain ⟨l0a, l0c, rfl, -⟩ := own_shape hl0
                obtain ⟨n, hn⟩ : ∃ n, n = rest.length + 1 := ⟨_, rfl⟩
                rw [show ({ x with l := [] } :: rest : List Nd).length = n by rw [hn]; rfl] at hO hown hvc1
                obtain ⟨cur, u0, ls', hgh, ⟨z0, z1, z2, z3, z4⟩, hroot, kroot⟩ := hown.setRoot (x := { x with l := rl }) (by show wr.ownsRow _ _ _ _ rl.length _; rw [hrl]; exact hl0)
                have f0 := blk_frozen hgh 0
                have f1 := blk_frozen hgh 1
                have f2 := blk_frozen hgh 2
                have f3 := blk_frozen hgh 3
                have f4 := blk_frozen hgh 4
                have hOc : wr.cell? ⟨O, 0, none⟩ = some (.slice (some ⟨g, 0, none⟩) n vc) := blk_cell hO 0
                have y0 := blk_cell hb0 0
                have y1 := blk_cell hb0 1
                have y2 := blk_cell hb0 2
                have y3 := blk_cell hb0 3
                have y4 := blk_cell hb0 4
                simp at y0 y1 y2 y3 y4 z0 z1 z2 z3
                have hgO : g ≠ O := fun e => by subst e; rw [hgh] at hO; cases hO
                have hroot' : OwnTs _ (w0.heap.size + 2) (.slice (some ⟨g, 0, none⟩) n vc) ({ x with l := rl } :: rest) (.slice l0a j l0c :: ls') := hroot
                have hO5 := kroot.heap (b := O) (fun e => hgO e.symm) hO
                have hb15 := kroot.heap (b := w0.heap.size + 1) (fun e => by omega) hb1
                have hk5 := hkb.above kroot (fun i e => by omega)
                have HZ := Lib.hid (And.intro hroot' (And.intro hO5 (And.intro hb15 hk5)))
                have Hn := Lib.hid hn
                have hn0 : (0 : Int) < (n : Int) := by omega
                have hnv : n ≤ vc := hvc1
                unfold maxLen at hvc2
                clear hgh hroot kroot hvn hO hb0 hb1 hkb hown hl0 hap hgO hroot' hO5 hb15 hk5 hn hvc1
                have Hck := Lib.hid (fun (W : World) (h : KB F0 w0 W) (hn : NodesAt W (some ⟨g, 0, none⟩) ({ x with l := rl } :: rest)) => ccheck_any ({ x with l := rl } :: rest) (by rw [hjl]; have := Hsle.out; omega) hnok (some ⟨g, 0, none⟩) vc W hn (HTS.out.2.1.kb h))
                rw [← hE, show ({ x with l := rl } :: rest : List Nd).length = n by rw [Hn.out]; rfl] at Hck
                clear hjl hnok hE hjn hjo
                have hOc6 := blk_cell HZ.out.2.1 0
                simp only [List.getElem?_toArray, List.getElem?_cons_zero] at hOc6
                go_wp2_with fail
                obtain ⟨W6, hW6⟩ : ∃ W6, W6 = (((((wr.setCell ⟨g, 0, none⟩ (.int .u8 (x.k : Nat))).setCell ⟨g, 1, none⟩ (.int .i64 x.at_)).setCell ⟨g, 2, none⟩ (.int .i64 x.n)).setCell ⟨g, 3, none⟩ (.string x.s)).setCell ⟨g, 4, none⟩ (.slice l0a j l0c)) := ⟨_, rfl⟩
                rw [← hW6] at HZ ⊢
                clear hW6 hOc6
                refine (Hck.out _ HZ.out.2.2.2 (HZ.out.1.nodesAt)).mono ?_
                rintro e w2 ⟨⟨at_, rfl⟩, hk2⟩
                have hO2 := hk2.heap (fun x => x) HZ.out.2.1
                have hOc2 : w2.cell? ⟨O, 0, none⟩ = some (.slice (some ⟨g, 0, none⟩) n vc) := blk_cell hO2 0
                have hB2 := hk2.heap (fun x => x) HZ.out.2.2.1
                have b1 : w2.cell? ⟨w0.heap.size + 1, 0, none⟩ = some (.slice none 0 0) := blk_cell hB2 0
                have hfz := blk_frozen hB2 0
                have Hkf := Lib.hid (fun v => (HZ.out.2.2.2.trans hk2).setCell (p := ⟨w0.heap.size + 1, 0, none⟩) (fun h => by
                  have h1 : w0.heap.size + 1 < w0.heap.size := h; omega) v)
                have Hc1 := Lib.hid (fun v => World.cell?_setCell_same w2 ⟨w0.heap.size + 1, 0, none⟩ v b1)
                have hown2 := Lib.hid (fun v => ((HZ.out.1.kbF hk2).other (kb_set w2 (w0.heap.size + 1) 0 v) hB2 (by decide) (by decide)).base (show w0.heap.size ≤ w0.heap.size + 2 by omega))
                clear hk2 hO2 hB2 Hck hOc
                by_cases hE0 : E = 0
                · rw [hE0]
                  have hR2 : Hid (R = { x with l := rl } :: rest) := Lib.hid (by rw [hR.out, if_pos hE0])
                  have HE0 := Lib.hid hE0
                  clear hE0
                  go_wp2
                  (try simp only [Exit.inBlock, Exit.then])
                  refine ret_cell_tmp rfl rfl (Hc1.out _) rfl ?_
                  exact ⟨_, _, by rw [HE0.out]; rfl, by rw [hR2.out]; exact hown2.out _, Hkf.out _⟩
                · have hR2 : Hid (R = []) := Lib.hid (by rw [hR.out, if_neg hE0])
                  have d1 : ((E : Int) != 0) = true := by simpa using hE0
                  have d2 : ((E : Int) == 0) = false := by simpa using hE0
                  clear hE0
                  go_wp2
                  (try simp only [Exit.inBlock, Exit.then])
                  refine ret_cell_tmp rfl rfl (Hc1.out _) rfl ?_
                  exact ⟨_, [], rfl, by rw [hR2.out]; exact ownTs_nil _ _, Hkf.out _⟩
end Go.Proofs.YtjefoojkgocinaaDoor
