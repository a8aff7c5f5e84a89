/- LexBack: for all tokens and texts the law returns true; its arguments read as before. No condition beyond the given row's own (the listed tables read as the program's text lays them). -/
import Derived.Test.YtcbifoimfhfccaaDoorLexRow
import Derived.Test.YtcbifoimfhfccaaDoorLexBk
namespace Go.Proofs.YtcbifoimfhfccaaDoor
open Go.ChangeShapes Go.WideShapes Go.ChangeAt Go.RowKit Go.ChangeMaps

section
variable {H : Type} {enc : TypeId × Value → H} {W : World}
theorem list_of {α : Type} {Q : Nat → α → Prop} {d : α} : ∀ (n : Nat), (∀ k, k < n → ∃ x, Q k x) → ∃ l : List α, l.length = n ∧ ∀ k, k < n → Q k (l.getD k d) := by
  intro n
  induction n with
  | zero => exact fun _ => ⟨[], rfl, fun k hk => absurd hk (Nat.not_lt_zero _)⟩
  | succ n ih =>
    intro h
    obtain ⟨l, hl, hq⟩ := ih (fun k hk => h k (by omega))
    obtain ⟨x, hx⟩ := h n (by omega)
    refine ⟨l ++ [x], by simp [hl], fun k hk => ?_⟩
    rcases Nat.lt_or_eq_of_le (Nat.lt_succ_iff.1 hk) with h1 | rfl
    · have e : (l ++ [x]).getD k d = l.getD k d := by simp [List.getD_eq_getElem?_getD, List.getElem?_append_left (show k < l.length by omega)]
      rw [e]; exact hq k h1
    · have e : (l ++ [x]).getD k d = x := by subst hl; simp [List.getD_eq_getElem?_getD]
      rw [e]; exact hx
theorem wf_u8 {n : Int} (h : (Lit.int .u8 n).wf = true) : 0 ≤ n ∧ n < 256 := by
  simp [Lit.wf] at h
  have e1 : IntKind.u8.min = 0 := rfl
  have e2 : IntKind.u8.max = 255 := rfl
  omega
theorem Tryd.cellsTok : Tryd.prog.cellsOf 32 = 4 := by kernel_rfl
set_option maxRecDepth 100000 in
/-- A token's four cells. -/
theorem tok_of {n : Nat} {cs : List Value} {y : DataW H × List MemPlace} (h : DataW.trod enc Tryd.prog W 0 (fun _ => true) true n 32 cs = some y) :
    ∃ x : Tk, cs = [.int .u8 (x.k : Nat), .int .i64 x.at_, .int .i64 x.n, .string x.s] ∧ -9223372036854775808 ≤ x.n ∧ x.n ≤ 9223372036854775807 := by
  obtain ⟨xs, m, -, -, hl, hlen, hf⟩ := DataW.trod_struct Tryd.underlying32 h
  rw [Tryd.cellsTok] at hl
  match cs, hl with
  | [c0, c1, c2, c3], _ =>
  match xs, hlen with
  | [x0, x1, x2, x3], _ =>
  have f0 := hf 0 _ rfl
  have f1 := hf 1 _ rfl
  have f2 := hf 2 _ rfl
  have f3 := hf 3 _ rfl
  have z0 : Tryd.prog.cellsOf 30 = 1 := by kernel_rfl
  have z1 : Tryd.prog.cellsOf 3 = 1 := by kernel_rfl
  have z2 : Tryd.prog.cellsOf 9 = 1 := by kernel_rfl
  have z4 : Tryd.prog.cellsOf 2 = 1 := by kernel_rfl
  simp only [List.getElem_toArray, List.getElem_cons_zero, List.getElem_cons_succ, z0, z1, z2, z4, List.drop_zero, List.drop_succ_cons, List.take_succ_cons, List.take_zero, List.getElem?_cons_zero, List.getElem?_cons_succ] at f0 f1 f2 f3
  obtain ⟨n0, e0, -, w0⟩ := DataW.trod_int Tryd.underlying30 f0
  obtain ⟨n1, e1, -, w1⟩ := DataW.trod_int Tryd.underlying3 f1
  obtain ⟨n2, e2, -, w2⟩ := DataW.trod_int Tryd.underlying2 f2
  obtain ⟨s, e3, -, w3⟩ := DataW.trod_string Tryd.underlying9 f3
  simp only [List.cons.injEq, and_true] at e0 e1 e2 e3
  subst e0 e1 e2 e3
  have b0 := wf_u8 w0
  have b2 := wf_i64 w2
  refine ⟨⟨n0.toNat, n1, n2, s⟩, ?_, by show -9223372036854775808 ≤ n2; omega, by show n2 ≤ 9223372036854775807; omega⟩
  simp only [show ((n0.toNat : Nat) : Int) = n0 by omega]
set_option maxRecDepth 100000 in
theorem toks_of {n : Nat} {cs : List Value} {y : DataW H × List MemPlace} (h : DataW.trod enc Tryd.prog W 0 (fun _ => true) true n 23 cs = some y) :
    ∃ (a : Option Addr) (ts : List Tk) (cap : Nat), cs = [.slice a ts.length cap] ∧ ToksAt W a ts ∧ ∀ k, k < ts.length → -9223372036854775808 ≤ (ts.getD k tk0).n ∧ (ts.getD k tk0).n ≤ 9223372036854775807 := by
  rcases DataW.trod_slice Tryd.underlying23 h with ⟨rfl, -⟩ | ⟨a, len, cap, elems, rest, m, -, rfl, -, -, hl, hm, hlen, hel, -, -⟩
  · exact ⟨none, [], 0, rfl, fun k hk => by simp at hk, fun k hk => by simp at hk⟩
  have hsp0 : 0 < len → a.spot = none := fun h0 => by
    have hk1 := hel 0 h0
    rw [Tryd.cellsTok, show elems[0]? = some (elems[0]'(by omega)) from List.getElem?_eq_getElem _, Option.bind_eq_some_iff] at hk1
    obtain ⟨cs, hcs, ht⟩ := hk1
    obtain ⟨x, rfl, -⟩ := tok_of ht
    obtain ⟨-, -, hc⟩ := World.cells?_some hcs
    have := World.cell?_spot (hc 0 (by omega))
    simpa [Addr.add] using this
  obtain ⟨ts, htl, hts⟩ := list_of (Q := fun k (x : Tk) => (-9223372036854775808 ≤ x.n ∧ x.n ≤ 9223372036854775807) ∧ ∃ b off, a = ⟨b, off, none⟩ ∧ TkAt W b (off + k * 4) x) (d := tk0) len (fun k hk => by
    have hk1 := hel k hk
    rw [Tryd.cellsTok, show elems[k]? = some (elems[k]'(by omega)) from List.getElem?_eq_getElem _, Option.bind_eq_some_iff] at hk1
    obtain ⟨cs, hcs, ht⟩ := hk1
    obtain ⟨x, rfl, h1, h2⟩ := tok_of ht
    obtain ⟨-, -, hc⟩ := World.cells?_some hcs
    obtain ⟨b, off, spot⟩ := a
    have hspot : spot = none := hsp0 (by omega)
    subst hspot
    have key : ∀ i, Addr.add (Addr.add ⟨b, off, none⟩ (k * 4)) i = ⟨b, off + k * 4 + i, none⟩ := fun i => by rw [add_plain, add_plain]
    refine ⟨x, ⟨h1, h2⟩, b, off, rfl, ?_, ?_, ?_, ?_⟩
    · have := hc 0 (by omega); rw [key] at this; exact this
    · have := hc 1 (by omega); rw [key] at this; exact this
    · have := hc 2 (by omega); rw [key] at this; exact this
    · have := hc 3 (by omega); rw [key] at this; exact this)
  refine ⟨some a, ts, cap, by rw [htl], fun k hk => ?_, fun k hk => (hts k (by omega)).1⟩
  obtain ⟨-, b, off, rfl, ht⟩ := hts k (by omega)
  exact ⟨b, off, rfl, ht⟩
end

set_option maxRecDepth 100000 in
theorem lexBack_lifted (os : Os) (started : os.Started) (H : Type) (enc : TypeId × Value → H) (F : Stop.Interp) :
    ReturnsInHanded {} Tryd.checked os 4 .any ((OpenSpec.ofChange Rows.lexBackSpec).preRow enc Tryd.prog Tryd.f4 Rows.lexBackRow.domain false Rows.lexBackRow.laid) (((OpenSpec.ofChange Rows.lexBackSpec).at F).post enc Tryd.prog Tryd.f4 false true false false) := by
  obtain ⟨places, hx⟩ : ∃ places, DataW.whole enc Tryd.prog ((World.laidAll Tryd.prog os laidL).forCall (fun _ _ => 0) ⟨#[], #[.slice none 0 0, .string ⟨#[]⟩], []⟩).memory Tryd.f4.params.toList (OpenSpec.ofChange Rows.lexBackSpec).vars false (#[.slice none 0 0, .string ⟨#[]⟩] : Array Value).toList 8 = some ([.nil, .lit (.string [])], [], places) := ⟨[], by kernel_rfl⟩
  refine returnsInHanded_of_row (C := Tryd.checked) (s := (OpenSpec.ofChange Rows.lexBackSpec)) Tryd.own started (by kernel_rfl) Tryd.func4
    (row_witness (enc := enc) (C := Tryd.checked) false (World.laidAll Tryd.prog os laidL) #[.slice none 0 0, .string ⟨#[]⟩] (World.laidAll_os _ _ _) (World.shaped_of_ZipB (by kernel_rfl) (by kernel_rfl)) (by kernel_rfl)
      (OpenSpec.preRow_of_cond 8 hx (by kernel_rfl) (fun k hk => by cases hk) (by kernel_rfl) (door_met os _))) ?_
  intro W base args ds gs before hval0 hW _ _ hsz hL hsh _
  have hval : ∀ (j : Nat) t v, Tryd.f4.params[j]? = some t → args[j]? = some v → Value.okWide Tryd.prog W .any base t v := hval0
  have hW' := hW
  obtain ⟨p, q, hA0, hV, rfl, hfz, hnd⟩ := hW
  have hA : DataW.TrodAll enc Tryd.prog W 0 (fun _ => true) true Tryd.f4.params.toList args.toList ds p := hA0
  rw [Tryd.params4] at hA hval
  obtain ⟨v0, v1, d0, d1, p0, p1, rfl, rfl, rfl, h0, h1⟩ := trodAll_two hA
  obtain ⟨rfl, rfl⟩ := trodVars_none hV
  clear hA0 hval0
  simp only [List.append_nil] at hW'
  have hlt : ∀ x ∈ p0 ++ p1, x.block < W.heap.size := fun x hx => by simpa using hW'.lt x (by simpa using hx)
  have hs0 := h0
  have hs1 := h1
  obtain ⟨fuel0, hf0⟩ := h0
  obtain ⟨a, len, c, rfl⟩ := okWide_slice Tryd.underlying23 (hval 0 23 v0 rfl rfl)
  obtain ⟨a', ts, c', hcs, ht, h64⟩ := toks_of hf0
  simp only [Value.cells, List.cons.injEq, Value.slice.injEq, and_true] at hcs
  obtain ⟨rfl, rfl, rfl⟩ := hcs
  obtain ⟨u, rfl, rfl, rfl, wu⟩ := open_string Tryd.underlying9 (hval 1 9 v1 rfl rfl) h1
  refine (back_any ts h64 a c u W (tab_of_laid hL hsh) ht).mono fun e W' ⟨he, hk⟩ => ?_
  subst he
  have hb : Below W.heap.size W W' := hk.below (Nat.le_refl _) (fun _ _ x => x)
  have ht0 : ∀ {v d ps}, DataW.Trod enc Tryd.prog W 0 (fun _ => true) true 23 v d ps → (∀ x ∈ ps, x.block < W.heap.size) → DataW.Trod enc Tryd.prog W' 0 (fun b => decide (b < W.heap.size)) true 23 v d ps :=
    fun h hl => Below.trod Tryd.laidOut (by kernel_rfl) (of_decide_eq_true (by kernel_rfl)) h hb hl
  have ht1 : ∀ {v d ps}, DataW.Trod enc Tryd.prog W 0 (fun _ => true) true 9 v d ps → (∀ x ∈ ps, x.block < W.heap.size) → DataW.Trod enc Tryd.prog W' 0 (fun b => decide (b < W.heap.size)) true 9 v d ps :=
    fun h hl => Below.trod Tryd.laidOut (by kernel_rfl) (of_decide_eq_true (by kernel_rfl)) h hb hl
  refine ⟨_, rfl, _, _, _, [], (p0 ++ []), [], hW', ?_, ?_, rfl, hb.frame _, fun h => by cases h⟩
  · exact trodAll_mk1 (shut_bool (by kernel_rfl) true)
  · exact trodAll_mk2 (ht0 hs0 (fun x hx => hlt x (by first | (simp [hx]; done) | cases hx))) (ht1 hs1 (fun x hx => hlt x (by first | (simp [hx]; done) | cases hx)))
theorem lexBack_row : Rows.LexBackSaid :=
  OpenClaim.holds_of_cond 4 Tryd.f4 rfl rfl rfl rfl rfl rfl rfl ⟨rfl, rfl, rfl, rfl, rfl⟩ rfl rfl rfl rfl rfl (by kernel_rfl) Tryd.func4 (by kernel_rfl)
    (of_decide_eq_true (by kernel_rfl)) (by unfold Func.isWrapper; rw [if_neg (of_decide_eq_false (by kernel_rfl))]; exact ⟨rfl, rfl⟩)
    (fun os started H enc _ F => by rw [OpenClaim.pre_eq_preRow]; exact lexBack_lifted os started H enc F)
theorem lexBack_holds : Rows.LexBackCardSaid :=
  Claim7.holds_tied_plain_at .later [] _ _ _ _ lexBack_row (fun _ h => by cases h) (by kernel_rfl) (fun _ h => by cases h) lexBack_row_tie rfl ⟨rfl, rfl⟩ (by kernel_rfl) rfl
    (fun f fn hf hfn => by
      obtain rfl : f = 4 := Option.some.inj ((show Tryd.prog.funcNamed "loanword/loanwordlaw02.LexBack" = some 4 by kernel_rfl).symm.trans hf) |>.symm
      obtain rfl : fn = Tryd.f4 := (Option.some.inj (Tryd.func4.symm.trans hfn)).symm
      exact ⟨by kernel_rfl, fun j t ht => by
        rw [Tryd.params4] at ht
        have hm : t ∈ [23, 9] := by simpa using Array.mem_of_getElem? ht
        have hall : ([23, 9].all fun u => !Tryd.prog.wantsStandIn u) = true := by kernel_rfl
        exact (show Tryd.prog.wantsStandIn t = false by simpa using List.all_eq_true.1 hall t hm)⟩)
    (by kernel_rfl)
end Go.Proofs.YtcbifoimfhfccaaDoor
