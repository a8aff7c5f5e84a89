/- strings.Builder's writing at this seat; strconv.Itoa. What the rows of the place seat share: the listed tables' condition, its witness. Types, plain: which may be, as the program and as the document look at them. -/
import Derived.Test.YtpigppghcghpbaaGreatDoorMg12
import Derived.Test.YtpigppghcghpbaaGreatDoorShelfPl
import Derived.Lib.ItoaNum
import Derived.Lib.ItoaMem
import Derived.Lib.ItoaLen
import Derived.Test.YtpigppghcghpbaaGreatDoorTie
import Derived.Test.YtpigppghcghpbaaGreatDoorCards
import Derived.LaidMore
import Derived.OpenShut
import Derived.Stop.Joined
import Derived.Stop.LaidErr
import Derived.SevenTiedAt
import Derived.Shelf.Vars
import Derived.Lib.LaidTab
import Derived.Deep.DeepHandedRow
import Derived.Lay
import Derived.Test.YtpigppghcghpbaaGreatDoorLib
namespace Go.Proofs.YtpigppghcghpbaaGreatDoor
open Go.RowKit

theorem bSize : (Tryz.prog.info? 82).map (·.size) = some 2 := by kernel_rfl
theorem bLies : liesAt Tryz.prog Tryz.prog.depth 82 (2 / Tryz.prog.cellsOf 82) 0 82 1 = true := by kernel_rfl
theorem bByte : (Tryz.prog.info? 5).map (fun i => (i.zero, i.size, i.bytes)) = some (some (.int .u8 0), 1, 1) := by kernel_rfl
set_option maxHeartbeats 2000000 in
set_option maxRecDepth 100000 in
theorem check_any (B b : Nat) (bs : List Value) (w : World) (h : Lib.IsBuilderF 82 5 B b bs w) :
    Calls Tryz.prog 65 #[.pointer (some ⟨b, 0, none⟩)] w fun e w' => e = .returned (.tuple #[]) ∧ (Lib.BuilderAtF 82 5 B b (.pointer (some ⟨b, 0, none⟩)) bs w' ∧ Below B w w' ∧ Lib.OthersKept 5 (some b) w w') := by
  obtain ⟨j, hj, hjs⟩ := Option.map_eq_some_iff.1 bSize
  rcases h with h | h
  · have hfin : ∀ e w', (e = Ending.returned (.tuple #[]) ∧ w' = w.setCell ⟨b, 0, none⟩ (.pointer (some ⟨b, 0, none⟩))) → e = .returned (.tuple #[]) ∧ (Lib.BuilderAtF 82 5 B b (.pointer (some ⟨b, 0, none⟩)) bs w' ∧ Below B w w' ∧ Lib.OthersKept 5 (some b) w w') := by
      rintro e w' ⟨rfl, rfl⟩
      exact ⟨rfl, h.used _, (Below.refl B w).setCell (p := ⟨b, 0, none⟩) h.1 _, (Lib.OthersKept.refl _ _ w).setCell ⟨b, 0, none⟩ rfl _⟩
    have h0 := h.cell0
    have hsh := h.shape
    have hfz := h.frozen0
    refine Calls.mono ?_ hfin
    clear hfin h
    go_enter Tryz.func65, Tryz.ntmps65
    go_wp2
    rw [Lib.run_to_unsafe w ⟨b, 0, none⟩ Tryz.underlying79 Tryz.underlying122 hj (by rw [hjs]; decide) hsh (Nat.zero_lt_succ 1)]
    simp only [Result.andThen]
    rw [Oper.upon_value]
    go_wp2
    rw [run_callFunc_extern Tryz.func88 (by kernel_rfl) (by kernel_rfl) (by kernel_rfl) (e := Extern.AbiNoEscape.same) (by kernel_rfl)]
    rw [Lib.run_noEscape]
    simp only [Result.andThen]
    rw [Oper.upon_value]
    go_wp2
    rw [Lib.run_from_unsafe w ⟨b, 0, none⟩ Tryz.underlying122 Tryz.underlying79 hj hsh bLies]
    simp only [Result.andThen]
    rw [Oper.upon_value]
    go_wp2
    go_end0
    exact ⟨rfl, rfl⟩
  · have hfin : ∀ e w', (e = Ending.returned (.tuple #[]) ∧ w' = w) → e = .returned (.tuple #[]) ∧ (Lib.BuilderAtF 82 5 B b (.pointer (some ⟨b, 0, none⟩)) bs w' ∧ Below B w w' ∧ Lib.OthersKept 5 (some b) w w') := by
      rintro e w' ⟨rfl, rfl⟩
      exact ⟨rfl, h, Below.refl B _, Lib.OthersKept.refl _ _ _⟩
    have h0 := h.cell0
    refine Calls.mono ?_ hfin
    clear hfin h
    go_enter Tryz.func65, Tryz.ntmps65
    go_wp2
    rw [Lib.run_neq_ptr_same w _ Tryz.underlying79 hj]
    go_wp2
    go_end0
    exact ⟨rfl, rfl⟩
set_option maxHeartbeats 4000000 in
set_option maxRecDepth 100000 in
theorem wstr_any (B b : Nat) (bs : List Value) (s : ByteArray) (w : World) (h : Lib.IsBuilderF 82 5 B b bs w) (hlen : bs.length + s.size ≤ 140737488355328) (hBw : B ≤ w.heap.size) :
    Calls Tryz.prog 45 #[.pointer (some ⟨b, 0, none⟩), .string s] w fun e w' => e = .returned (.tuple #[.int .i64 s.size, .nilIface]) ∧ (Lib.BuilderAtF 82 5 B b (.pointer (some ⟨b, 0, none⟩)) (bs ++ Lib.strCells s) w' ∧ Below B w w' ∧ Lib.OthersKept 5 (some b) w w') := by
  obtain ⟨i0, hi, hz0, hz1, hz2⟩ := info_parts bByte
  have CK := Lib.hid (check_any B b bs w h)
  have HL := Lib.hid (And.intro hlen hBw)
  clear hlen hBw h
  go_enter Tryz.func45, Tryz.ntmps45
  go_wp2_with fail
  refine CK.out.mono ?_
  rintro e w1 ⟨rfl, h1, hb1, hk1⟩
  obtain ⟨hB, v, hbk, hown, hne⟩ := h1
  have c0 : w1.cell? ⟨b, 0, none⟩ = some (.pointer (some ⟨b, 0, none⟩)) := by rw [Lib.cell_of_heap hbk]; rfl
  have c1 : w1.cell? ⟨b, 1, none⟩ = some v := by rw [Lib.cell_of_heap hbk]; rfl
  go_wp2_with (at_builtin; refine Lib.wpList_append_own_stringF _ rfl _ _ 80 9 rfl B 5 i0 Tryz.underlying80 Tryz.underlying9 hi hz0 hz1 hz2 _ _ _ rfl hown s rfl ?c3 ?c4 ?c5 ?_)
  case c3 => have := HL.out.1; unfold maxLen; omega
  case c4 => have := HL.out.1; omega
  case c5 => have := hb1.size; have := HL.out.2; omega
  intro v' w2 hown' hgrow _
  have hlt : b < w1.heap.size := heap_lt hbk
  have hb2 : w2.heap[b]? = some (.cells #[.pointer (some ⟨b, 0, none⟩), v] 82 (0, 0)) := by
    rw [hgrow.block b hlt (fun e => hne e.symm)]
    exact hbk
  have d0 : w2.cell? ⟨b, 0, none⟩ = some (.pointer (some ⟨b, 0, none⟩)) := by rw [Lib.cell_of_heap hb2]; rfl
  have d1 : w2.cell? ⟨b, 1, none⟩ = some v := by rw [Lib.cell_of_heap hb2]; rfl
  have f1 : w2.frozen? ⟨b, 1, none⟩ = false := Lib.frozen_of_heap hb2 1
  obtain ⟨ao, n', cap, rfl⟩ : ∃ ao n' cap, v' = .slice ao n' cap := by
    rcases hown'.2 with ⟨hv, _⟩ | ⟨g, cap, cur, fz, hv, _⟩
    · exact ⟨_, _, _, hv⟩
    · exact ⟨_, _, _, hv⟩
  have FIN : Hid (Lib.BuilderAtF 82 5 B b (.pointer (some ⟨b, 0, none⟩)) (bs ++ Lib.strCells s) (w2.setCell ⟨b, 1, none⟩ (.slice ao n' cap)) ∧ Below B w (w2.setCell ⟨b, 1, none⟩ (.slice ao n' cap)) ∧ Lib.OthersKept 5 (some b) w (w2.setCell ⟨b, 1, none⟩ (.slice ao n' cap))) := Lib.hid ⟨Lib.BuilderAtF.put (T := 82) (e := 5) hB hb2 (bs' := bs ++ Lib.strCells s) (by simpa [Lib.strCells_length] using hown') (by decide), (hb1.grown hgrow (by have := hb1.size; have := HL.out.2; omega) (fun k hk => (hown.lt k hk).1)).setCell (p := ⟨b, 1, none⟩) hB _, (hk1.grown hgrow (Lib.ownsRowF_kind hown)).setCell ⟨b, 1, none⟩ rfl _⟩
  go_wp2_with fail
  go_ret2
  exact ⟨rfl, FIN.out⟩
/-- At b a builder that holds the text s. -/
def BU (w : World) (B b : Nat) (s : ByteArray) : Prop := Lib.IsBuilderF 82 5 B b (Lib.strCells s) w
theorem builderAt_kb {w w' : World} {B b : Nat} {p : Value} {bs : List Value} (h : Lib.BuilderAtF 82 5 B b p bs w) (hk : KB F0 w w') : Lib.BuilderAtF 82 5 B b p bs w' := by
  obtain ⟨hB, v, hb, ⟨h1, h2⟩, hne⟩ := h
  refine ⟨hB, v, hk.heap (fun x => x) hb, ⟨h1, ?_⟩, hne⟩
  rcases h2 with h2 | ⟨g, cap, cur, fz, hv, hg, hh, r⟩
  · exact Or.inl h2
  · exact Or.inr ⟨g, cap, cur, fz, hv, hg, hk.heap (fun x => x) hh, r⟩
theorem BU.kb {w w' : World} {B b : Nat} {s : ByteArray} (h : BU w B b s) (hk : KB F0 w w') : BU w' B b s := by
  rcases h with h | h
  · exact Or.inl (builderAt_kb h hk)
  · exact Or.inr (builderAt_kb h hk)
theorem cells_app (s x : ByteArray) : Lib.strCells s ++ Lib.strCells x = Lib.strCells (s ++ x) := by
  rw [Lib.strCells_eq, Lib.strCells_eq, Lib.strCells_eq, ByteArray.data_append, Array.toList_append, Lib.byteCells_append]
theorem bu_new (w : World) {B : Nat} (hB : B ≤ w.heap.size) : BU (w.alloc (.cells #[.pointer none, .slice none 0 0] 82)) B w.heap.size ByteArray.empty := by
  refine Or.inl ⟨hB, .slice none 0 0, alloc_new _ _, World.ownsRowF_of (World.ownsRow_nil _ _ _ _), fun h => by cases h⟩
theorem ws_any (B b : Nat) (s x : ByteArray) (w : World) (h : BU w B b s) (hs : s.size + x.size ≤ 1000000000) (hB : B ≤ w.heap.size) :
    Calls Tryz.prog 45 #[.pointer (some ⟨b, 0, none⟩), .string x] w fun e w' => e = .returned (.tuple #[.int .i64 x.size, .nilIface]) ∧ (BU w' B b (s ++ x) ∧ Below B w w' ∧ Lib.OthersKept 5 (some b) w w') := by
  refine (wstr_any B b _ x w h (by rw [Lib.strCells_length]; omega) hB).mono ?_
  rintro e w' ⟨rfl, h1, h2⟩
  refine ⟨rfl, Or.inr ?_, h2⟩
  rw [← cells_app]
  exact h1
theorem str_any (B b : Nat) (s : ByteArray) (w : World) (h : BU w B b s) (hB : B ≤ w.heap.size) :
    Calls Tryz.prog 47 #[.pointer (some ⟨b, 0, none⟩)] w fun e w' => e = .returned (.string s) ∧ Below B w w' := by
  refine (Tryz.Builder_String_any_f B b s.data.toList w h hB).mono ?_
  rintro e w' ⟨rfl, h1, h2⟩
  exact ⟨by simp, h2⟩
/-- What a call leaves that writes only above B. -/
theorem kb_below {w0 w w' : World} (h : KB F0 w0 w) (hb : Below w0.heap.size w w') : KB F0 w0 w' :=
  ⟨hb.os.trans h.os, hb.tape.trans h.tape, hb.output.trans h.output, Nat.le_trans h.size hb.size, fun k hk hn => (hb.block k hk).trans (h.block k hk hn)⟩
theorem kb_grow {w w' : World} (h : ∃ k os, w' = Go.Sort.grow (w.drewN k) os) : KB F0 w w' := by
  obtain ⟨k, os, rfl⟩ := h
  exact ⟨rfl, rfl, rfl, by simp [Go.Sort.grow], fun i hi _ => Go.Sort.heap_grow_old (w.drewN k) os hi⟩
/-- What stands in the library's variables. -/
structure TabP (w : World) : Prop where
  pow : Lib.TabIs Tryz.prog w "internal/strconv.uint64pow10" .u64 Lib.pow10Tab
  syn : ∃ tp p, w.var? Tryz.prog "strconv.ErrSyntax" = some #[.iface tp p]
  rng : ∃ tp p, w.var? Tryz.prog "strconv.ErrRange" = some #[.iface tp p]
  len : ∃ m, w.cell? ⟨3, 0, none⟩ = some (.int .i64 m)
theorem var_kb {P : Program} {w w' : World} {n : String} {cs : Array Value} (hk : KB F0 w w') (h : w.var? P n = some cs) : w'.var? P n = some cs := by
  unfold World.var? at h ⊢
  cases hg : P.globalNamed n with
  | none => simp [hg] at h
  | some g =>
    simp only [hg, Option.bind_some] at h ⊢
    cases ho : w.heap[g]? with
    | none => simp [ho] at h
    | some o => rw [hk.heap (fun x => x) ho]; simpa [ho] using h
theorem TabP.kb {w w' : World} (h : TabP w) (hk : KB F0 w w') : TabP w' :=
  ⟨var_kb hk h.pow, by obtain ⟨a, b, h1⟩ := h.syn; exact ⟨a, b, var_kb hk h1⟩, by obtain ⟨a, b, h1⟩ := h.rng; exact ⟨a, b, var_kb hk h1⟩, by obtain ⟨m, hm⟩ := h.len; exact ⟨m, hk.cell (p := ⟨3, 0, none⟩) (fun x => x) hm⟩⟩
def In64 (n : Int) : Prop := -9223372036854775808 ≤ n ∧ n ≤ 9223372036854775807
theorem itoa_any (n : Int) (h : In64 n) (w : World) (hT : TabP w) : Calls Tryz.prog 46 #[.int .i64 n] w fun e w' => e = .returned (.string ⟨(Lib.itoa n).toArray⟩) ∧ KB F0 w w' := by
  refine (Tryz.strconv_Itoa n h.1 h.2 w hT.pow).mono ?_
  rintro e w' ⟨rfl, hk⟩
  exact ⟨rfl, kb_grow hk⟩
end Go.Proofs.YtpigppghcghpbaaGreatDoor

namespace Go.Proofs.YtpigppghcghpbaaGreatDoor
open Go.ChangeShapes Go.WideShapes Go.ChangeAt Go.RowKit

theorem Tryz.own : ownKnob Tryz.prog.godebug = none := by kernel_rfl
theorem Tryz.laidOut : laidOutB Tryz.prog = true := by kernel_rfl
theorem wf_i64 {n : Int} (h : (Lit.int .i64 n).wf = true) : -9223372036854775808 ≤ n ∧ n < 9223372036854775808 := by
  simp [Lit.wf] at h
  have e1 : IntKind.i64.min = -9223372036854775808 := rfl
  have e2 : IntKind.i64.max = 9223372036854775807 := rfl
  omega
def laidL : List (String × DataW Unit) := [("math/bits.deBruijn32tab", Rows.laid_math_bits_deBruijn32tab), ("math/bits.deBruijn64tab", Rows.laid_math_bits_deBruijn64tab), ("internal/strconv.uint64pow10", Rows.laid_internal_strconv_uint64pow10), ("unicode/utf8.acceptRanges", Rows.laid_unicode_utf8_acceptRanges), ("strconv.ErrRange", Rows.laid_strconv_ErrRange), ("strconv.ErrSyntax", Rows.laid_strconv_ErrSyntax), ("unicode/utf8.first", Rows.laid_unicode_utf8_first)]
set_option maxRecDepth 100000 in
theorem door_met (os : Os) (args : Array Value) : laidMetH Tryz.prog laidL ((World.laidAll Tryz.prog os laidL).forCall (fun _ _ => 0) ⟨#[], args, []⟩).memory := by
  rw [MakeChecks.laidMetH_plain _ _ _ (by kernel_rfl)]
  exact laidMet_laidAll _ (by kernel_rfl) (by kernel_rfl)
section
variable {H : Type} {enc : TypeId × Value → H}
/-- A row's witness, out of a start's shape. -/
theorem row_witness {C : Checked} {os : Os} {f : FuncId} {fn : Func} {s : OpenSpec} {conds : List PathCond} {apart : Bool} {laid : List (String × DataW Unit)} (modest : Bool) (w0 : World) (args : Array Value) (hos : w0.os = os)
    (hsh : (w0.forCall (fun _ _ => 0) ⟨#[], args, []⟩).Shaped C.prog)
    (hok : Input.okWideB C.prog (w0.forCall (fun _ _ => 0) ⟨#[], args, []⟩) f ⟨#[], args, []⟩ = true)
    (hrow : s.preRow enc C.prog fn conds apart laid (w0.forCall (fun _ _ => 0) ⟨#[], args, []⟩).memory args) :
    ∃ (w : World) (tape : Tape) (i : Input), w.os = os ∧ (w.forCall tape i).Shaped C.prog ∧ i.vars = [] ∧ Input.okWide C.prog (w.forCall tape i) .any w.heap.size f i ∧
      s.preRow enc C.prog fn conds apart laid (w.forCall tape i).memory i.args ∧ ({ modest := modest } : Assume).holds C.prog (lone (Frame.enter C.prog f i.args .normal) [] (w.forCall tape i)) :=
  ⟨w0, fun _ _ => 0, ⟨#[], args, []⟩, hos, hsh, (Input.okWide_of_okWideB (base := 0) hok).1, (Input.okWide_of_okWideB hok).2, hrow, by
    simp only [Assume.holds]
    exact ⟨by simp, by simp, fun _ => Modest.zero, by simp, by simp⟩⟩
end
theorem starErr : "*" ++ "errors.errorString" = "*errors.errorString" := by decide
theorem rowErr (u : TypeId) (h : Tryz.prog.typeName? 3 u = some "*errors.errorString") : u = 164 :=
  typeName_ptr_named (nm := "errors.errorString") (by rw [starErr]; kernel_rfl) (by kernel_rfl) (by decide) u (by rw [starErr]; exact h)
set_option maxRecDepth 100000 in
theorem tab_of_laid {W : World} (h : laidMetH Tryz.prog laidL W) (hsh : W.ShapedOpen Tryz.prog) : TabP W := by
  rw [MakeChecks.laidMetH_plain _ _ _ (by kernel_rfl)] at h
  have h2 := laidMet.tail (laidMet.tail h)
  have h4 := laidMet.tail (laidMet.tail h2)
  have h5 := laidMet.tail h4
  have z1 : Tryz.prog.cellsOf 166 = 1 := by kernel_rfl
  have z2 : Tryz.prog.cellsOf 9 = 1 := by kernel_rfl
  obtain ⟨m, hm⟩ := cell_of_shapedOpen_int (P := Tryz.prog) (g := 3) (t := 3) (zero := #[.int .i64 0]) hsh (of_decide_eq_true (by kernel_rfl)) (by kernel_rfl) rfl (by kernel_rfl) (by kernel_rfl) Tryz.underlying3
  obtain ⟨a1, s1, v1, -, -, -⟩ := laid_sentinel (n := "strconv.ErrRange") (nm := "*errors.errorString") (g := 1) (ti := 84) (tp := 164) (te := 166) (ts := 9) h4 (by kernel_rfl) (by kernel_rfl) Tryz.underlying84 rowErr Tryz.underlying164 Tryz.underlying166 rfl rfl Tryz.underlying9 z1 z2
  obtain ⟨a2, s2, v2, -, -, -⟩ := laid_sentinel (n := "strconv.ErrSyntax") (nm := "*errors.errorString") (g := 0) (ti := 84) (tp := 164) (te := 166) (ts := 9) h5 (by kernel_rfl) (by kernel_rfl) Tryz.underlying84 rowErr Tryz.underlying164 Tryz.underlying166 rfl rfl Tryz.underlying9 z1 z2
  exact ⟨Lib.tabIs_of_head (P := Tryz.prog) (g := 2) (by kernel_rfl) (by kernel_rfl) Tryz.underlying158 Tryz.underlying140 (by kernel_rfl) (by kernel_rfl) (show laidMet Tryz.prog (("internal/strconv.uint64pow10", Lib.tabData .u64 Lib.pow10Tab) :: _) W from h2), ⟨_, _, v2⟩, ⟨_, _, v1⟩, ⟨m, hm⟩⟩
end Go.Proofs.YtpigppghcghpbaaGreatDoor

namespace Go.Proofs.YtpigppghcghpbaaGreatDoor

inductive Ty where
  | mk (k : Int) (m : Bool) (r : Int) (s : Int) (of : List Ty)
namespace Ty
def k : Ty → Int | mk k _ _ _ _ => k
def m : Ty → Bool | mk _ m _ _ _ => m
def r : Ty → Int | mk _ _ r _ _ => r
def s : Ty → Int | mk _ _ _ s _ => s
def of : Ty → List Ty | mk _ _ _ _ l => l
end Ty
def ty0 : Ty := .mk 0 false 0 0 []
def in0 (t : Ty) : Ty := t.of.getD 0 ty0
/-- types.look. -/
def lookB (S : Nat) : Nat → Ty → Bool
  | 0, _ => false
  | n + 1, t =>
    let inn := decide (t.of.length = 1) && lookB S n (in0 t)
    let bare := !t.m && decide (t.r = 0)
    if t.k = 1 ∨ t.k = 2 then bare && (decide (t.s = 0) && decide (t.of.length = 0))
    else if t.k = 5 then bare && (decide (t.of.length = 0) && (decide (0 ≤ t.s) && decide (t.s < S)))
    else if t.k = 3 then bare && (decide (t.s = 0) && inn)
    else if t.k = 4 then decide (-1 ≤ t.r) && (decide (t.s = 0) && inn)
    else false
def lookV (S : Nat) (k : Int) (m : Bool) (r s : Int) (L : Nat) (q : Bool) : Bool :=
  if k = 1 ∨ k = 2 then (!m && decide (r = 0)) && (decide (s = 0) && decide (L = 0))
  else if k = 5 then (!m && decide (r = 0)) && (decide (L = 0) && (decide (0 ≤ s) && decide (s < (S : Int))))
  else if k = 3 then (!m && decide (r = 0)) && (decide (s = 0) && q)
  else if k = 4 then decide (-1 ≤ r) && (decide (s = 0) && q)
  else false
theorem lookB_succ (S n : Nat) (t : Ty) : lookB S (n + 1) t = lookV S t.k t.m t.r t.s t.of.length (decide (t.of.length = 1) && lookB S n (in0 t)) := rfl
/-- loanwordref09.MayType. -/
def mayB (S : Nat) (refs : Bool) : Nat → Ty → Bool
  | 0, _ => false
  | n + 1, t =>
    if (t.k ≠ 4 ∧ (t.m = true ∨ t.r ≠ 0)) ∨ (t.k ≠ 5 ∧ t.s ≠ 0) then false
    else if t.k = 1 ∨ t.k = 2 then decide (t.of.length = 0)
    else if t.k = 5 then decide (t.of.length = 0) && (decide (0 ≤ t.s) && decide (t.s < S))
    else if t.k = 3 then decide (t.of.length = 1) && mayB S refs n (in0 t)
    else if t.k = 4 then refs && (decide (t.of.length = 1) && (decide (-1 ≤ t.r) && mayB S refs n (in0 t)))
    else false
def mayV (S : Nat) (refs : Bool) (k : Int) (m : Bool) (r s : Int) (L : Nat) (q : Bool) : Bool :=
  if (k ≠ 4 ∧ (m = true ∨ r ≠ 0)) ∨ (k ≠ 5 ∧ s ≠ 0) then false
  else if k = 1 ∨ k = 2 then decide (L = 0)
  else if k = 5 then decide (L = 0) && (decide (0 ≤ s) && decide (s < (S : Int)))
  else if k = 3 then decide (L = 1) && q
  else if k = 4 then refs && (decide (L = 1) && (decide (-1 ≤ r) && q))
  else false
theorem mayB_succ (S n : Nat) (refs : Bool) (t : Ty) : mayB S refs (n + 1) t = mayV S refs t.k t.m t.r t.s t.of.length (mayB S refs n (in0 t)) := rfl
/-- The regions of a type's references, from the outermost one in, so deep at most. -/
def regsF : Nat → Ty → List Int
  | 0, _ => []
  | n + 1, t => (if t.k = 4 then [t.r] else []) ++ (if t.of.length = 0 then [] else regsF n (in0 t))
theorem mayB_look (S : Nat) : ∀ n t, mayB S true n t = lookB S n t := by
  intro n
  induction n with
  | zero => intro t; rfl
  | succ n ih =>
    intro t
    obtain ⟨k, m, r, s, l⟩ := t
    unfold mayB lookB
    simp only [Ty.k, Ty.m, Ty.r, Ty.s, Ty.of]
    rw [ih]
    by_cases h1 : k = 1 ∨ k = 2
    · have h4 : k ≠ 4 := by omega
      have h5 : k ≠ 5 := by omega
      cases m <;> by_cases hr : r = 0 <;> by_cases hs : s = 0 <;> simp [h1, h4, h5, hr, hs]
    · by_cases h5 : k = 5
      · subst h5
        cases m <;> by_cases hr : r = 0 <;> simp [hr]
      · by_cases h3 : k = 3
        · subst h3
          cases m <;> by_cases hr : r = 0 <;> by_cases hs : s = 0 <;> simp [hr, hs]
        · by_cases h4 : k = 4
          · subst h4
            by_cases hs : s = 0 <;> by_cases hl : l.length = 1 <;> by_cases hr : -1 ≤ r <;> simp [hs, hl, hr]
          · simp [h1, h5, h3, h4]
theorem mayB_bare (S : Nat) : ∀ n t, mayB S false n t = (lookB S n t && decide (regsF n t = [])) := by
  intro n
  induction n with
  | zero => intro t; rfl
  | succ n ih =>
    intro t
    obtain ⟨k, m, r, s, l⟩ := t
    unfold mayB lookB regsF
    simp only [Ty.k, Ty.m, Ty.r, Ty.s, Ty.of]
    rw [ih]
    by_cases h1 : k = 1 ∨ k = 2
    · have h4 : k ≠ 4 := by omega
      have h5 : k ≠ 5 := by omega
      by_cases hl : l.length = 0
      · cases m <;> by_cases hr : r = 0 <;> by_cases hs : s = 0 <;> simp [h1, h4, h5, hr, hs, hl]
      · cases m <;> by_cases hr : r = 0 <;> by_cases hs : s = 0 <;> simp [h1, h4, h5, hr, hs, hl]
    · by_cases h5 : k = 5
      · subst h5
        by_cases hl : l.length = 0
        · cases m <;> by_cases hr : r = 0 <;> simp [hr, hl]
        · cases m <;> by_cases hr : r = 0 <;> simp [hr, hl]
      · by_cases h3 : k = 3
        · subst h3
          by_cases hl : l.length = 1
          · cases m <;> by_cases hr : r = 0 <;> by_cases hs : s = 0 <;> simp [hr, hs, hl]
          · cases m <;> by_cases hr : r = 0 <;> by_cases hs : s = 0 <;> simp [hr, hs, hl]
        · by_cases h4 : k = 4
          · subst h4
            by_cases hs : s = 0 <;> simp [hs]
          · simp [h1, h5, h3, h4]
end Go.Proofs.YtpigppghcghpbaaGreatDoor
