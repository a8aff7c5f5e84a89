/- From a law's walk to its row: arguments opened, handed back. What the rows of the layout seat share: the listed tables' condition. Types, fields, structs among a row's arguments. -/
import Derived.Test.YtaeppaaolkcbbaaGreatDoorRows
import Derived.Test.YtaeppaaolkcbbaaGreatDoorMg00
import Derived.ProofKit
import Derived.Test.YtaeppaaolkcbbaaGreatDoorTie
import Derived.Test.YtaeppaaolkcbbaaGreatDoorCards
import Derived.LaidMore
import Derived.OpenShut
import Derived.Stop.Joined
import Derived.Stop.LaidErr
import Derived.SevenTiedAt
import Derived.Test.YtaeppaaolkcbbaaGreatDoorMg02
namespace Go.Proofs.YtaeppaaolkcbbaaGreatDoor
open Go.ChangeShapes Go.WideShapes Go.ChangeAt Go.RowKit

theorem Tryz.own : ownKnob Tryz.prog.godebug = none := by kernel_rfl
theorem Tryz.laidOut : laidOutB Tryz.prog = true := by kernel_rfl

def laidL : List (String × DataW Unit) := [("math/bits.deBruijn32tab", Rows.laid_math_bits_deBruijn32tab), ("math/bits.deBruijn64tab", Rows.laid_math_bits_deBruijn64tab), ("internal/strconv.uint64pow10", Rows.laid_internal_strconv_uint64pow10)]
set_option maxRecDepth 100000 in
theorem door_met (os : Os) (args : Array Value) : laidMetH Tryz.prog laidL ((World.doorLaid Tryz.prog 400 os).forCall (fun _ _ => 0) ⟨#[], args, []⟩).memory :=
 laidMetH_of_parts3 (fuel := 8) (laidMet_of_run' 8 (by kernel_rfl) (by kernel_rfl)) (by kernel_rfl) (by kernel_rfl)
open Go.ChangeShapes Go.WideShapes Go.ChangeAt Go.RowKit Go.ChangeMaps

theorem Tryz.cellsType : Tryz.prog.cellsOf 26 = 5 := by kernel_rfl
theorem Tryz.cellsFld : Tryz.prog.cellsOf 83 = 6 := by kernel_rfl
theorem Tryz.cellsStrct : Tryz.prog.cellsOf 81 = 2 := by kernel_rfl
section
variable {H : Type} {enc : TypeId × Value → H} {W : World}

theorem list_ofT {α : Type} {Q : Nat → α → Prop} {d : α} : ∀ (n : Nat), (∀ k, k < n → ∃ x, Q k x) → ∃ l : List α, l.length = n ∧ ∀ k, k < n → Q k (l.getD k d) := by
 intro n
 induction n with
 | zero => exact fun _ => ⟨[], rfl, fun k hk => absurd hk (Nat.not_lt_zero _)⟩
 | succ n ih =>
  intro h
  obtain ⟨l, hl, hq⟩ := ih (fun k hk => h k (by omega))
  obtain ⟨x, hx⟩ := h n (by omega)
  refine ⟨l ++ [x], by simp [hl], fun k hk => ?_⟩
  rcases Nat.lt_or_eq_of_le (Nat.lt_succ_iff.1 hk) with h1 | rfl
  ·have e : (l ++ [x]).getD k d = l.getD k d := by simp [List.getD_eq_getElem?_getD, List.getElem?_append_left (show k < l.length by omega)]
   rw [e]; exact hq k h1
  ·have e : (l ++ [x]).getD k d = x := by subst hl; simp [List.getD_eq_getElem?_getD]
   rw [e]; exact hx
set_option maxRecDepth 100000 in
/-- A slice of structs of so many cells. -/
theorem slice_of {T E : TypeId} {Z : Nat} (hT : Tryz.prog.underlying T = some (.slice E)) (hZ : Tryz.prog.cellsOf E = Z) (hZ0 : 0 < Z) {α : Type} {d : α} {Q : α → List Value → Prop} (hq : ∀ x cs, Q x cs → cs.length = Z)
  (hel : ∀ {n : Nat} {cs : List Value} {y : DataW H × List MemPlace}, DataW.trod enc Tryz.prog W 0 (fun _ => true) true n E cs = some y → ∃ x, Q x cs)
  {n : Nat} {cs : List Value} {y : DataW H × List MemPlace} (h : DataW.trod enc Tryz.prog W 0 (fun _ => true) true n T cs = some y) :
  ∃ (a : Option Addr) (l : List α) (cap : Nat), cs = [.slice a l.length cap] ∧ l.length ≤ cap ∧ cap ≤ maxLen ∧ ∀ i, i < l.length → ∃ b o us, a = some ⟨b, o, none⟩ ∧ Q (l.getD i d) us ∧ ∀ j u, us[j]? = some u → W.cell? ⟨b, o + i * Z + j, none⟩ = some u := by
 rcases DataW.trod_slice hT h with ⟨rfl, -⟩ | ⟨a, len, cap, elems, rest, m, -, rfl, -, -, hl, hm, hlen, hel', -, -⟩
 ·exact ⟨none, [], 0, rfl, Nat.le_refl _, by unfold maxLen; omega, fun i hi => by simp at hi⟩
 have hcell : ∀ k, k < len → ∃ x us, Q x us ∧ ∀ j u, us[j]? = some u → W.cell? (Addr.add (Addr.add a (k * Z)) j) = some u := fun k hk => by
  have hk1 := hel' k hk
  rw [hZ, show elems[k]? = some (elems[k]'(by omega)) from List.getElem?_eq_getElem _, Option.bind_eq_some_iff] at hk1
  obtain ⟨us, hcs, ht⟩ := hk1
  obtain ⟨x, hx⟩ := hel ht
  obtain ⟨h1, -, hc⟩ := World.cells?_some hcs
  refine ⟨x, us, hx, fun j u hj => ?_⟩
  have hjl := (List.getElem?_eq_some_iff.1 hj).1
  have := hc j (by have := hq x us hx; omega)
  rw [this]
  exact hj
 have hsp0 : 0 < len → a.spot = none := fun h0 => by
  obtain ⟨x, us, hx, hc⟩ := hcell 0 h0
  have hu0 : 0 < us.length := by rw [hq x us hx]; exact hZ0
  have := hc 0 us[0] (List.getElem?_eq_getElem hu0)
  have := World.cell?_spot this
  simpa [Addr.add] using this
 obtain ⟨ts, htl, hts⟩ := list_ofT (Q := fun k x => ∃ b o us, a = ⟨b, o, none⟩ ∧ Q x us ∧ ∀ j u, us[j]? = some u → W.cell? ⟨b, o + k * Z + j, none⟩ = some u) (d := d) len (fun k hk => by
  obtain ⟨x, us, hx, hc⟩ := hcell k hk
  obtain ⟨b, off, spot⟩ := a
  have hspot : spot = none := hsp0 (by omega)
  subst hspot
  refine ⟨x, b, off, us, rfl, hx, fun j u hj => ?_⟩
  have := hc j u hj
  rw [add_plain, add_plain] at this
  exact this)
 refine ⟨some a, ts, cap, by rw [htl], by omega, hm, fun i hi => ?_⟩
 obtain ⟨b, o, us, rfl, h1, h2⟩ := hts i (by omega)
 exact ⟨b, o, us, rfl, h1, h2⟩
def TyQ (W : World) (k : Nat) (t : Ty) (cs : List Value) : Prop := ∃ a c, cs = [.int .u8 t.k, .bool t.m, .int .i64 t.r, .int .i64 t.s, .slice a t.of.length c] ∧ TyAt k W t a c
theorem tyQ_len {k : Nat} : ∀ (t : Ty) (cs : List Value), TyQ W k t cs → cs.length = 5 := by rintro t cs ⟨a, c, rfl, -⟩; rfl
theorem tyCells_of {b o : Nat} {t : Ty} {a : Option Addr} {c : Nat} (h : ∀ j u, ([.int .u8 t.k, .bool t.m, .int .i64 t.r, .int .i64 t.s, .slice a t.of.length c] : List Value)[j]? = some u → W.cell? ⟨b, o + j, none⟩ = some u) : TyCells W b o t a c :=
 ⟨h 0 _ rfl, h 1 _ rfl, h 2 _ rfl, h 3 _ rfl, h 4 _ rfl⟩
set_option maxRecDepth 100000 in
theorem type_of : ∀ (k : Nat) {n : Nat} {cs : List Value} {y : DataW H × List MemPlace}, DataW.trod enc Tryz.prog W 0 (fun _ => true) true n 26 cs = some y → ∃ t, TyQ W k t cs := by
 intro k
 induction k with
 | zero =>
  intro n cs y h
  obtain ⟨xs, m, -, -, hl, hlen, hf⟩ := DataW.trod_struct Tryz.underlying26 h
  rw [Tryz.cellsType] at hl
  match cs, hl with
  | [c0, c1, c2, c3, c4], _ =>
  match xs, hlen with
  | [x0, x1, x2, x3, x4], _ =>
  have f0 := hf 0 _ rfl
  have f1 := hf 1 _ rfl
  have f2 := hf 2 _ rfl
  have f3 := hf 3 _ rfl
  have f4 := hf 4 _ rfl
  have z0 : Tryz.prog.cellsOf 23 = 1 := by kernel_rfl
  have z1 : Tryz.prog.cellsOf 4 = 1 := by kernel_rfl
  have z2 : Tryz.prog.cellsOf 3 = 1 := by kernel_rfl
  have z3 : Tryz.prog.cellsOf 24 = 1 := by kernel_rfl
  simp only [List.getElem_toArray, List.getElem_cons_zero, List.getElem_cons_succ, z0, z1, z2, z3, List.drop_zero, List.drop_succ_cons, List.take_succ_cons, List.take_zero, List.getElem?_cons_zero, List.getElem?_cons_succ] at f0 f1 f2 f3 f4
  obtain ⟨n0, e0, -, w0⟩ := DataW.trod_int Tryz.underlying23 f0
  obtain ⟨b1, e1, -⟩ := DataW.trod_bool Tryz.underlying4 f1
  obtain ⟨n2, e2, -, w2⟩ := DataW.trod_int Tryz.underlying3 f2
  obtain ⟨n3, e3, -, w3⟩ := DataW.trod_int Tryz.underlying3 f3
  obtain ⟨a, l, cap, e4, hlc, -, -⟩ := slice_of (enc := enc) (W := W) (α := Ty) (d := ty0) (Q := fun _ us => us.length = 5) Tryz.underlying24 Tryz.cellsType (by decide) (fun _ _ h => h) (fun h => ⟨ty0, by
   obtain ⟨_, _, -, -, hl, -, -⟩ := DataW.trod_struct Tryz.underlying26 h
   rw [Tryz.cellsType] at hl; exact hl⟩) f4
  simp only [List.cons.injEq, and_true] at e0 e1 e2 e3 e4
  subst e0 e1 e2 e3 e4
  exact ⟨.mk n0 b1 n2 n3 l, a, cap, rfl, trivial⟩
 | succ k ih =>
  intro n cs y h
  obtain ⟨xs, m, -, -, hl, hlen, hf⟩ := DataW.trod_struct Tryz.underlying26 h
  rw [Tryz.cellsType] at hl
  match cs, hl with
  | [c0, c1, c2, c3, c4], _ =>
  match xs, hlen with
  | [x0, x1, x2, x3, x4], _ =>
  have f0 := hf 0 _ rfl
  have f1 := hf 1 _ rfl
  have f2 := hf 2 _ rfl
  have f3 := hf 3 _ rfl
  have f4 := hf 4 _ rfl
  have z0 : Tryz.prog.cellsOf 23 = 1 := by kernel_rfl
  have z1 : Tryz.prog.cellsOf 4 = 1 := by kernel_rfl
  have z2 : Tryz.prog.cellsOf 3 = 1 := by kernel_rfl
  have z3 : Tryz.prog.cellsOf 24 = 1 := by kernel_rfl
  simp only [List.getElem_toArray, List.getElem_cons_zero, List.getElem_cons_succ, z0, z1, z2, z3, List.drop_zero, List.drop_succ_cons, List.take_succ_cons, List.take_zero, List.getElem?_cons_zero, List.getElem?_cons_succ] at f0 f1 f2 f3 f4
  obtain ⟨n0, e0, -, w0⟩ := DataW.trod_int Tryz.underlying23 f0
  obtain ⟨b1, e1, -⟩ := DataW.trod_bool Tryz.underlying4 f1
  obtain ⟨n2, e2, -, w2⟩ := DataW.trod_int Tryz.underlying3 f2
  obtain ⟨n3, e3, -, w3⟩ := DataW.trod_int Tryz.underlying3 f3
  obtain ⟨a, l, cap, e4, hlc, -, hl4⟩ := slice_of (enc := enc) (W := W) (d := ty0) (Q := TyQ W k) Tryz.underlying24 Tryz.cellsType (by decide) tyQ_len (fun h => ih h) f4
  simp only [List.cons.injEq, and_true] at e0 e1 e2 e3 e4
  subst e0 e1 e2 e3 e4
  refine ⟨.mk n0 b1 n2 n3 l, a, cap, rfl, hlc, fun i hi => ?_⟩
  obtain ⟨b, o, us, rfl, ⟨a', c', rfl, ht⟩, hc⟩ := hl4 i hi
  exact ⟨b, o, a', c', rfl, tyCells_of hc, ht⟩
def FdQ (W : World) (k : Nat) (t : Ty) (cs : List Value) : Prop := ∃ nm a c, cs = [.string nm, .int .u8 t.k, .bool t.m, .int .i64 t.r, .int .i64 t.s, .slice a t.of.length c] ∧ TyAt k W t a c
theorem fdQ_len {k : Nat} : ∀ (t : Ty) (cs : List Value), FdQ W k t cs → cs.length = 6 := by rintro t cs ⟨nm, a, c, rfl, -⟩; rfl
set_option maxRecDepth 100000 in
theorem field_of (k : Nat) {n : Nat} {cs : List Value} {y : DataW H × List MemPlace} (h : DataW.trod enc Tryz.prog W 0 (fun _ => true) true n 83 cs = some y) : ∃ t, FdQ W k t cs := by
 obtain ⟨xs, m, -, -, hl, hlen, hf⟩ := DataW.trod_struct Tryz.underlying83 h
 rw [Tryz.cellsFld] at hl
 match cs, hl with
 | [c0, c1, c2, c3, c4, c5], _ =>
 match xs, hlen with
 | [x0, x1], _ =>
 have f0 := hf 0 _ rfl
 have f1 := hf 1 _ rfl
 have z0 : Tryz.prog.cellsOf 9 = 1 := by kernel_rfl
 simp only [List.getElem_toArray, List.getElem_cons_zero, List.getElem_cons_succ, z0, Tryz.cellsType, List.drop_zero, List.drop_succ_cons, List.take_succ_cons, List.take_zero, List.getElem?_cons_zero, List.getElem?_cons_succ] at f0 f1
 obtain ⟨s, e0, -, w0⟩ := DataW.trod_string Tryz.underlying9 f0
 obtain ⟨t, a, c, e1, ht⟩ := type_of k f1
 simp only [List.cons.injEq, and_true] at e0 e1
 obtain ⟨rfl, rfl, rfl, rfl, rfl⟩ := e1
 subst e0
 exact ⟨t, s, a, c, rfl, ht⟩
def StQ (W : World) (k : Nat) (l : List Ty) (cs : List Value) : Prop := ∃ nm a c, cs = [.string nm, .slice a l.length c] ∧ l.length ≤ c ∧ FdsAt k W a l
theorem stQ_len {k : Nat} : ∀ (t : List Ty) (cs : List Value), StQ W k t cs → cs.length = 2 := by rintro t cs ⟨nm, a, c, rfl, -⟩; rfl
set_option maxRecDepth 100000 in
theorem struct_of (k : Nat) {n : Nat} {cs : List Value} {y : DataW H × List MemPlace} (h : DataW.trod enc Tryz.prog W 0 (fun _ => true) true n 81 cs = some y) : ∃ t, StQ W k t cs := by
 obtain ⟨xs, m, -, -, hl, hlen, hf⟩ := DataW.trod_struct Tryz.underlying81 h
 rw [Tryz.cellsStrct] at hl
 match cs, hl with
 | [c0, c1], _ =>
 match xs, hlen with
 | [x0, x1], _ =>
 have f0 := hf 0 _ rfl
 have f1 := hf 1 _ rfl
 have z0 : Tryz.prog.cellsOf 9 = 1 := by kernel_rfl
 have z1 : Tryz.prog.cellsOf 79 = 1 := by kernel_rfl
 simp only [List.getElem_toArray, List.getElem_cons_zero, List.getElem_cons_succ, z0, z1, List.drop_zero, List.drop_succ_cons, List.take_succ_cons, List.take_zero, List.getElem?_cons_zero, List.getElem?_cons_succ] at f0 f1
 obtain ⟨s, e0, -, w0⟩ := DataW.trod_string Tryz.underlying9 f0
 obtain ⟨a, l, cap, e1, hlc, -, hl1⟩ := slice_of (enc := enc) (W := W) (d := ty0) (Q := FdQ W k) Tryz.underlying79 Tryz.cellsFld (by decide) fdQ_len (fun h => field_of k h) f1
 simp only [List.cons.injEq, and_true] at e0 e1
 subst e0 e1
 refine ⟨l, s, a, cap, rfl, hlc, fun i hi => ?_⟩
 obtain ⟨b, o, us, rfl, ⟨nm, a', c', rfl, ht⟩, hc⟩ := hl1 i hi
 refine ⟨b, o, nm, a', c', rfl, hc 0 _ rfl, ⟨hc 1 _ rfl, hc 2 _ rfl, hc 3 _ rfl, hc 4 _ rfl, hc 5 _ rfl⟩, ht⟩
theorem structs_of (k : Nat) {n : Nat} {cs : List Value} {y : DataW H × List MemPlace} (h : DataW.trod enc Tryz.prog W 0 (fun _ => true) true n 22 cs = some y) :
  ∃ (a : Option Addr) (S : List (List Ty)) (cap : Nat), cs = [.slice a S.length cap] ∧ S.length ≤ cap ∧ StsAt k W a S := by
 obtain ⟨a, l, cap, e, hlc, -, hl⟩ := slice_of (enc := enc) (W := W) (d := ([] : List Ty)) (Q := StQ W k) Tryz.underlying22 Tryz.cellsStrct (by decide) stQ_len (fun h => struct_of k h) h
 refine ⟨a, l, cap, e, hlc, fun i hi => ?_⟩
 obtain ⟨b, o, us, rfl, ⟨nm, a', c', rfl, h1, h2⟩, hc⟩ := hl i hi
 exact ⟨b, o, nm, a', c', rfl, hc 0 _ rfl, hc 1 _ rfl, h1, h2⟩
set_option maxRecDepth 100000 in
/-- Structs among the arguments. -/
theorem arg_structs (k : Nat) {v : Value} {d : DataW H} {p : List MemPlace} {base : Nat} (hok : Value.okWide Tryz.prog W .any base 22 v) (h : DataW.Trod enc Tryz.prog W 0 (fun _ => true) true 22 v d p) :
  ∃ (a : Option Addr) (S : List (List Ty)) (c : Nat), v = .slice a S.length c ∧ S.length ≤ c ∧ StsAt k W a S := by
 obtain ⟨a0, len, cap, rfl⟩ := okWide_slice Tryz.underlying22 hok
 obtain ⟨fuel, hf⟩ := h
 obtain ⟨a, S, c, e, h1, h2⟩ := structs_of k hf
 have e2 : [Value.slice a0 len cap] = [Value.slice a S.length c] := e
 exact ⟨a, S, c, (List.cons.inj e2).1, h1, h2⟩
set_option maxRecDepth 100000 in
/-- A type among the arguments. -/
theorem arg_type (k : Nat) {v : Value} {d : DataW H} {p : List MemPlace} {base : Nat} (hok : Value.okWide Tryz.prog W .any base 26 v) (h : DataW.Trod enc Tryz.prog W 0 (fun _ => true) true 26 v d p) :
  ∃ (t : Ty) (a : Option Addr) (c : Nat), v = tyV t a c ∧ TyAt k W t a c := by
 obtain ⟨cs, rfl, -⟩ := okWide_struct Tryz.underlying26 hok
 obtain ⟨fuel, hf⟩ := h
 obtain ⟨t, a, c, hcs, h1⟩ := type_of k hf
 refine ⟨t, a, c, ?_, h1⟩
 have : cs.toList = [.int .u8 t.k, .bool t.m, .int .i64 t.r, .int .i64 t.s, .slice a t.of.length c] := hcs
 unfold tyV
 cases cs
 simp at this
 subst this
 rfl
theorem trodAll_five {P : Program} {w : World} {base : Nat} {spare : Nat → Bool} {held : Bool} {t0 t1 t2 t3 t4 : TypeId} {args : Array Value} {ds : List (DataW H)} {ps : List MemPlace} (h : DataW.TrodAll enc P w base spare held [t0, t1, t2, t3, t4] args.toList ds ps) :
  ∃ v0 v1 v2 v3 v4 d0 d1 d2 d3 d4 p0 p1 p2 p3 p4, args = #[v0, v1, v2, v3, v4] ∧ ds = [d0, d1, d2, d3, d4] ∧ ps = p0 ++ (p1 ++ (p2 ++ (p3 ++ p4))) ∧ DataW.Trod enc P w base spare held t0 v0 d0 p0 ∧ DataW.Trod enc P w base spare held t1 v1 d1 p1 ∧
   DataW.Trod enc P w base spare held t2 v2 d2 p2 ∧ DataW.Trod enc P w base spare held t3 v3 d3 p3 ∧ DataW.Trod enc P w base spare held t4 v4 d4 p4 := by
 obtain ⟨a0, as0, d0, ds0, p0, q0, hargs, rfl, rfl, hd0, hr0⟩ := trodAll_cons h
 obtain ⟨a1, as1, d1, ds1, p1, q1, rfl, rfl, rfl, hd1, hr1⟩ := trodAll_cons hr0
 obtain ⟨a2, as2, d2, ds2, p2, q2, rfl, rfl, rfl, hd2, hr2⟩ := trodAll_cons hr1
 obtain ⟨a3, as3, d3, ds3, p3, q3, rfl, rfl, rfl, hd3, hr3⟩ := trodAll_cons hr2
 obtain ⟨a4, as4, d4, ds4, p4, q4, rfl, rfl, rfl, hd4, hr4⟩ := trodAll_cons hr3
 obtain ⟨rfl, rfl, rfl⟩ := trodAll_nil hr4
 exact ⟨a0, a1, a2, a3, a4, d0, d1, d2, d3, d4, p0, p1, p2, p3, p4, by cases args; simp_all, rfl, by simp, hd0, hd1, hd2, hd3, hd4⟩
theorem trodAll_mk5 {P : Program} {w : World} {base : Nat} {spare : Nat → Bool} {held : Bool} {t0 t1 t2 t3 t4 : TypeId} {v0 v1 v2 v3 v4 : Value} {d0 d1 d2 d3 d4 : DataW H} {p0 p1 p2 p3 p4 : List MemPlace} (h0 : DataW.Trod enc P w base spare held t0 v0 d0 p0) (h1 : DataW.Trod enc P w base spare held t1 v1 d1 p1)
  (h2 : DataW.Trod enc P w base spare held t2 v2 d2 p2) (h3 : DataW.Trod enc P w base spare held t3 v3 d3 p3) (h4 : DataW.Trod enc P w base spare held t4 v4 d4 p4) :
  DataW.TrodAll enc P w base spare held [t0, t1, t2, t3, t4] [v0, v1, v2, v3, v4] [d0, d1, d2, d3, d4] (p0 ++ (p1 ++ (p2 ++ (p3 ++ p4)))) := ⟨p0, p1 ++ (p2 ++ (p3 ++ p4)), h0, trodAll_mk4 h1 h2 h3 h4, rfl⟩
end
end Go.Proofs.YtaeppaaolkcbbaaGreatDoor
