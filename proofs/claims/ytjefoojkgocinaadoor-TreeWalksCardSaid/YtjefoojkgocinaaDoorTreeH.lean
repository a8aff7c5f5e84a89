/- What a node of each kind asks (the law), and contracts in the form in which the two great switches take them. -/
import Derived.Test.YtjefoojkgocinaaDoorTreeG
import Derived.Test.YtjefoojkgocinaaDoorRegionK
namespace Go.Proofs.YtjefoojkgocinaaDoor
open Go.RowKit

abbrev F0 : Nat → Prop := fun _ => False
/-- A node. -/
structure Nd where
  k : Nat
  at_ : Int
  n : Int
  s : ByteArray
  l : List Int
def emptyB (s : ByteArray) : Bool := s.toList.isEmpty
def len0B (l : List Nat) : Bool := decide (l.length = 0)
/-- The children of an NFn: so many lifetimes, parameters, a type, a block. -/
def fnB (n : Int) (l : List Nat) : Bool :=
  let k := (max 0 (min n 8)).toNat
  if k + 2 ≤ l.length then
    askedB (l.take k) 0 16384 (.kd [5]) && (askedB ((l.drop k).take (l.length - 2 - k)) 0 8 (.kd [7]) && justB (l.drop (l.length - 2)) [.ty, .kd [13]])
  else false
/-- Whether the children are as asked; whether the text is; the least and the greatest number. -/
def askR (k : Nat) (n : Int) (s : ByteArray) (l : List Nat) : Bool × Bool × Int × Int :=
  match k with
  | 1 => (askedB l 0 16384 (.kd [2, 4]), emptyB s, 0, 0)
  | 2 => (askedB l 1 8 (.kd [3]), typeNameB s, 0, 0)
  | 3 => (justB l [.ty], nameB s, 0, 0)
  | 4 => (fnB n l, nameB s, 0, 8)
  | 5 => (askedB l 0 8 (.kd [6]), nameB s, 0, 0)
  | 6 => (len0B l, nameB s, 0, 0)
  | 7 => (justB l [.ty], nameB s, 0, 0)
  | 8 => (len0B l, emptyB s, 0, 0)
  | 9 => (len0B l, emptyB s, 0, 0)
  | 10 => (justB l [.ty], emptyB s, 0, 0)
  | 11 => (justB l [.ty], emptyB s || nameB s, 0, 1)
  | 12 => (len0B l, typeNameB s, 0, 0)
  | 13 => (askedB l 0 16384 .st, emptyB s, 0, 0)
  | 14 => (if n = 1 then justB l [.ty] else if n = 2 then justB l [.ex] else justB l [.ty, .ex], nameB s, 1, 3)
  | 15 => (justB l [.ex, .ex], emptyB s, 0, 0)
  | 16 => (decide (n = 0) && justB l [.ex, .kd [13]] || decide (n = 1) && justB l [.ex, .kd [13], .kd [13, 16]], emptyB s, 0, 1)
  | 17 => (justB l [.ex, .kd [13]], emptyB s, 0, 0)
  | 18 => (justB l [.kd [13]], emptyB s, 0, 0)
  | 19 => (len0B l, emptyB s, 0, 0)
  | 20 => (len0B l, emptyB s, 0, 0)
  | 21 => (justB l [.ex], emptyB s, 0, 0)
  | 22 => (justB l [.ex], emptyB s, 0, 0)
  | 23 => (justB l [.kd [33]], emptyB s, 0, 0)
  | 24 => (len0B l, emptyB s, 0, 9223372036854775807)
  | 25 => (len0B l, emptyB s, 0, 1)
  | 26 => (len0B l, nameB s, 0, 0)
  | 27 => (justB l [.ex], nameB s, 0, 0)
  | 28 => (justB l [.ex], emptyB s, 0, 0)
  | 29 => (justB l [.ex], emptyB s, 0, 1)
  | 30 => (justB l [.ex], emptyB s, 0, 0)
  | 31 => (justB l [.ex], emptyB s, 0, 0)
  | 32 => (justB l [.ex, .ex], sgB s, 0, 0)
  | 33 => (askedB l 0 8 .ex, nameB s, 0, 0)
  | 34 => (askedB l 1 8 (.kd [35]), typeNameB s, 0, 0)
  | 35 => (justB l [.ex], nameB s, 0, 0)
  | 36 => (justB l [.ex], emptyB s, 0, 0)
  | 37 => (len0B l, emptyB s, 0, 0)
  | _ => (false, emptyB s, 0, 0)
def askB (k : Nat) (n : Int) (s : ByteArray) (l : List Nat) : Bool :=
  (askR k n s l).1 && (askR k n s l).2.1 && decide ((askR k n s l).2.2.1 ≤ n) && decide (n ≤ (askR k n s l).2.2.2)

def u8s (ks : List Nat) : Array Value := (ks.map fun k => Value.int .u8 (k : Nat)).toArray
theorem kindsAt_row {w : World} {b : Nat} {ks : List Nat} {t : TypeId} (h : w.heap[b]? = some (.cells (u8s ks) t (0, 0))) : KindsAt w (some ⟨b, 0, none⟩) ks := by
  intro k hk
  refine ⟨b, 0, rfl, ?_⟩
  simp only [World.cell?, h, Nat.zero_add]
  simp [u8s, hk, List.getD_eq_getElem?_getD]
theorem kindCall {nb c : Nat} {ks : List Nat} (w : World) (hl : ks.length ≤ 100) (h : w.heap[nb]? = some (.cells (u8s ks) 22 (0, 0))) :
    Calls Tryd.prog 71 #[.slice (some ⟨nb, 0, none⟩) ks.length c] w fun e w' => ∃ b, e = .returned (.func (.func 80) #[] #[.pointer (some ⟨b, 0, none⟩)]) ∧ ClsV w' (.func (.func 80) #[] #[.pointer (some ⟨b, 0, none⟩)]) (.kd ks) ∧ KB F0 w w' := by
  refine (kind_any _ _ _ _).mono ?_
  rintro e w' ⟨rfl, rfl⟩
  have ka := (KB.refl F0 w).alloc (.cells #[.slice (some ⟨nb, 0, none⟩) ks.length c] 77)
  refine ⟨_, rfl, ⟨_, _, c, rfl, ?_, (kindsAt_row h).kbF ka, hl⟩, ka⟩
  have := alloc_new w (.cells #[.slice (some ⟨nb, 0, none⟩) ks.length c] 77)
  simp only [World.cell?, this]; rfl
theorem clsat_new {W : World} (vs : List Value) (cs : List Cls) (hl : vs.length = cs.length) (h : ∀ i, i < cs.length → ClsV W (vs.getD i undef) (cs.getD i .ty)) :
    ClsAt (W.alloc (.cells vs.toArray 90)) (some ⟨W.heap.size, 0, none⟩) cs := by
  intro k hk
  refine ⟨W.heap.size, 0, vs.getD k undef, rfl, ?_, (h k hk).kb ((KB.refl _ _).alloc _)⟩
  have := alloc_new W (.cells vs.toArray 90)
  simp only [World.cell?, this, Nat.zero_add]
  simp [List.getD_eq_getElem?_getD, show k < vs.length by omega]
theorem clsat1 {W : World} {v : Value} {c : Cls} (h : ClsV W v c) : ClsAt (W.alloc (.cells #[v] 90)) (some ⟨W.heap.size, 0, none⟩) [c] :=
  clsat_new [v] [c] rfl (fun i hi => by
    obtain rfl : i = 0 := by simp at hi; omega
    exact h)
theorem clsat2 {W : World} {v v' : Value} {c c' : Cls} (h : ClsV W v c) (h' : ClsV W v' c') : ClsAt (W.alloc (.cells #[v, v'] 90)) (some ⟨W.heap.size, 0, none⟩) [c, c'] :=
  clsat_new [v, v'] [c, c'] rfl (fun i hi => by
    simp only [List.length_cons, List.length_nil] at hi
    obtain rfl | rfl : i = 0 ∨ i = 1 := by omega
    · exact h
    · exact h')
theorem clsat3 {W : World} {v v' v'' : Value} {c c' c'' : Cls} (h : ClsV W v c) (h' : ClsV W v' c') (h'' : ClsV W v'' c'') : ClsAt (W.alloc (.cells #[v, v', v''] 90)) (some ⟨W.heap.size, 0, none⟩) [c, c', c''] :=
  clsat_new [v, v', v''] [c, c', c''] rfl (fun i hi => by
    simp only [List.length_cons, List.length_nil] at hi
    obtain rfl | rfl | rfl : i = 0 ∨ i = 1 ∨ i = 2 := by omega
    · exact h
    · exact h'
    · exact h'')
theorem new_cell (w : World) (cs : Array Value) (t : TypeId) (i : Nat) : (w.alloc (.cells cs t)).cell? ⟨w.heap.size, i, none⟩ = cs[i]? := by
  have := alloc_new w (.cells cs t)
  simp only [World.cell?, this]; rfl
theorem justV (a a2 : Option Addr) (l : List Nat) (cs : List Cls) (cap cap2 : Nat) (w : World) (hl : l.length ≤ 9223372036854775807) (hl2 : cs.length ≤ 9223372036854775807) (ha : KindsAt w a l) (hc : ClsAt w a2 cs) :
    Calls Tryd.prog 68 #[.slice a l.length cap, .slice a2 cs.length cap2] w fun e w' => e = .returned (.bool (justB l cs)) ∧ KB F0 w w' :=
  (just_any a a2 l cs cap cap2 w hl hl2 ha hc).mono fun _ _ ⟨h1, h2⟩ => ⟨h1, by subst h2; exact KB.refl _ _⟩
theorem typeNameV (s : ByteArray) (w : World) (hs : s.size ≤ 9223372036854775807) : Calls Tryd.prog 21 #[.string s] w fun e w' => e = .returned (.bool (typeNameB s)) ∧ KB F0 w w' :=
  (typeName_any s w hs).mono fun _ _ ⟨h1, h2⟩ => ⟨h1, by subst h2; exact KB.refl _ _⟩
end Go.Proofs.YtjefoojkgocinaaDoor
