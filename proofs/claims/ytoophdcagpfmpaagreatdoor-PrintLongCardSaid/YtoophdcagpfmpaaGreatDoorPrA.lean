/- What print tells of a tree, plainly: expressions, types, lines. -/
import Derived.Test.YtoophdcagpfmpaaGreatDoorMg15
namespace Go.Proofs.YtoophdcagpfmpaaGreatDoor
open Go.RowKit

/-- Texts with something between each two. -/
def jnK (sep : ByteArray) (g : Nat → ByteArray) : Nat → ByteArray
  | 0 => ByteArray.empty
  | k + 1 => if k = 0 then g 0 else jnK sep g k ++ sep ++ g k
def catK (g : Nat → List ByteArray) : Nat → List ByteArray
  | 0 => []
  | k + 1 => catK g k ++ g k
/-- An expression's level. -/
def lvP (k : Nat) (s : ByteArray) : Nat :=
  if k = 32 then
    if s = ⟨#[124, 124]⟩ then 1 else if s = ⟨#[38, 38]⟩ then 2 else if s = ⟨#[43]⟩ ∨ s = ⟨#[45]⟩ then 4 else if s = ⟨#[42]⟩ ∨ s = ⟨#[47]⟩ ∨ s = ⟨#[37]⟩ then 5 else 3
  else if 28 ≤ k ∧ k ≤ 31 then 6 else if k = 27 then 7 else 8
def hasAmp (s : ByteArray) : Bool := Lib.hasPrefix s.data.toList [38]
def ampB (life : ByteArray) (m : Bool) (s : ByteArray) : ByteArray :=
  if life.size = 0 then
    if m = true then ⟨#[38, 109, 117, 116, 32]⟩ ++ s else if hasAmp s = true then ⟨#[38, 32]⟩ ++ s else ⟨#[38]⟩ ++ s
  else if m = true then ⟨#[38, 39]⟩ ++ life ++ ⟨#[32, 109, 117, 116, 32]⟩ ++ s else ⟨#[38, 39]⟩ ++ life ++ ⟨#[32]⟩ ++ s
abbrev kid (x : Nd) (i : Nat) : Nat := (x.l.getD i 0).toNat
/-- An expression without brackets around it; ch: its children at a level; ini: its children as fields. -/
def bareN (x : Nd) (ch : Nat → Nat → ByteArray) (ini : Nat → ByteArray) : ByteArray :=
  match x.k with
  | 24 => ⟨(Lib.itoa x.n).toArray⟩
  | 25 => if x.n = 1 then ⟨#[116, 114, 117, 101]⟩ else ⟨#[102, 97, 108, 115, 101]⟩
  | 26 => x.s
  | 27 => ch 0 7 ++ ⟨#[46]⟩ ++ x.s
  | 28 => ⟨#[42]⟩ ++ ch 0 6
  | 29 => ampB ByteArray.empty (x.n == 1) (ch 0 6)
  | 30 => ⟨#[45]⟩ ++ ch 0 6
  | 31 => ⟨#[33]⟩ ++ ch 0 6
  | 32 => ch 0 (if lvP 32 x.s = 3 then 4 else lvP 32 x.s) ++ ⟨#[32]⟩ ++ x.s ++ ⟨#[32]⟩ ++ ch 1 (lvP 32 x.s + 1)
  | 33 => x.s ++ ⟨#[40]⟩ ++ jnK ⟨#[44, 32]⟩ (fun i => ch i 1) x.l.length ++ ⟨#[41]⟩
  | 34 => x.s ++ ⟨#[32, 123, 32]⟩ ++ jnK ⟨#[44, 32]⟩ ini x.l.length ++ ⟨#[32, 125]⟩
  | 36 => ⟨#[98, 111, 120, 40]⟩ ++ ch 0 1 ++ ⟨#[41]⟩
  | _ => ⟨#[114, 101, 97, 100, 40, 41]⟩
def wrapN (x : Nd) (least : Nat) (b : ByteArray) : ByteArray := if lvP x.k x.s < least then ⟨#[40]⟩ ++ b ++ ⟨#[41]⟩ else b
def chE (rec : Nat → Nat → ByteArray) (x : Nd) : Nat → Nat → ByteArray := fun i least => if i < x.l.length then rec (kid x i) least else ByteArray.empty
def iniE (ts : List Nd) (rec : Nat → Nat → ByteArray) (x : Nd) : Nat → ByteArray := fun i =>
  if i < x.l.length then (ts.getD (kid x i) nd0).s ++ ⟨#[58, 32]⟩ ++ chE rec (ts.getD (kid x i) nd0) 0 1 else ByteArray.empty
def exF (ts : List Nd) : Nat → Nat → Nat → ByteArray
  | 0, _, _ => ByteArray.empty
  | f + 1, n, least => wrapN (ts.getD n nd0) least (bareN (ts.getD n nd0) (chE (exF ts f) (ts.getD n nd0)) (iniE ts (exF ts f) (ts.getD n nd0)))
def Ex (ts : List Nd) (n least : Nat) : ByteArray := exF ts ts.length n least
/-- A type. -/
def tyN (x : Nd) (ch : Nat → ByteArray) : ByteArray :=
  match x.k with
  | 8 => ⟨#[105, 54, 52]⟩
  | 9 => ⟨#[98, 111, 111, 108]⟩
  | 10 => ⟨#[66, 111, 120, 60]⟩ ++ ch 0 ++ ⟨#[62]⟩
  | 11 => ampB x.s (x.n == 1) (ch 0)
  | _ => x.s
def tyF (ts : List Nd) : Nat → Nat → ByteArray
  | 0, _ => ByteArray.empty
  | f + 1, n => tyN (ts.getD n nd0) (fun i => if i < (ts.getD n nd0).l.length then tyF ts f (kid (ts.getD n nd0) i) else ByteArray.empty)
def Ty (ts : List Nd) (n : Nat) : ByteArray := tyF ts ts.length n
def blB : Nat → ByteArray
  | 0 => ByteArray.empty
  | n + 1 => blB n ++ ⟨#[32, 32, 32, 32]⟩

section
variable (ts : List Nd)
def exK (x : Nd) (i : Nat) : ByteArray := if i < x.l.length then Ex ts (kid x i) 1 else ByteArray.empty
def tyK (x : Nd) (i : Nat) : ByteArray := if i < x.l.length then Ty ts (kid x i) else ByteArray.empty
def nmK (x : Nd) (i : Nat) : ByteArray := if i < x.l.length then (ts.getD (kid x i) nd0).s else ByteArray.empty
def typedB (n : Nat) : ByteArray := (ts.getD n nd0).s ++ ⟨#[58, 32]⟩ ++ tyK ts (ts.getD n nd0) 0
def tdK (x : Nd) (i : Nat) : ByteArray := if i < x.l.length then typedB ts (kid x i) else ByteArray.empty
def bndB (y : Nd) (j : Nat) : ByteArray := ⟨#[39]⟩ ++ nmK ts y j
def lifeB (n : Nat) : ByteArray :=
  if 0 < (ts.getD n nd0).l.length then (⟨#[39]⟩ ++ (ts.getD n nd0).s) ++ (⟨#[58, 32]⟩ ++ jnK ⟨#[32, 43, 32]⟩ (bndB ts (ts.getD n nd0)) (ts.getD n nd0).l.length) else ⟨#[39]⟩ ++ (ts.getD n nd0).s
def lfK (x : Nd) (i : Nat) : ByteArray := if i < x.l.length then lifeB ts (kid x i) else ByteArray.empty
def livesB (x : Nd) (k : Nat) : ByteArray := if 0 < k then ⟨#[60]⟩ ++ jnK ⟨#[44, 32]⟩ (lfK ts x) k ++ ⟨#[62]⟩ else ByteArray.empty
def parB (x : Nd) (k : Nat) : ByteArray := jnK ⟨#[44, 32]⟩ (fun i => tdK ts x (k + i)) (x.l.length - 2 - k)
def fnHead (x : Nd) : ByteArray :=
  ⟨#[102, 110, 32]⟩ ++ x.s ++ livesB ts x x.n.toNat ++ ⟨#[40]⟩ ++ parB ts x x.n.toNat ++ ⟨#[41, 32, 45, 62, 32]⟩ ++ tyK ts x (x.l.length - 2) ++ ⟨#[32]⟩
def structB (x : Nd) : ByteArray := ⟨#[115, 116, 114, 117, 99, 116, 32]⟩ ++ x.s ++ ⟨#[32, 123, 32]⟩ ++ jnK ⟨#[44, 32]⟩ (tdK ts x) x.l.length ++ ⟨#[32, 125]⟩
def letA (x : Nd) : ByteArray := if x.n = 1 ∨ x.n = 3 then (⟨#[108, 101, 116, 32]⟩ ++ x.s) ++ (⟨#[58, 32]⟩ ++ tyK ts x 0) else ⟨#[108, 101, 116, 32]⟩ ++ x.s
def letB (x : Nd) : ByteArray := if x.n = 2 ∨ x.n = 3 then letA ts x ++ (⟨#[32, 61, 32]⟩ ++ exK ts x (x.l.length - 1)) else letA ts x
/-- The lines of a statement whose first line begins with P, so far in. -/
def stN (rec : Nat → Nat → ByteArray → List ByteArray) (x : Nd) (inn : Nat) (P : ByteArray) : List ByteArray :=
  let ch := fun i inn P => if i < x.l.length then rec (kid x i) inn P else []
  match x.k with
  | 2 => [P ++ structB ts x]
  | 4 => ch (x.l.length - 1) inn (P ++ fnHead ts x)
  | 13 => [P ++ ⟨#[123]⟩] ++ catK (fun i => ch i (inn + 1) (blB (inn + 1))) x.l.length ++ [blB inn ++ ⟨#[125]⟩]
  | 14 => [P ++ (letB ts x ++ ⟨#[59]⟩)]
  | 15 => [P ++ (exK ts x 0 ++ ⟨#[32, 61, 32]⟩ ++ exK ts x 1 ++ ⟨#[59]⟩)]
  | 16 => if x.n = 0 then ch 1 inn (P ++ (⟨#[105, 102, 32]⟩ ++ exK ts x 0 ++ ⟨#[32]⟩))
          else (ch 1 inn (P ++ (⟨#[105, 102, 32]⟩ ++ exK ts x 0 ++ ⟨#[32]⟩))).dropLast ++ ch 2 inn (blB inn ++ ⟨#[125, 32, 101, 108, 115, 101, 32]⟩)
  | 17 => ch 1 inn (P ++ (⟨#[119, 104, 105, 108, 101, 32]⟩ ++ exK ts x 0 ++ ⟨#[32]⟩))
  | 18 => ch 0 inn (P ++ ⟨#[108, 111, 111, 112, 32]⟩)
  | 19 => [P ++ ⟨#[98, 114, 101, 97, 107, 59]⟩]
  | 20 => [P ++ ⟨#[99, 111, 110, 116, 105, 110, 117, 101, 59]⟩]
  | 21 => [P ++ (⟨#[114, 101, 116, 117, 114, 110, 32]⟩ ++ exK ts x 0 ++ ⟨#[59]⟩)]
  | 22 => [P ++ (⟨#[112, 114, 105, 110, 116, 40]⟩ ++ exK ts x 0 ++ ⟨#[41, 59]⟩)]
  | 23 => [P ++ (exK ts x 0 ++ ⟨#[59]⟩)]
  | _ => []
def stF : Nat → Nat → Nat → ByteArray → List ByteArray
  | 0, _, _, _ => []
  | f + 1, n, inn, P => stN ts (stF f) (ts.getD n nd0) inn P
def St5 (n inn : Nat) (P : ByteArray) : List ByteArray := stF ts ts.length n inn P
/-- The lines of a node. -/
def linesN : List ByteArray :=
  if (ts.getD 0 nd0).k = 1 then catK (fun i => if i < (ts.getD 0 nd0).l.length then St5 ts (kid (ts.getD 0 nd0) i) 0 ByteArray.empty else []) (ts.getD 0 nd0).l.length else St5 ts 0 0 ByteArray.empty
end

/-! The equations, of a tree whose children stand behind their parents. -/
section
variable {ts : List Nd}
theorem down_kid (hd : Down ts) {n : Nat} (hn : n < ts.length) {i : Nat} (hi : i < (ts.getD n nd0).l.length) : n < kid (ts.getD n nd0) i ∧ kid (ts.getD n nd0) i < ts.length := by
  have h := hd n hn _ (getD_memI hi)
  unfold kid; omega
theorem exF_fuel (hd : Down ts) (f : Nat) : ∀ f' n, n < ts.length → ts.length ≤ n + f → ts.length ≤ n + f' → exF ts f n = exF ts f' n := by
  induction f with
  | zero => intro f' n h1 h2; omega
  | succ f ih =>
    intro f' n h1 h2 h3
    obtain ⟨f', rfl⟩ : ∃ g, f' = g + 1 := ⟨f' - 1, by omega⟩
    have hk : ∀ m, n < m → m < ts.length → exF ts f m = exF ts f' m := fun m a b => ih f' m b (by omega) (by omega)
    have hc : chE (exF ts f) (ts.getD n nd0) = chE (exF ts f') (ts.getD n nd0) := by
      funext i least
      unfold chE
      by_cases hi : i < (ts.getD n nd0).l.length
      · have := down_kid hd h1 hi
        rw [if_pos hi, if_pos hi, hk _ this.1 this.2]
      · rw [if_neg hi, if_neg hi]
    have hi : iniE ts (exF ts f) (ts.getD n nd0) = iniE ts (exF ts f') (ts.getD n nd0) := by
      funext i
      unfold iniE
      by_cases hi : i < (ts.getD n nd0).l.length
      · have q := down_kid hd h1 hi
        rw [if_pos hi, if_pos hi]
        congr 1
        unfold chE
        by_cases hj : 0 < (ts.getD (kid (ts.getD n nd0) i) nd0).l.length
        · have := down_kid hd q.2 hj
          rw [if_pos hj, if_pos hj, hk _ (by omega) this.2]
        · rw [if_neg hj, if_neg hj]
      · rw [if_neg hi, if_neg hi]
    funext least
    unfold exF
    rw [hc, hi]
theorem Ex_eq (hd : Down ts) {n : Nat} (hn : n < ts.length) (least : Nat) : Ex ts n least = wrapN (ts.getD n nd0) least (bareN (ts.getD n nd0) (chE (Ex ts) (ts.getD n nd0)) (iniE ts (Ex ts) (ts.getD n nd0))) := by
  unfold Ex
  rw [exF_fuel hd ts.length (ts.length + 1) n hn (by omega) (by omega)]
  rfl
theorem tyF_fuel (hd : Down ts) (f : Nat) : ∀ f' n, n < ts.length → ts.length ≤ n + f → ts.length ≤ n + f' → tyF ts f n = tyF ts f' n := by
  induction f with
  | zero => intro f' n h1 h2; omega
  | succ f ih =>
    intro f' n h1 h2 h3
    obtain ⟨f', rfl⟩ : ∃ g, f' = g + 1 := ⟨f' - 1, by omega⟩
    unfold tyF
    congr 1
    funext i
    by_cases hi : i < (ts.getD n nd0).l.length
    · have := down_kid hd h1 hi
      rw [if_pos hi, if_pos hi, ih f' _ this.2 (by omega) (by omega)]
    · rw [if_neg hi, if_neg hi]
theorem Ty_eq (hd : Down ts) {n : Nat} (hn : n < ts.length) : Ty ts n = tyN (ts.getD n nd0) (tyK ts (ts.getD n nd0)) := by
  unfold Ty
  rw [tyF_fuel hd ts.length (ts.length + 1) n hn (by omega) (by omega)]
  rfl
theorem stF_fuel (hd : Down ts) (f : Nat) : ∀ f' n, n < ts.length → ts.length ≤ n + f → ts.length ≤ n + f' → stF ts f n = stF ts f' n := by
  induction f with
  | zero => intro f' n h1 h2; omega
  | succ f ih =>
    intro f' n h1 h2 h3
    obtain ⟨f', rfl⟩ : ∃ g, f' = g + 1 := ⟨f' - 1, by omega⟩
    funext inn P
    unfold stF stN
    have hk : (fun i inn P => if i < (ts.getD n nd0).l.length then stF ts f (kid (ts.getD n nd0) i) inn P else []) = fun i inn P => if i < (ts.getD n nd0).l.length then stF ts f' (kid (ts.getD n nd0) i) inn P else [] := by
      funext i inn P
      by_cases hi : i < (ts.getD n nd0).l.length
      · have := down_kid hd h1 hi
        rw [if_pos hi, if_pos hi, ih f' _ this.2 (by omega) (by omega)]
      · rw [if_neg hi, if_neg hi]
    rw [hk]
theorem St_eq (hd : Down ts) {n : Nat} (hn : n < ts.length) (inn : Nat) (P : ByteArray) : St5 ts n inn P = stN ts (St5 ts) (ts.getD n nd0) inn P := by
  unfold St5
  rw [stF_fuel hd ts.length (ts.length + 1) n hn (by omega) (by omega)]
  rfl
end
end Go.Proofs.YtoophdcagpfmpaaGreatDoor
