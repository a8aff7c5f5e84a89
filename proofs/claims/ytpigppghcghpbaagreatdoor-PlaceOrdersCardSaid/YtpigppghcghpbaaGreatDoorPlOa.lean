/- Two places lent side by side. -/
import Derived.Test.YtpigppghcghpbaaGreatDoorPlZa
import Derived.Test.YtpigppghcghpbaaGreatDoorRegNw
namespace Go.Proofs.YtpigppghcghpbaaGreatDoor
open Go.RowKit

/-- What lent answers. -/
def LentV (x : Int) (n : Nat) (v : Value) : Prop := ∃ g e, v = .agg #[.int .i64 x, .slice (some ⟨g, 0, none⟩) n e] ∧ n + 1 ≤ e
def LentW (B : Nat) (x : Int) (n : Nat) (l : List Int) (v : Value) (_ : Nat × Nat) (w : World) : Prop := ∀ g e, v = .agg #[.int .i64 x, .slice (some ⟨g, 0, none⟩) n e] → w.ownsRow B 56 1 (.slice (some ⟨g, 0, none⟩) (n + 1) e) (n + 1) (ints l)
theorem lentW_kb {B : Nat} {x : Int} {n : Nat} {l : List Int} : ∀ v i a b, KB F0 a b → LentW B x n l v i a → LentW B x n l v i b := fun _ _ _ _ hG h g e hv => own_kb (h g e hv) hG (fun _ _ x => x)
theorem lentV_ex (x : Int) (n : Nat) : ∃ v, LentV x n v := ⟨_, 0, n + 1, rfl, Nat.le_refl _⟩
/-- A place lent, with its row. -/
theorem lent_nw (p : Pl) (a : Option Addr) (c : Nat) (w : World) (h : PlAt w p a c) :
    Calls Tryz.prog 11 #[plV p a c] w fun e w' => ∃ v, e = .returned v ∧ LentV p.loc p.path.length v ∧ KB F0 w w' ∧ ∀ B i, B ≤ w.heap.size → LentW B p.loc p.path.length (p.path ++ [77]) v i w' := by
  refine (lent_any p a c w h).mono ?_
  rintro e w' ⟨g, d, rfl, hd, ho, hk⟩
  refine ⟨_, rfl, ⟨g, d, rfl, hd⟩, hk, fun B i hB g2 e2 hv => ?_⟩
  simp only [Value.agg.injEq, Array.mk.injEq, List.cons.injEq, Value.slice.injEq, Option.some.injEq, Addr.mk.injEq, and_true, true_and] at hv
  obtain ⟨rfl, rfl⟩ := hv
  unfold OwnI at ho
  rw [List.length_append] at ho
  exact own_base ho hB
/-- A cell that holds a lent place. -/
structure LentAt (w : World) (B : Nat) (x : Int) (N : Nat) (l : List Int) (n g e : Nat) : Prop where
  lo : B ≤ n
  cell : w.heap[n]? = some (.cells #[.int .i64 x, .slice (some ⟨g, 0, none⟩) N e] 26 (0, 0))
  cap : N + 1 ≤ e
  own : w.ownsRow B 56 1 (.slice (some ⟨g, 0, none⟩) (N + 1) e) (N + 1) (ints (l ++ [77]))
theorem LentAt.kbF {w w' : World} {B : Nat} {x : Int} {N : Nat} {l : List Int} {n g e : Nat} (h : LentAt w B x N l n g e) (hk : KB F0 w w') : LentAt w' B x N l n g e :=
  ⟨h.lo, hk.heap (fun x => x) h.cell, h.cap, own_kb h.own hk (fun _ _ x => x)⟩
theorem LentAt.kb {w w' : World} {B : Nat} {x : Int} {N : Nat} {l : List Int} {n g e : Nat} (h : LentAt w B x N l n g e) {S : Nat → Prop} (hk : KB S w w') (h1 : ¬ S n) (h2 : ¬ S g) : LentAt w' B x N l n g e :=
  ⟨h.lo, hk.heap h1 h.cell, h.cap, own_kb h.own hk (fun k hk => by simp only [Value.ownBlock, Option.some.injEq] at hk; subst hk; exact h2)⟩
theorem LentAt.ownI {w : World} {B : Nat} {p : Pl} {n g e : Nat} (h : LentAt w B p.loc p.path.length p.path n g e) : OwnI w B (.slice (some ⟨g, 0, none⟩) (p.path.length + 1) e) (p.path ++ [77]) := by
  unfold OwnI
  rw [List.length_append]
  exact h.own
theorem LentAt.pl {w : World} {B : Nat} {p : Pl} {n g e : Nat} (h : LentAt w B p.loc p.path.length p.path n g e) (hs : p.path.length ≤ 100000) : PlAt w p (some ⟨g, 0, none⟩) e := (lent_pl h.ownI hs h.cap).1
theorem LentAt.kept {w : World} {B : Nat} {p : Pl} {n g e : Nat} (h : LentAt w B p.loc p.path.length p.path n g e) (a : Option Addr) (c : Nat) (hp : PlAt w p a c) :
    Calls Tryz.prog 14 #[.agg #[.int .i64 p.loc, .slice (some ⟨g, 0, none⟩) p.path.length e], plV p a c] w fun e w' => e = .returned (.bool true) ∧ KB F0 w w' := kept_any p a c B g e w hp h.ownI h.cap
theorem KB.old {S : Nat → Prop} {w0 w1 w' : World} (h : KB F0 w0 w1) (hk : KB S w1 w') (hS : ∀ k, k < w0.heap.size → ¬ S k) : KB F0 w0 w' :=
  ⟨hk.os.trans h.os, hk.tape.trans h.tape, hk.output.trans h.output, Nat.le_trans h.size hk.size, fun i hi _ => (hk.block i (Nat.lt_of_lt_of_le hi h.size) (hS i hi)).trans (h.block i hi (fun x => x))⟩
/-- The two cells behind the region: each stored, the other one left. -/
theorem lent_two {w w1 : World} {x y : Int} {N M n m g e h f : Nat} {lp lq : List Int} (hG : KB F0 w w1) (hn : w.heap.size ≤ n) (hm : w.heap.size ≤ m) (hne : n ≠ m)
    (h1 : w1.heap[n]? = some (.cells #[.int .i64 0, .slice none 0 0] 26 (0, 0))) (h2 : w1.heap[m]? = some (.cells #[.int .i64 0, .slice none 0 0] 26 (0, 0)))
    (e1 : N + 1 ≤ e) (e2 : M + 1 ≤ f) (o1 : w1.ownsRow w.heap.size 56 1 (.slice (some ⟨g, 0, none⟩) (N + 1) e) (N + 1) (ints (lp ++ [77]))) (o2 : w1.ownsRow w.heap.size 56 1 (.slice (some ⟨h, 0, none⟩) (M + 1) f) (M + 1) (ints (lq ++ [77]))) :
    let W := (((w1.setCell ⟨n, 0, none⟩ (.int .i64 x)).setCell ⟨n, 1, none⟩ (.slice (some ⟨g, 0, none⟩) N e)).setCell ⟨m, 0, none⟩ (.int .i64 y)).setCell ⟨m, 1, none⟩ (.slice (some ⟨h, 0, none⟩) M f)
    KB F0 w W ∧ LentAt W w.heap.size x N lp n g e ∧ LentAt W w.heap.size y M lq m h f := by
  have hty : ∀ {k : Nat} {c : Array Value} {u : Value} {z j : Nat} {xs : List Value}, w1.heap[k]? = some (.cells c 26 (0, 0)) → w1.ownsRow w.heap.size 56 z u j xs → u.ownBlock = some k → False := fun hk hu hb => by
    obtain ⟨c1, h1, -⟩ := own_block hu hb
    rw [hk] at h1
    simp only [Option.some.injEq, Obj.cells.injEq] at h1
    exact absurd h1.2.1 (by decide)
  have hS : KB (fun k => k = n ∨ k = m) w1 ((((w1.setCell ⟨n, 0, none⟩ (.int .i64 x)).setCell ⟨n, 1, none⟩ (.slice (some ⟨g, 0, none⟩) N e)).setCell ⟨m, 0, none⟩ (.int .i64 y)).setCell ⟨m, 1, none⟩ (.slice (some ⟨h, 0, none⟩) M f)) :=
    (((((KB.refl _ _).setCell (p := ⟨n, 0, none⟩) (fun _ => Or.inl rfl) _).setCell (p := ⟨n, 1, none⟩) (fun _ => Or.inl rfl) _).setCell (p := ⟨m, 0, none⟩) (fun _ => Or.inr rfl) _).setCell (p := ⟨m, 1, none⟩) (fun _ => Or.inr rfl) _)
  have b1 := setCell_blk (i := 1) (setCell_blk (i := 0) h1 (.int .i64 x)) (.slice (some ⟨g, 0, none⟩) N e)
  have kn := (kb_set w1 n 0 (.int .i64 x)).trans (kb_set _ n 1 (.slice (some ⟨g, 0, none⟩) N e))
  have b2 := setCell_blk (i := 1) (setCell_blk (i := 0) (kn.heap (fun e => hne e.symm) h2) (.int .i64 y)) (.slice (some ⟨h, 0, none⟩) M f)
  have km := (kb_set ((w1.setCell ⟨n, 0, none⟩ (.int .i64 x)).setCell ⟨n, 1, none⟩ (.slice (some ⟨g, 0, none⟩) N e)) m 0 (.int .i64 y)).trans (kb_set _ m 1 (.slice (some ⟨h, 0, none⟩) M f))
  have b1' := km.heap (b := n) hne b1
  refine ⟨hG.old hS (fun k hk hh => by rcases hh with rfl | rfl <;> omega), ⟨hn, b1', e1, own_kb o1 hS (fun k e hk => ?_)⟩, ⟨hm, b2, e2, own_kb o2 hS (fun k e hk => ?_)⟩⟩
  · rcases hk with rfl | rfl
    · exact hty h1 o1 e
    · exact hty h2 o1 e
  · rcases hk with rfl | rfl
    · exact hty h1 o2 e
    · exact hty h2 o2 e
end Go.Proofs.YtpigppghcghpbaaGreatDoor
