/- Nodes as data; tree.asks. -/
import Derived.Test.YtoophdcagpfmpaaGreatDoorTreeI1
import Derived.Test.YtoophdcagpfmpaaGreatDoorTreeI4
import Derived.Test.YtoophdcagpfmpaaGreatDoorTreeI7
namespace Go.Proofs.YtoophdcagpfmpaaGreatDoor
open Go.RowKit

theorem inside_any (k : Nat) (at_ n : Int) (s : ByteArray) (la : Option Addr) (ll lc : Nat) (a : Option Addr) (l : List Nat) (cap : Nat) (w : World) (hs : s.size ≤ 9223372036854775807) (hl : l.length ≤ 9223372036854775807) (ha : KindsAt w a l) (hT : Tab w) (hn1 : -9223372036854775808 ≤ n) (hn2 : n ≤ 9223372036854775807) (hk : 13 ≤ k) :
    Calls Tryz.prog 117 #[.agg #[.int .u8 k, .int .i64 at_, .int .i64 n, .string s, .slice la ll lc], .slice a l.length cap] w fun e w' => e = .returned (.bool (askB k n s l)) ∧ KB F0 w w' := by
  by_cases h38 : 38 ≤ k
  · exact asks_38 at_ n s la ll lc a l cap w k h38 hs hl ha hT hn1 hn2
  · obtain rfl | rfl | rfl | rfl | rfl | rfl | rfl | rfl | rfl | rfl | rfl | rfl | rfl | rfl | rfl | rfl | rfl | rfl | rfl | rfl | rfl | rfl | rfl | rfl | rfl : k = 13 ∨ k = 14 ∨ k = 15 ∨ k = 16 ∨ k = 17 ∨ k = 18 ∨ k = 19 ∨ k = 20 ∨ k = 21 ∨ k = 22 ∨ k = 23 ∨ k = 24 ∨ k = 25 ∨ k = 26 ∨ k = 27 ∨ k = 28 ∨ k = 29 ∨ k = 30 ∨ k = 31 ∨ k = 32 ∨ k = 33 ∨ k = 34 ∨ k = 35 ∨ k = 36 ∨ k = 37 := by omega
    · exact asks_g13 at_ n s la ll lc a l cap w hs hl ha hT hn1 hn2 13 13 (by decide)
    · by_cases h1 : n = 1
      · exact asks_14a at_ n s la ll lc a l cap w hs hl ha hT hn1 hn2 h1
      · by_cases h2 : n = 2
        · exact asks_14b at_ n s la ll lc a l cap w hs hl ha hT hn1 hn2 h2
        · exact asks_14c at_ n s la ll lc a l cap w hs hl ha hT hn1 hn2 h1 h2
    · exact asks_g15 at_ n s la ll lc a l cap w hs hl ha hT hn1 hn2 15 15 (by decide)
    · by_cases h1 : n = 0
      · exact asks_16a at_ n s la ll lc a l cap w hs hl ha hT hn1 hn2 h1
      · by_cases h2 : n = 1
        · exact asks_16b at_ n s la ll lc a l cap w hs hl ha hT hn1 hn2 h2
        · exact asks_16c at_ n s la ll lc a l cap w hs hl ha hT hn1 hn2 h1 h2
    · exact asks_g17 at_ n s la ll lc a l cap w hs hl ha hT hn1 hn2 17 17 (by decide)
    · exact asks_g18 at_ n s la ll lc a l cap w hs hl ha hT hn1 hn2 18 18 (by decide)
    · exact asks_g19 at_ n s la ll lc a l cap w hs hl ha hT hn1 hn2 19 19 (by decide)
    · exact asks_g19 at_ n s la ll lc a l cap w hs hl ha hT hn1 hn2 20 20 (by decide)
    · exact asks_g21 at_ n s la ll lc a l cap w hs hl ha hT hn1 hn2 21 21 (by decide)
    · exact asks_g21 at_ n s la ll lc a l cap w hs hl ha hT hn1 hn2 22 22 (by decide)
    · exact asks_g23 at_ n s la ll lc a l cap w hs hl ha hT hn1 hn2 23 23 (by decide)
    · exact asks_g24 at_ n s la ll lc a l cap w hs hl ha hT hn1 hn2 24 24 (by decide)
    · exact asks_g25 at_ n s la ll lc a l cap w hs hl ha hT hn1 hn2 25 25 (by decide)
    · exact asks_g26 at_ n s la ll lc a l cap w hs hl ha hT hn1 hn2 26 26 (by decide)
    · exact asks_g27 at_ n s la ll lc a l cap w hs hl ha hT hn1 hn2 27 27 (by decide)
    · exact asks_g21 at_ n s la ll lc a l cap w hs hl ha hT hn1 hn2 28 28 (by decide)
    · exact asks_g29 at_ n s la ll lc a l cap w hs hl ha hT hn1 hn2 29 29 (by decide)
    · exact asks_g21 at_ n s la ll lc a l cap w hs hl ha hT hn1 hn2 30 30 (by decide)
    · exact asks_g21 at_ n s la ll lc a l cap w hs hl ha hT hn1 hn2 31 31 (by decide)
    · exact asks_32 at_ n s la ll lc a l cap w hs hl ha hT hn1 hn2
    · exact asks_g33 at_ n s la ll lc a l cap w hs hl ha hT hn1 hn2 33 33 (by decide)
    · exact asks_g34 at_ n s la ll lc a l cap w hs hl ha hT hn1 hn2 34 34 (by decide)
    · exact asks_g27 at_ n s la ll lc a l cap w hs hl ha hT hn1 hn2 35 35 (by decide)
    · exact asks_g21 at_ n s la ll lc a l cap w hs hl ha hT hn1 hn2 36 36 (by decide)
    · exact asks_g19 at_ n s la ll lc a l cap w hs hl ha hT hn1 hn2 37 37 (by decide)
theorem items_any (k : Nat) (at_ n : Int) (s : ByteArray) (la : Option Addr) (ll lc : Nat) (a : Option Addr) (l : List Nat) (cap : Nat) (w : World) (hs : s.size ≤ 9223372036854775807) (hl : l.length ≤ 9223372036854775807) (hcap : l.length ≤ cap) (ha : KindsAt w a l) (hT : Tab w) (hn1 : -9223372036854775808 ≤ n) (hn2 : n ≤ 9223372036854775807) (hk : k ≤ 12) :
    Calls Tryz.prog 118 #[.agg #[.int .u8 k, .int .i64 at_, .int .i64 n, .string s, .slice la ll lc], .slice a l.length cap] w fun e w' => e = .returned (.bool (askB k n s l)) ∧ KB F0 w w' := by
  obtain rfl | rfl | rfl | rfl | rfl | rfl | rfl | rfl | rfl | rfl | rfl | rfl | rfl : k = 0 ∨ k = 1 ∨ k = 2 ∨ k = 3 ∨ k = 4 ∨ k = 5 ∨ k = 6 ∨ k = 7 ∨ k = 8 ∨ k = 9 ∨ k = 10 ∨ k = 11 ∨ k = 12 := by omega
  · exact asks_0 at_ n s la ll lc a l cap w hs hl ha hT hn1 hn2
  · exact asks_g1 at_ n s la ll lc a l cap w hs hl ha hT hn1 hn2 1 1 (by decide)
  · exact asks_g2 at_ n s la ll lc a l cap w hs hl ha hT hn1 hn2 2 2 (by decide)
  · exact asks_g3 at_ n s la ll lc a l cap w hs hl ha hT hn1 hn2 3 3 (by decide)
  · exact asks_4 at_ n s la ll lc a l cap w hs hl hcap ha hT hn1 hn2
  · exact asks_g5 at_ n s la ll lc a l cap w hs hl ha hT hn1 hn2 5 5 (by decide)
  · exact asks_g6 at_ n s la ll lc a l cap w hs hl ha hT hn1 hn2 6 6 (by decide)
  · exact asks_g3 at_ n s la ll lc a l cap w hs hl ha hT hn1 hn2 7 7 (by decide)
  · exact asks_g8 at_ n s la ll lc a l cap w hs hl ha hT hn1 hn2 8 8 (by decide)
  · exact asks_g8 at_ n s la ll lc a l cap w hs hl ha hT hn1 hn2 9 9 (by decide)
  · exact asks_g10 at_ n s la ll lc a l cap w hs hl ha hT hn1 hn2 10 10 (by decide)
  · exact asks_g11 at_ n s la ll lc a l cap w hs hl ha hT hn1 hn2 11 11 (by decide)
  · exact asks_g12 at_ n s la ll lc a l cap w hs hl ha hT hn1 hn2 12 12 (by decide)

def nd0 : Nd := ⟨0, 0, 0, ByteArray.empty, []⟩
structure NdOk (x : Nd) : Prop where
  k : x.k < 256
  at1 : -9223372036854775808 ≤ x.at_
  at2 : x.at_ ≤ 9223372036854775807
  n1 : -9223372036854775808 ≤ x.n
  n2 : x.n ≤ 9223372036854775807
  s : x.s.size ≤ 9223372036854775807
  l : ∀ c ∈ x.l, -9223372036854775808 ≤ c ∧ c ≤ 9223372036854775807
theorem nd0_ok : NdOk nd0 := ⟨by decide, by decide, by decide, by decide, by decide, by decide, fun c h => by cases h⟩
/-- A node lies somewhere. -/
structure NdAt (w : World) (b off : Nat) (x : Nd) : Prop where
  k : w.cell? ⟨b, off, none⟩ = some (.int .u8 (x.k : Nat))
  at_ : w.cell? ⟨b, off + 1, none⟩ = some (.int .i64 x.at_)
  n : w.cell? ⟨b, off + 2, none⟩ = some (.int .i64 x.n)
  s : w.cell? ⟨b, off + 3, none⟩ = some (.string x.s)
  l : ∃ la lc, w.cell? ⟨b, off + 4, none⟩ = some (.slice la x.l.length lc) ∧ IntsAt w la x.l ∧ x.l.length ≤ lc ∧ lc ≤ maxLen
def NodesAt (w : World) (a : Option Addr) (ts : List Nd) : Prop := ∀ k, k < ts.length → ∃ b off, a = some ⟨b, off, none⟩ ∧ NdAt w b (off + k * 5) (ts.getD k nd0)
theorem IntsAt.kbF {w w' : World} {a : Option Addr} {l : List Int} (h : IntsAt w a l) (hk : KB F0 w w') : IntsAt w' a l := h.kb hk (fun _ _ _ x => x)
theorem NdAt.kbF {w w' : World} {b off : Nat} {x : Nd} (h : NdAt w b off x) (hk : KB F0 w w') : NdAt w' b off x := by
  obtain ⟨la, lc, h1, h2, h3, h4⟩ := h.l
  exact ⟨hk.cell (p := ⟨b, off, none⟩) (fun x => x) h.k, hk.cell (p := ⟨b, off + 1, none⟩) (fun x => x) h.at_, hk.cell (p := ⟨b, off + 2, none⟩) (fun x => x) h.n,
    hk.cell (p := ⟨b, off + 3, none⟩) (fun x => x) h.s, la, lc, hk.cell (p := ⟨b, off + 4, none⟩) (fun x => x) h1, h2.kbF hk, h3, h4⟩
theorem NodesAt.kbF {w w' : World} {a : Option Addr} {ts : List Nd} (h : NodesAt w a ts) (hk : KB F0 w w') : NodesAt w' a ts := by
  intro k hlt
  obtain ⟨b, off, ha, hn⟩ := h k hlt
  exact ⟨b, off, ha, hn.kbF hk⟩
theorem getD_memN {ts : List Nd} {k : Nat} (h : k < ts.length) : ts.getD k nd0 ∈ ts := by
  rw [List.getD_eq_getElem?_getD, List.getElem?_eq_getElem h]; exact List.getElem_mem h
theorem getD_memI {l : List Int} {k : Nat} (h : k < l.length) : l.getD k 0 ∈ l := by
  rw [List.getD_eq_getElem?_getD, List.getElem?_eq_getElem h]; exact List.getElem_mem h

/-- The kind of a node of a tree. -/
def kindOf (ts : List Nd) (c : Int) : Nat := (ts.getD c.toNat nd0).k
def inB (ts : List Nd) (c : Int) : Bool := decide (0 ≤ c) && decide (c < (ts.length : Int))
/-- Is a node as its kind asks? -/
def asksN (ts : List Nd) (x : Nd) : Bool := decide (0 ≤ x.at_) && decide (x.l.length ≤ ts.length) && x.l.all (inB ts) && askB x.k x.n x.s (x.l.map (kindOf ts))
end Go.Proofs.YtoophdcagpfmpaaGreatDoor
