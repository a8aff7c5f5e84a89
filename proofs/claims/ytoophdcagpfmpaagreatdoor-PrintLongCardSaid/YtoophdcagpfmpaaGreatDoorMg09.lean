/- tree.just. What a node of each kind asks (the law), and contracts in the form in which the two great switches take them. -/
import Derived.Test.YtoophdcagpfmpaaGreatDoorTreeF
import Derived.Test.YtoophdcagpfmpaaGreatDoorMg04
namespace Go.Proofs.YtoophdcagpfmpaaGreatDoor
open Go.RowKit

/-- A slice of classes. -/
def ClsAt (w : World) (a : Option Addr) (cs : List Cls) : Prop :=
  ∀ k, k < cs.length → ∃ b off v, a = some ⟨b, off, none⟩ ∧ w.cell? ⟨b, off + k, none⟩ = some v ∧ ClsV w v (cs.getD k .ty)
theorem ClsAt.kb {w w' : World} {a : Option Addr} {cs : List Cls} (h : ClsAt w a cs) (hk : KB (fun _ => False) w w') : ClsAt w' a cs := by
  intro k hlt
  obtain ⟨b, off, v, ha, hc, hv⟩ := h k hlt
  exact ⟨b, off, v, ha, hk.cell (p := ⟨b, off + k, none⟩) (fun x => x) hc, hv.kb hk⟩
def justF (l : List Nat) (cs : List Cls) (k : Nat) : Bool := (cs.getD k .ty).ok (l.getD k 0)
def justB (l : List Nat) (cs : List Cls) : Bool := decide (l.length = cs.length) && (List.range cs.length).all (justF l cs)

set_option maxRecDepth 100000 in
set_option maxHeartbeats 4000000 in
theorem just_any (a a2 : Option Addr) (l : List Nat) (cs : List Cls) (cap cap2 : Nat) (w : World) (hl : l.length ≤ 9223372036854775807) (hl2 : cs.length ≤ 9223372036854775807) (ha : KindsAt w a l) (hc : ClsAt w a2 cs) :
    Calls Tryz.prog 156 #[.slice a l.length cap, .slice a2 cs.length cap2] w fun e w' => e = .returned (.bool (justB l cs)) ∧ w = w' := by
  have Hr : Hid (justB l cs = (decide (l.length = cs.length) && (List.range cs.length).all (justF l cs))) := Lib.hid rfl
  obtain ⟨r, hr⟩ : ∃ r, r = justB l cs := ⟨_, rfl⟩
  rw [← hr] at Hr ⊢
  have Ha := Lib.hid ha
  have Hc := Lib.hid hc
  clear hr ha hc
  obtain ⟨n, hn⟩ : ∃ n, n = l.length := ⟨_, rfl⟩
  obtain ⟨m, hm⟩ : ∃ m, m = cs.length := ⟨_, rfl⟩
  rw [← hn, ← hm]
  rw [← hn] at hl
  rw [← hm] at hl2
  have Hn := Lib.hid hn
  have Hm := Lib.hid hm
  clear hn hm
  by_cases hnm : n = m
  · have hr : Hid (r = (List.range cs.length).all (justF l cs)) := Lib.hid (by rw [Hr.out, ← Hn.out, ← Hm.out]; simp [hnm])
    have t0 : ((n : Int) != (m : Int)) = false := by simp [hnm]
    have Hnm := Lib.hid hnm
    clear hnm
    go_enter Tryz.func156, Tryz.ntmps156
    go_wp2_with fail
    go_loop [14] (fun i => ∃ k : Nat, k ≤ m ∧ i = .int .i64 k ∧ Hid (∀ j, j < k → justF l cs j = true)) (fun i => m - (intOf i).toNat)
    case atStart => exact ⟨0, by omega, rfl, fun j hj => by omega⟩
    case round =>
      obtain ⟨k, hk, rfl, hj⟩ := hrel
      by_cases hlt : k < m
      · obtain ⟨b, off, ha1, hc1⟩ := Ha.out k (by rw [← Hn.out, Hnm.out]; exact hlt)
        obtain ⟨b2, off2, v, ha2, hc2, hv⟩ := Hc.out k (by rw [← Hm.out]; exact hlt)
        subst ha1
        subst ha2
        have hkn : k < n := by have := Hnm.out; omega
        have hf : Hid (justF l cs k = (cs.getD k .ty).ok (l.getD k 0)) := Lib.hid rfl
        have hno : Hid (justF l cs k = false → r = false) := Lib.hid fun h => by
          rw [hr.out, List.all_eq_false]; exact ⟨k, by rw [List.mem_range, ← Hm.out]; exact hlt, by simp [h]⟩
        have hyes : Hid (justF l cs k = true → ∀ j, j < k + 1 → justF l cs j = true) := Lib.hid fun h j hj2 => by
          by_cases e : j = k
          · subst e; exact h
          · exact hj.out j (by omega)
        clear hj
        generalize justF l cs k = q at hf hno hyes
        generalize l.getD k 0 = y at hc1 hf
        generalize cs.getD k .ty = cl at hv hf
        cases cl with
        | ty =>
          have hv' : v = .func (.func 157) #[] #[] := hv
          subst hv'
          have Hcall := Lib.hid (isType_any y w)
          have hq : q = isTypeB y := hf.out
          clear hv
          rw [← hq] at Hcall
          clear hq hf
          cases q
          · have hr := Lib.hid (hno.out rfl)
            go_wp2_with fail
            refine Hcall.out.mono ?_
            rintro e w' ⟨rfl, rfl⟩
            go_wp2
            go_ret
            exact ⟨ret_eq (by rw [hr.out]; rfl), rfl⟩
          · have hj' := Lib.hid (hyes.out rfl)
            go_wp2_with fail
            refine Hcall.out.mono ?_
            rintro e w' ⟨rfl, rfl⟩
            go_wp2
            go_round
            case rel => exact ⟨k + 1, by omega, by go_num, hj'⟩
            case measure => simp [intOf]; omega
        | ex =>
          have hv' : v = .func (.func 158) #[] #[] := hv
          subst hv'
          have Hcall := Lib.hid (isExpr_any y w)
          have hq : q = isExprB y := hf.out
          clear hv
          rw [← hq] at Hcall
          clear hq hf
          cases q
          · have hr := Lib.hid (hno.out rfl)
            go_wp2_with fail
            refine Hcall.out.mono ?_
            rintro e w' ⟨rfl, rfl⟩
            go_wp2
            go_ret
            exact ⟨ret_eq (by rw [hr.out]; rfl), rfl⟩
          · have hj' := Lib.hid (hyes.out rfl)
            go_wp2_with fail
            refine Hcall.out.mono ?_
            rintro e w' ⟨rfl, rfl⟩
            go_wp2
            go_round
            case rel => exact ⟨k + 1, by omega, by go_num, hj'⟩
            case measure => simp [intOf]; omega
        | st =>
          have hv' : v = .func (.func 154) #[] #[] := hv
          subst hv'
          have Hcall := Lib.hid (isStmt_any y w)
          have hq : q = isStmtB y := hf.out
          clear hv
          rw [← hq] at Hcall
          clear hq hf
          cases q
          · have hr := Lib.hid (hno.out rfl)
            go_wp2_with fail
            refine Hcall.out.mono ?_
            rintro e w' ⟨rfl, rfl⟩
            go_wp2
            go_ret
            exact ⟨ret_eq (by rw [hr.out]; rfl), rfl⟩
          · have hj' := Lib.hid (hyes.out rfl)
            go_wp2_with fail
            refine Hcall.out.mono ?_
            rintro e w' ⟨rfl, rfl⟩
            go_wp2
            go_round
            case rel => exact ⟨k + 1, by omega, by go_num, hj'⟩
            case measure => simp [intOf]; omega
        | kd kl =>
          obtain ⟨kb, ka, kc, rfl, hk2, hk3, hk4⟩ := hv
          have Hcall := Lib.hid (kind1_any kb ka kl kc y w hk2 hk3 (by omega))
          have hq : q = (kl.any fun z => z == y) := hf.out
          clear hk2 hk3 hk4
          rw [← hq] at Hcall
          clear hq hf
          cases q
          · have hr := Lib.hid (hno.out rfl)
            go_wp2_with fail
            refine Hcall.out.mono ?_
            rintro e w' ⟨rfl, rfl⟩
            go_wp2
            go_ret
            exact ⟨ret_eq (by rw [hr.out]; rfl), rfl⟩
          · have hj' := Lib.hid (hyes.out rfl)
            go_wp2_with fail
            refine Hcall.out.mono ?_
            rintro e w' ⟨rfl, rfl⟩
            go_wp2
            go_round
            case rel => exact ⟨k + 1, by omega, by go_num, hj'⟩
            case measure => simp [intOf]; omega
      · obtain rfl : k = m := by omega
        have hr2 : Hid (r = true) := Lib.hid (by rw [hr.out, List.all_eq_true]; intro j hj2; exact hj.out j (by rw [Hm.out]; simpa using hj2))
        go_wp2
        go_ret
        exact ⟨ret_eq (by rw [hr2.out]; rfl), rfl⟩
  · have hr : Hid (r = false) := Lib.hid (by rw [Hr.out, ← Hn.out, ← Hm.out]; simp [hnm])
    have t0 : ((n : Int) != (m : Int)) = true := by simp; omega
    clear hnm
    go_enter Tryz.func156, Tryz.ntmps156
    go_wp2
    go_ret
    exact ⟨ret_eq (by rw [hr.out]; rfl), rfl⟩
end Go.Proofs.YtoophdcagpfmpaaGreatDoor

namespace Go.Proofs.YtoophdcagpfmpaaGreatDoor
open Go.RowKit

/-- A node. -/
structure Nd where
  k : Nat
  at_ : Int
  n : Int
  s : ByteArray
  l : List Int
def emptyB (s : ByteArray) : Bool := s.toList.isEmpty
def len0B (l : List Nat) : Bool := decide (l.length = 0)
/-- The children of an NFn: so many lifetimes, parameters, a type, a block. -/
def fnB (n : Int) (l : List Nat) : Bool :=
  let k := (max 0 (min n 8)).toNat
  if k + 2 ≤ l.length then
    askedB (l.take k) 0 16384 (.kd [5]) && (askedB ((l.drop k).take (l.length - 2 - k)) 0 8 (.kd [7]) && justB (l.drop (l.length - 2)) [.ty, .kd [13]])
  else false
/-- Whether the children are as asked; whether the text is; the least and the greatest number. -/
def askR (k : Nat) (n : Int) (s : ByteArray) (l : List Nat) : Bool × Bool × Int × Int :=
  match k with
  | 1 => (askedB l 0 16384 (.kd [2, 4]), emptyB s, 0, 0)
  | 2 => (askedB l 1 8 (.kd [3]), typeNameB s, 0, 0)
  | 3 => (justB l [.ty], nameB s, 0, 0)
  | 4 => (fnB n l, nameB s, 0, 8)
  | 5 => (askedB l 0 8 (.kd [6]), nameB s, 0, 0)
  | 6 => (len0B l, nameB s, 0, 0)
  | 7 => (justB l [.ty], nameB s, 0, 0)
  | 8 => (len0B l, emptyB s, 0, 0)
  | 9 => (len0B l, emptyB s, 0, 0)
  | 10 => (justB l [.ty], emptyB s, 0, 0)
  | 11 => (justB l [.ty], emptyB s || nameB s, 0, 1)
  | 12 => (len0B l, typeNameB s, 0, 0)
  | 13 => (askedB l 0 16384 .st, emptyB s, 0, 0)
  | 14 => (if n = 1 then justB l [.ty] else if n = 2 then justB l [.ex] else justB l [.ty, .ex], nameB s, 1, 3)
  | 15 => (justB l [.ex, .ex], emptyB s, 0, 0)
  | 16 => (decide (n = 0) && justB l [.ex, .kd [13]] || decide (n = 1) && justB l [.ex, .kd [13], .kd [13, 16]], emptyB s, 0, 1)
  | 17 => (justB l [.ex, .kd [13]], emptyB s, 0, 0)
  | 18 => (justB l [.kd [13]], emptyB s, 0, 0)
  | 19 => (len0B l, emptyB s, 0, 0)
  | 20 => (len0B l, emptyB s, 0, 0)
  | 21 => (justB l [.ex], emptyB s, 0, 0)
  | 22 => (justB l [.ex], emptyB s, 0, 0)
  | 23 => (justB l [.kd [33]], emptyB s, 0, 0)
  | 24 => (len0B l, emptyB s, 0, 9223372036854775807)
  | 25 => (len0B l, emptyB s, 0, 1)
  | 26 => (len0B l, nameB s, 0, 0)
  | 27 => (justB l [.ex], nameB s, 0, 0)
  | 28 => (justB l [.ex], emptyB s, 0, 0)
  | 29 => (justB l [.ex], emptyB s, 0, 1)
  | 30 => (justB l [.ex], emptyB s, 0, 0)
  | 31 => (justB l [.ex], emptyB s, 0, 0)
  | 32 => (justB l [.ex, .ex], sgB s, 0, 0)
  | 33 => (askedB l 0 8 .ex, nameB s, 0, 0)
  | 34 => (askedB l 1 8 (.kd [35]), typeNameB s, 0, 0)
  | 35 => (justB l [.ex], nameB s, 0, 0)
  | 36 => (justB l [.ex], emptyB s, 0, 0)
  | 37 => (len0B l, emptyB s, 0, 0)
  | _ => (false, emptyB s, 0, 0)
def askB (k : Nat) (n : Int) (s : ByteArray) (l : List Nat) : Bool :=
  (askR k n s l).1 && (askR k n s l).2.1 && decide ((askR k n s l).2.2.1 ≤ n) && decide (n ≤ (askR k n s l).2.2.2)

def u8s (ks : List Nat) : Array Value := (ks.map fun k => Value.int .u8 (k : Nat)).toArray
theorem kindsAt_row {w : World} {b : Nat} {ks : List Nat} {t : TypeId} (h : w.heap[b]? = some (.cells (u8s ks) t (0, 0))) : KindsAt w (some ⟨b, 0, none⟩) ks := by
  intro k hk
  refine ⟨b, 0, rfl, ?_⟩
  simp only [World.cell?, h, Nat.zero_add]
  simp [u8s, hk, List.getD_eq_getElem?_getD]
theorem kindCall {nb c : Nat} {ks : List Nat} (w : World) (hl : ks.length ≤ 100) (h : w.heap[nb]? = some (.cells (u8s ks) 41 (0, 0))) :
    Calls Tryz.prog 159 #[.slice (some ⟨nb, 0, none⟩) ks.length c] w fun e w' => ∃ b, e = .returned (.func (.func 188) #[] #[.pointer (some ⟨b, 0, none⟩)]) ∧ ClsV w' (.func (.func 188) #[] #[.pointer (some ⟨b, 0, none⟩)]) (.kd ks) ∧ KB F0 w w' := by
  refine (kind_any _ _ _ _).mono ?_
  rintro e w' ⟨rfl, rfl⟩
  have ka := (KB.refl F0 w).alloc (.cells #[.slice (some ⟨nb, 0, none⟩) ks.length c] 150)
  refine ⟨_, rfl, ⟨_, _, c, rfl, ?_, (kindsAt_row h).kbF ka, hl⟩, ka⟩
  have := alloc_new w (.cells #[.slice (some ⟨nb, 0, none⟩) ks.length c] 150)
  simp only [World.cell?, this]; rfl
theorem clsat_new {W : World} (vs : List Value) (cs : List Cls) (hl : vs.length = cs.length) (h : ∀ i, i < cs.length → ClsV W (vs.getD i undef) (cs.getD i .ty)) :
    ClsAt (W.alloc (.cells vs.toArray 181)) (some ⟨W.heap.size, 0, none⟩) cs := by
  intro k hk
  refine ⟨W.heap.size, 0, vs.getD k undef, rfl, ?_, (h k hk).kb ((KB.refl _ _).alloc _)⟩
  have := alloc_new W (.cells vs.toArray 181)
  simp only [World.cell?, this, Nat.zero_add]
  simp [List.getD_eq_getElem?_getD, show k < vs.length by omega]
theorem clsat1 {W : World} {v : Value} {c : Cls} (h : ClsV W v c) : ClsAt (W.alloc (.cells #[v] 181)) (some ⟨W.heap.size, 0, none⟩) [c] :=
  clsat_new [v] [c] rfl (fun i hi => by
    obtain rfl : i = 0 := by simp at hi; omega
    exact h)
theorem clsat2 {W : World} {v v' : Value} {c c' : Cls} (h : ClsV W v c) (h' : ClsV W v' c') : ClsAt (W.alloc (.cells #[v, v'] 181)) (some ⟨W.heap.size, 0, none⟩) [c, c'] :=
  clsat_new [v, v'] [c, c'] rfl (fun i hi => by
    simp only [List.length_cons, List.length_nil] at hi
    obtain rfl | rfl : i = 0 ∨ i = 1 := by omega
    · exact h
    · exact h')
theorem clsat3 {W : World} {v v' v'' : Value} {c c' c'' : Cls} (h : ClsV W v c) (h' : ClsV W v' c') (h'' : ClsV W v'' c'') : ClsAt (W.alloc (.cells #[v, v', v''] 181)) (some ⟨W.heap.size, 0, none⟩) [c, c', c''] :=
  clsat_new [v, v', v''] [c, c', c''] rfl (fun i hi => by
    simp only [List.length_cons, List.length_nil] at hi
    obtain rfl | rfl | rfl : i = 0 ∨ i = 1 ∨ i = 2 := by omega
    · exact h
    · exact h'
    · exact h'')
theorem justV (a a2 : Option Addr) (l : List Nat) (cs : List Cls) (cap cap2 : Nat) (w : World) (hl : l.length ≤ 9223372036854775807) (hl2 : cs.length ≤ 9223372036854775807) (ha : KindsAt w a l) (hc : ClsAt w a2 cs) :
    Calls Tryz.prog 156 #[.slice a l.length cap, .slice a2 cs.length cap2] w fun e w' => e = .returned (.bool (justB l cs)) ∧ KB F0 w w' :=
  (just_any a a2 l cs cap cap2 w hl hl2 ha hc).mono fun _ _ ⟨h1, h2⟩ => ⟨h1, by subst h2; exact KB.refl _ _⟩
theorem typeNameV (s : ByteArray) (w : World) (hs : s.size ≤ 9223372036854775807) : Calls Tryz.prog 160 #[.string s] w fun e w' => e = .returned (.bool (typeNameB s)) ∧ KB F0 w w' :=
  (typeName_any s w hs).mono fun _ _ ⟨h1, h2⟩ => ⟨h1, by subst h2; exact KB.refl _ _⟩
/-- The box of a node that is handed over. -/
theorem boxN (w : World) (ki at_ n : Int) (s : ByteArray) (la : Option Addr) (ll lc : Nat) : ∃ B0, Hid (B0 = w.alloc (.cells #[.int .u8 ki, .int .i64 at_, .int .i64 n, .string s, .slice la ll lc] 44)) ∧ KB F0 w B0 ∧
    B0.cell? ⟨w.heap.size, 0, none⟩ = some (.int .u8 ki) ∧ B0.cell? ⟨w.heap.size, 1, none⟩ = some (.int .i64 at_) ∧ B0.cell? ⟨w.heap.size, 2, none⟩ = some (.int .i64 n) ∧ B0.cell? ⟨w.heap.size, 3, none⟩ = some (.string s) ∧ Hid (w.heap.size + 1 = B0.heap.size) :=
  ⟨_, Lib.hid rfl, (KB.refl _ _).alloc _, new_cell _ _ _ 0, new_cell _ _ _ 1, new_cell _ _ _ 2, new_cell _ _ _ 3, Lib.hid (by simp)⟩
end Go.Proofs.YtoophdcagpfmpaaGreatDoor
