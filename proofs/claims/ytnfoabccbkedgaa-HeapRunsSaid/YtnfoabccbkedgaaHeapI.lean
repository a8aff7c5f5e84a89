/- The walks of heap.Base, Heap.Each, awake. -/
import Derived.Test.YtnfoabccbkedgaaHeapH
namespace Go.Proofs.Ytnfoabccbkedgaa
open Go.RowKit

theorem KB.seq {S S' : Nat → Prop} {w a c : World} (h : KB S w a) (k : KB S' a c) (hs : ∀ j, j < w.heap.size → S' j → S j) : KB S w c :=
  ⟨k.os.trans h.os, k.tape.trans h.tape, k.output.trans h.output, Nat.le_trans h.size k.size, fun i hi hn =>
    (k.block i (Nat.lt_of_lt_of_le hi h.size) (fun x => hn (hs i hi x))).trans (h.block i hi hn)⟩

set_option maxHeartbeats 1000000 in
theorem hbase_yes (c : Nat) (hc : c < 5) (w : World) :
    Calls Try.prog 21 #[.int .i64 c] w fun e w' => e = .returned (.tuple #[.int .i64 (hb c : Nat), .int .i64 0]) ∧ ∃ n, w' = w.drewN n := by
  have hbs := Lib.hid (fun w => base_any c (by omega) w)
  obtain rfl | rfl | rfl | rfl | rfl : c = 0 ∨ c = 1 ∨ c = 2 ∨ c = 3 ∨ c = 4 := by omega
  all_goals
    go_enter Try.func21, Try.ntmps21
    go_wp2_with fail
    refine (hbs.out _).mono ?_
    rintro e w' ⟨rfl, rfl⟩
    go_wp2
    go_ret2
    exact ⟨rfl, 0, rfl⟩

/-- The value that Each answers. -/
def eachFn (b : Nat) : Value := .func (.func 33) #[] #[.pointer (some ⟨b, 0, none⟩)]

set_option maxRecDepth 100000 in
set_option maxHeartbeats 1000000 in
theorem each_any (b : Nat) (s : HS) (w : World) (h : IH w b s) :
    Calls Try.prog 19 #[.pointer (some ⟨b,0,none⟩)] w fun e w' => e = .returned (eachFn w.heap.size) ∧ IH w' w.heap.size s ∧ KB (fun _ => False) w w' := by
  have hb := heap_lt h.1
  have kA : ∀ o, KB (fun _ => False) w (w.alloc o) := fun o => (KB.refl _ _).alloc o
  have c0 := fun o => (kA o).cell (p := ⟨b, 0, none⟩) (fun x => x) h.c0
  have t0 := fun o => (kA o).cell (p := ⟨b, 1, none⟩) (fun x => x) (cellT h (c := 0) (by omega))
  have t1 := fun o => (kA o).cell (p := ⟨b, 3, none⟩) (fun x => x) (cellT h (c := 1) (by omega))
  have t2 := fun o => (kA o).cell (p := ⟨b, 5, none⟩) (fun x => x) (cellT h (c := 2) (by omega))
  have t3 := fun o => (kA o).cell (p := ⟨b, 7, none⟩) (fun x => x) (cellT h (c := 3) (by omega))
  have t4 := fun o => (kA o).cell (p := ⟨b, 9, none⟩) (fun x => x) (cellT h (c := 4) (by omega))
  have m0 := fun o => (kA o).cell (p := ⟨b, 2, none⟩) (fun x => x) (cellM h (c := 0) (by omega))
  have m1 := fun o => (kA o).cell (p := ⟨b, 4, none⟩) (fun x => x) (cellM h (c := 1) (by omega))
  have m2 := fun o => (kA o).cell (p := ⟨b, 6, none⟩) (fun x => x) (cellM h (c := 2) (by omega))
  have m3 := fun o => (kA o).cell (p := ⟨b, 8, none⟩) (fun x => x) (cellM h (c := 3) (by omega))
  have m4 := fun o => (kA o).cell (p := ⟨b, 10, none⟩) (fun x => x) (cellM h (c := 4) (by omega))
  have hM := Lib.hid h.2
  clear kA h
  go_enter Try.func19, Try.ntmps19
  go_wp2_with fail
  refine (is_any _ true _ (c0 _)).mono ?_
  rintro e w' ⟨rfl, rfl⟩
  go_wp2
  go_ret
  refine ⟨rfl, ⟨alloc_new w _, hM.out⟩, ?_⟩
  repeat (first | exact KB.refl _ _ | assumption | refine KB.drewN ?_ _ | refine KB.drew ?_ | refine KB.alloc ?_ _ | (refine KB.setCell ?_ (fun h => (by first | (simp at h; done) | (simp at h; omega) | (exfalso; simp at h; omega) | exact rfl)) _))

theorem each_ne (b : Nat) (w : World) : (binOp BinOp.neq 49 (.func (.func 33) #[] #[.pointer (some ⟨b, 0, none⟩)]) .nilFunc).run Try.prog w = .ok (.bool true) w := by kernel_rfl
def S1 : HS := HS.new.mark 1 0
def S2 : HS := S1.mark 1 1
def S3 : HS := S2.free 1 0
def S4 : HS := S3.mark 1 0
theorem tk1 : HS.new.take 1 = (13, 0, S1) := rfl
theorem tk2 : S1.take 1 = (15, 0, S2) := rfl
theorem gv3 : S2.give 13 = (0, S3) := rfl
theorem tk4 : S3.take 1 = (13, 0, S4) := rfl
theorem cn4 : cnt (S4.T 1) = 2 := rfl
theorem mo4 : S4.M 1 = 2 := rfl
theorem tn4 : S4.taken 15 = (true, 0) := rfl
theorem same_self (s : HS) : s.same s = true := same_iff.2 (fun c _ => eqc_iff.2 (fun i _ => rfl))

set_option maxRecDepth 100000 in
set_option maxHeartbeats 2000000 in
theorem awake_any (w : World) : Calls Try.prog 6 #[] w fun e w' => e = .returned (.bool true) ∧ KB (fun _ => False) w w' := by
  obtain ⟨b, hb⟩ : ∃ b, b = w.heap.size := ⟨_, rfl⟩
  have hF : ∀ j, j < w.heap.size → j = b → False := fun j h1 h2 => by omega
  have Hnew := Lib.hid (new_any w)
  rw [← hb] at Hnew
  have HF := Lib.hid hF
  clear hF hb
  go_enter Try.func6, Try.ntmps6
  go_wp2_with fail
  refine Hnew.out.mono ?_
  rintro e w1 ⟨rfl, i1, k1⟩
  have I := Lib.hid i1
  have K := Lib.hid k1
  clear i1 k1
  go_wp2_with fail
  refine (take_any b HS.new 1 _ I.out).mono ?_
  rw [tk1]
  rintro e w2 ⟨rfl, i2, k2⟩
  replace K := Lib.hid (K.out.seq k2 HF.out)
  replace I := Lib.hid i2
  clear i2 k2
  go_wp2_with fail
  refine (take_any b S1 1 _ I.out).mono ?_
  rw [tk2]
  rintro e w3 ⟨rfl, i2, k2⟩
  replace K := Lib.hid (K.out.seq k2 HF.out)
  replace I := Lib.hid i2
  clear i2 k2
  go_wp2_with fail
  refine (give_any b S2 13 _ I.out).mono ?_
  rw [gv3]
  rintro e w4 ⟨rfl, i2, k2⟩
  replace K := Lib.hid (K.out.seq k2 HF.out)
  replace I := Lib.hid i2
  clear i2 k2
  go_wp2_with fail
  refine (take_any b S3 1 _ I.out).mono ?_
  rw [tk4]
  rintro e w5 ⟨rfl, i2, k2⟩
  replace K := Lib.hid (K.out.seq k2 HF.out)
  replace I := Lib.hid i2
  clear i2 k2
  go_wp2_with fail
  refine (hcount_yes b S4 1 (by omega) _ I.out).mono ?_
  rw [cn4]
  rintro e w6 ⟨rfl, k2⟩
  replace K := Lib.hid (K.out.trans k2)
  replace I := Lib.hid (I.out.kb k2 (fun x => x))
  clear k2
  go_wp2_with fail
  refine (hmost_yes b S4 1 (by omega) _ I.out).mono ?_
  rw [mo4]
  rintro e w7 ⟨rfl, k2⟩
  replace K := Lib.hid (K.out.trans k2)
  replace I := Lib.hid (I.out.kb k2 (fun x => x))
  clear k2
  go_wp2_with fail
  refine (taken_any b S4 15 _ I.out).mono ?_
  rw [tn4]
  rintro e w8 ⟨rfl, n8, rfl⟩
  replace K := Lib.hid (K.out.drewN n8)
  replace I := Lib.hid (I.out.kb ((KB.refl (fun _ => False) _).drewN n8) (fun x => x))
  generalize World.drewN _ n8 = w8 at *
  go_wp2_with fail
  refine (hbase_yes 4 (by omega) _).mono ?_
  rw [hb_vals.2.2.2.2.1]
  rintro e w9 ⟨rfl, n8, rfl⟩
  replace K := Lib.hid (K.out.drewN n8)
  replace I := Lib.hid (I.out.kb ((KB.refl (fun _ => False) _).drewN n8) (fun x => x))
  generalize World.drewN _ n8 = w9 at *
  go_wp2_with fail
  refine (class_yes 14 1 (by omega) (by decide) (by decide) _).mono ?_
  rintro e w10 ⟨rfl, n8, rfl⟩
  replace K := Lib.hid (K.out.drewN n8)
  replace I := Lib.hid (I.out.kb ((KB.refl (fun _ => False) _).drewN n8) (fun x => x))
  generalize World.drewN _ n8 = w10 at *
  go_wp2_with fail
  refine (size_any _).mono ?_
  rintro e w11 ⟨rfl, rfl⟩
  go_wp2_with fail
  refine (counts_any b S4 _ I.out).mono ?_
  rintro e w12 ⟨v, rfl, ho, k2⟩
  obtain ⟨a, cap, rfl, _, _, _, _⟩ := own_shape ho
  replace K := Lib.hid (K.out.trans k2)
  replace I := Lib.hid (I.out.kb k2 (fun x => x))
  clear k2 ho
  go_wp2_with fail
  refine (each_any b S4 _ I.out).mono ?_
  rintro e w13 ⟨rfl, _, k2⟩
  replace K := Lib.hid (K.out.trans k2)
  replace I := Lib.hid (I.out.kb k2 (fun x => x))
  clear k2
  unfold eachFn
  have hne := fun w => each_ne w12.heap.size w
  go_wp2_with fail
  refine (copy_any b S4 _ I.out).mono ?_
  rintro e w14 ⟨rfl, i2, k2⟩
  replace K := Lib.hid (K.out.trans k2)
  replace I := Lib.hid (I.out.kb k2 (fun x => x))
  clear k2
  go_wp2_with fail
  refine (same_any b _ S4 S4 _ I.out i2).mono ?_
  rw [same_self]
  rintro e w15 ⟨rfl, n8, rfl⟩
  go_wp2
  go_ret
  exact ⟨rfl, K.out.drewN _⟩
end Go.Proofs.Ytnfoabccbkedgaa
