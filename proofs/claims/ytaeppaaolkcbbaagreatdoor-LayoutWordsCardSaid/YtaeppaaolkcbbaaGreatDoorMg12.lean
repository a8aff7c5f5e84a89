/- DERIVED: THE SHELF's CONTRACTS AT THIS DUMP, IN PLAIN WORDS (tools/lay-plain.mjs out of 'YtaeppaaolkcbbaaGreatDoorShelfLy.lean', which tools/lay-shelf.mjs wrote): THE SAME DECLARATIONS UNDER THE SAME NAMES: 'import', 'namespace', 'open', 'def', 'theorem' AND NOTHING ELSE: no command of the shelf's: FOR A HAND-IN. Each laying: the table of numbers ('.._ren') and one theorem, a field a fact of the dump's own or the kernel's comparison; each contract: ONE APPLICATION. slices.Repeat of one number. types.text of a type without regions. -/
import Derived.Shelf.Strconv.Itoa0
import Derived.Shelf.Strconv.Itoa1
import Derived.Shelf.LaysM
import Derived.Shelf.Strconv.Itoa2
import Derived.Shelf.Strconv.Itoa3
import Derived.Shelf.Bits.Mul64
import Derived.Test.YtaeppaaolkcbbaaGreatDoorProg
import Derived.Test.YtaeppaaolkcbbaaGreatDoorMg11
import Derived.Laws.CopyOwn
import Derived.Deep.RegionLaw
namespace Go.Proofs
open Go.Shelf
def Tryz.lays171_ren : Go.Shelf.Ren := ⟨fun | 171 => 150 | 243 => 162 | 246 => 165 | 283 => 166 | 284 => 167 | 285 => 168 | 286 => 169 | 129 => 171 | 317 => 170 | 318 => 172 | 319 => 173 | 320 => 174 | 337 => 175 | 338 => 176 | n => n, fun | 3 => 3 | 9 => 9 | 2 => 2 | 4 => 4 | 171 => 233 | 0 => 0 | 53 => 220 | 37 => 236 | 5 => 5 | 173 => 237 | 212 => 241 | 51 => 217 | 20 => 20 | 213 => 242 | 46 => 179 | 232 => 245 | 233 => 246 | n => n, fun | 17 => 0 | 18 => 1 | 19 => 2 | n => n⟩
theorem Tryz.lays171 : Go.Proofs.Lays.n171 Tryz.prog Tryz.lays171_ren := {
 mixed := by kernel_rfl
 f129 := Tryz.func171.trans (congrArg some (by kernel_rfl))
 f171 := Tryz.func150.trans (congrArg some (by kernel_rfl))
 f243 := Tryz.func162.trans (congrArg some (by kernel_rfl))
 f246 := Tryz.func165.trans (congrArg some (by kernel_rfl))
 f283 := Tryz.func166.trans (congrArg some (by kernel_rfl))
 f284 := Tryz.func167.trans (congrArg some (by kernel_rfl))
 f285 := Tryz.func168.trans (congrArg some (by kernel_rfl))
 f286 := Tryz.func169.trans (congrArg some (by kernel_rfl))
 f317 := Tryz.func170.trans (congrArg some (by kernel_rfl))
 f318 := Tryz.func172.trans (congrArg some (by kernel_rfl))
 f319 := Tryz.func173.trans (congrArg some (by kernel_rfl))
 f320 := Tryz.func174.trans (congrArg some (by kernel_rfl))
 f337 := Tryz.func175.trans (congrArg some (by kernel_rfl))
 f338 := Tryz.func176.trans (congrArg some (by kernel_rfl))
 t0 := Tryz.underlying0
 a0 := Tryz.isAgg0
 z0 := Tryz.sizeOf0
 v0 := Tryz.zeroValue0
 t2 := Tryz.underlying2
 a2 := Tryz.isAgg2
 z2 := Tryz.sizeOf2
 v2 := Tryz.zeroValue2
 t3 := Tryz.underlying3
 a3 := Tryz.isAgg3
 z3 := Tryz.sizeOf3
 v3 := Tryz.zeroValue3
 t4 := Tryz.underlying4
 a4 := Tryz.isAgg4
 z4 := Tryz.sizeOf4
 v4 := Tryz.zeroValue4
 t5 := Tryz.underlying5
 a5 := Tryz.isAgg5
 z5 := Tryz.sizeOf5
 v5 := Tryz.zeroValue5
 t9 := Tryz.underlying9
 a9 := Tryz.isAgg9
 z9 := Tryz.sizeOf9
 v9 := Tryz.zeroValue9
 t20 := Tryz.underlying20
 a20 := Tryz.isAgg20
 z20 := Tryz.sizeOf20
 v20 := Tryz.zeroValue20
 t37 := Tryz.underlying236
 a37 := Tryz.isAgg236
 z37 := Tryz.sizeOf236
 v37 := Tryz.zeroValue236
 t46 := Tryz.underlying179
 a46 := Tryz.isAgg179
 z46 := Tryz.sizeOf179
 v46 := Tryz.zeroValue179
 t51 := Tryz.underlying217
 a51 := Tryz.isAgg217
 z51 := Tryz.sizeOf217
 v51 := Tryz.zeroValue217
 t53 := Tryz.underlying220
 a53 := Tryz.isAgg220
 z53 := Tryz.sizeOf220
 v53 := Tryz.zeroValue220
 t171 := Tryz.underlying233
 a171 := Tryz.isAgg233
 z171 := Tryz.sizeOf233
 v171 := Tryz.zeroValue233
 t173 := Tryz.underlying237
 a173 := Tryz.isAgg237
 z173 := Tryz.sizeOf237
 v173 := Tryz.zeroValue237
 t212 := Tryz.underlying241
 a212 := Tryz.isAgg241
 z212 := Tryz.sizeOf241
 v212 := Tryz.zeroValue241
 t213 := Tryz.underlying242
 a213 := Tryz.isAgg242
 z213 := Tryz.sizeOf242
 t232 := Tryz.underlying245
 a232 := Tryz.isAgg245
 z232 := Tryz.sizeOf245
 v232 := Tryz.zeroValue245
 t233 := Tryz.underlying246
 a233 := Tryz.isAgg246
 z233 := Tryz.sizeOf246
 v233 := Tryz.zeroValue246
 g17 := by kernel_rfl
 g18 := by kernel_rfl
 g19 := by kernel_rfl }
open Go.RowKit Go.Sort Go.Lib in
theorem Tryz.strconv_Itoa_small (i : Nat) (hi : i < 100) (w : World) :
  Calls Tryz.prog 150 #[.int .i64 i] w fun e w' => e = .returned (.string ⟨(Lib.decDigits i).toArray⟩) ∧ w' = w := Any.strconv_Itoa_small Tryz.lays171 i hi w
def Tryz.lays212_ren : Go.Shelf.Ren := ⟨fun | 212 => 114 | 263 => 148 | 264 => 149 | n => n, fun | 46 => 179 | 51 => 217 | 146 => 218 | 53 => 220 | 148 => 221 | n => n, fun | n => n⟩
theorem Tryz.lays212 : Go.Proofs.Lays.n212 Tryz.prog Tryz.lays212_ren := {
 mixed := by kernel_rfl
 f212 := Tryz.func114.trans (congrArg some (by kernel_rfl))
 f263 := Tryz.func148.trans (congrArg some (by kernel_rfl))
 f264 := Tryz.func149.trans (congrArg some (by kernel_rfl))
 t46 := Tryz.underlying179
 a46 := Tryz.isAgg179
 z46 := Tryz.sizeOf179
 v46 := Tryz.zeroValue179
 t51 := Tryz.underlying217
 a51 := Tryz.isAgg217
 z51 := Tryz.sizeOf217
 v51 := Tryz.zeroValue217
 t53 := Tryz.underlying220
 a53 := Tryz.isAgg220
 z53 := Tryz.sizeOf220
 v53 := Tryz.zeroValue220
 t146 := Tryz.underlying218
 a146 := Tryz.isAgg218
 z146 := Tryz.sizeOf218
 v146 := Tryz.zeroValue218
 t148 := Tryz.underlying221
 a148 := Tryz.isAgg221
 z148 := Tryz.sizeOf221
 v148 := Tryz.zeroValue221 }
open Go.RowKit Go.Lib in
theorem Tryz.bits_Mul (x y : Nat) (hx : x < 18446744073709551616) (hy : y < 18446744073709551616) (w : World) :
  Calls Tryz.prog 114 #[.int .u64 x, .int .u64 y] w fun e w' => e = .returned (.tuple #[.int .u64 ((x * y / 18446744073709551616 : Nat) : Int), .int .u64 ((x * y % 18446744073709551616 : Nat) : Int)]) ∧ w' = w := Any.bits_Mul Tryz.lays212 x y hx hy w
end Go.Proofs

namespace Go.Proofs.YtaeppaaolkcbbaaGreatDoor
open Go.RowKit

theorem wrap_u64' {x : Int} (h1 : 0 ≤ x) (h2 : x < 18446744073709551616) : IntKind.u64.wrap x = x := by
 show x % 18446744073709551616 = x
 exact Int.emod_eq_of_lt h1 h2
def repC (x : Int) (n c : Nat) : List Value := List.replicate c (.int .i64 x) ++ List.replicate (n - c) (.int .i64 0)
theorem repC_len (x : Int) (n c : Nat) (h : c ≤ n) : (repC x n c).length = n := by unfold repC; simp; omega
theorem repC_splice (x : Int) (n c m : Nat) (h : c + m ≤ n) : splice (repC x n c) c (List.replicate m (.int .i64 x)) = repC x n (c + m) := by
 unfold splice repC
 rw [List.take_append_of_le_length (by simp), List.take_of_length_le (by simp), List.length_replicate, List.drop_append, List.drop_eq_nil_of_le (by simp), List.nil_append, List.length_replicate, List.drop_replicate, ← List.append_assoc, List.replicate_append_replicate]
 congr 2
 omega
theorem make_ints (n : Nat) (hn : n ≤ 1000000) (x : Int) (w : World) : (Instr.makeSlice 40 (.int .i64 (n : Nat)) (.int .i64 (n : Nat))).run Tryz.prog w = .ok (.slice (some ⟨w.heap.size, 0, none⟩) n n) (w.alloc (.cells (repC x n 0).toArray 3)) := by
 obtain ⟨i, hi, hz0, hz1, hz2⟩ := info_parts Tryz.infoInt
 have h := run_makeSlice (P := Tryz.prog) (w := w) 40 3 i _ Tryz.underlying40 hi hz0 .i64 .i64 (n : Nat) (n : Nat) (by omega) (by omega) (by rw [hz1]; simp; omega) (by rw [hz2]; simp; omega) (by omega)
 have e : ∀ m, m = n → madeCells (Value.int .i64 0).cells m = (repC x n 0).toArray := by
  rintro _ rfl
  apply Array.ext
  ·unfold madeCells repC; simp
  ·intro j h1 h2
   unfold madeCells repC
   simp [Value.cells, Nat.mod_one]
 rw [h, Int.toNat_natCast, e _ (by rw [hz1]; omega)]
theorem below_F0 {w w' : World} (h : Below w.heap.size w w') : KB F0 w w' := ⟨h.os, h.tape, h.output, h.size, fun k hk _ => h.block k hk⟩
theorem cpStop (d s : Operand) {ops : Array Oper} {rest : List Oper} {dst : Option Tmp} {ty : TypeId} {pos : String} {af : Array Edge} {a : Act} {Q : Exit → Act → World → Prop} {w : World}
  (h : wpList Tryz.prog ops Q (⟨dst, Op.call { callee := .builtin .copy, args := #[d, s], argTypes := #[40, 40] }, ty, pos, af, none⟩ :: rest) a w) :
  wpList Tryz.prog ops Q (⟨dst, Op.call { callee := .builtin .copy, args := #[d, s], argTypes := #[40, 40] }, ty, pos, af, none⟩ :: rest) a w := h
set_option maxRecDepth 100000 in
set_option maxHeartbeats 16000000 in
theorem repeat_any (x : Int) (n : Nat) (hn : n ≤ 1000000) (b0 : Nat) (w : World) (h0 : w.heap[b0]? = some (.cells #[.int .i64 x] 3 (0, 0))) :
  Calls Tryz.prog 96 #[.slice (some ⟨b0, 0, none⟩) 1 1, .int .i64 (n : Nat)] w fun e w' => ∃ g, e = .returned (.slice (some ⟨g, 0, none⟩) n n) ∧ w.heap.size ≤ g ∧ w'.heap[g]? = some (.cells (repC x n n).toArray 3 (0, 0)) ∧ KB F0 w w' := by
 obtain ⟨w0, rfl⟩ : ∃ w0, w0 = w := ⟨_, rfl⟩
 have MU := Lib.hid (Tryz.bits_Mul 1 n (by omega) (by omega) w0)
 rw [Nat.one_mul, Nat.div_eq_of_lt (by omega), Nat.mod_eq_of_lt (by omega)] at MU
 have c0 : w0.cell? ⟨b0, 0, none⟩ = some (.int .i64 x) := blk_cell h0 0
 have H0 := Lib.hid h0
 have d1 : decide ((n : Int) < 0) = false := decide_eq_false (by omega)
 have d2 : decide ((9223372036854775807 : Int) < (n : Int)) = false := decide_eq_false (by omega)
 have d3 : decide (9223372036854775807 < n) = false := decide_eq_false (by omega)
 have wu : IntKind.u64.wrap (n : Int) = (n : Int) := wrap_u64' (by omega) (by omega)
 have wi : IntKind.i64.wrap (n : Int) = (n : Int) := w64 (by omega) (by omega)
 have MK := make_ints n hn x w0
 clear h0
 go_enter Tryz.func96, Tryz.ntmps96
 go_wp2_with fail
 refine MU.out.mono ?_
 rintro e w1 ⟨rfl, rfl⟩
 go_upto_region 7 with fail
 obtain ⟨w2, h2⟩ : ∃ w2, w2 = w1.alloc (.cells (repC x n 0).toArray 3) := ⟨_, rfl⟩
 rw [← h2]
 have k2 : KB F0 w1 w2 := by rw [h2]; exact (KB.refl _ _).alloc _
 have b2 : w2.heap[w1.heap.size]? = some (.cells (repC x n 0).toArray 3 (0, 0)) := by rw [h2]; exact alloc_new _ _
 have c2 := k2.cell (p := ⟨b0, 0, none⟩) (fun x => x) c0
 have HB : Hid (Below w1.heap.size w1 w2) := Lib.hid ⟨k2.os, k2.tape, k2.output, k2.size, fun k hk => k2.block k hk (fun x => x)⟩
 have HG := Lib.hid b2
 obtain ⟨g, hg⟩ : ∃ g, g = w1.heap.size := ⟨_, rfl⟩
 have HGE := Lib.hid hg
 rw [← hg] at HG ⊢
 clear h2 k2 b2 MK hg
 go_wp2_with (refine cpStop (.tmp 31) (.tmp 32) (Stopped.out ?_))
 refine ⟨?_⟩
 obtain ⟨m, hm⟩ : ∃ m, m = min n 1 := ⟨_, rfl⟩
 refine wpList_copy_splice rfl (.tmp 31) (.tmp 32) 40 40 rfl 3 Tryz.underlying40 (by kernel_rfl) (some ⟨g, 0, none⟩) (some ⟨b0, 0, none⟩) n n 1 1 rfl rfl g 0 (repC x n 0) 3 HG.out (List.replicate m (.int .i64 x)) (by rw [List.length_replicate, hm]; exact Nat.min_comm _ _) (fun _ => ⟨rfl, _, rfl, fun j v hj => by
   rw [List.getElem?_replicate] at hj
   split at hj
   ·have : j = 0 := by omega
    subst this
    cases hj; exact c2
   ·cases hj⟩) (by rw [repC_len x n 0 (by omega)]; simp; omega) (fun v hv => by rw [List.eq_of_mem_replicate hv]; rfl) w1.heap.size w1 HB.out (by rw [HGE.out]; exact Nat.le_refl _) ?_
 intro w3 HG3 HB3
 rw [repC_splice x n 0 m (by omega), Nat.zero_add] at HG3
 rw [List.length_replicate]
 have HB3' := Lib.hid HB3
 have hm1 : m ≤ n := by omega
 have HMN : Hid (0 < n → 0 < m) := Lib.hid (by omega)
 clear HB3 HG HB c2 hm
 go_wp2_with fail
 go_loopw [8] (fun kv wr => ∃ c : Nat, c ≤ n ∧ kv = .int .i64 (c : Nat) ∧ Hid (wr.heap[g]? = some (.cells (repC x n c).toArray 3 (0, 0)) ∧ Below w1.heap.size w1 wr ∧ (0 < n → 0 < c))) (fun kv _ => n - (intOf kv).toNat)
 case atStart => exact ⟨m, hm1, rfl, Lib.hid ⟨HG3.out, HB3'.out, HMN.out⟩⟩
 case round =>
  obtain ⟨c, hc, rfl, hst⟩ := hrel
  by_cases hlt : c < n
  ·have hcI : (c : Int) < (n : Int) := by omega
   have dc : decide ((c : Int) < (n : Int)) = true := decide_eq_true hcI
   have dcn : decide (c < n) = true := decide_eq_true hlt
   have hc0 : ¬ (c : Int) < 0 := by omega
   have hcn : (c : Int) ≤ (n : Int) := by omega
   go_upto_region 9 with fail
   obtain ⟨q, hq⟩ : ∃ q, q = min c (n - c) := ⟨_, rfl⟩
   have HSR : Hid (∀ W : World, W.heap[g]? = some (.cells (repC x n c).toArray 3 (0, 0)) → ∀ j v, (List.replicate q (Value.int .i64 x))[j]? = some v → W.cell? ((⟨g, 0, none⟩ : Addr).add j) = some v) := Lib.hid (fun W hW j v hj => by
    rw [List.getElem?_replicate] at hj
    split at hj
    ·rename_i hjq
     cases hj
     rw [show ((⟨g, 0, none⟩ : Addr).add j) = ⟨g, j, none⟩ by unfold Addr.add; by_cases h : j = 0 <;> simp [h], blk_cell hW]
     unfold repC
     rw [List.getElem?_toArray, List.getElem?_append_left (by simp; omega), List.getElem?_replicate, if_pos (by omega)]
    ·cases hj)
   have HQ : Hid ((List.replicate q (Value.int .i64 x)).length = Nat.min c (n - c)) := Lib.hid (by rw [List.length_replicate, hq])
   have HF : Hid (c + (List.replicate q (Value.int .i64 x)).length ≤ (repC x n c).length) := Lib.hid (by rw [repC_len x n c hc, List.length_replicate]; omega)
   have HO : Hid (∀ v ∈ List.replicate q (Value.int .i64 x), v.oneCell' = true) := Lib.hid (fun v hv => by rw [List.eq_of_mem_replicate hv]; rfl)
   have HGB : Hid (w1.heap.size ≤ g) := Lib.hid (by rw [HGE.out]; exact Nat.le_refl _)
   have hcp : ∃ W4, (Builtin.copy_ #[40, 40] 3 #[.slice (some ⟨g, c, none⟩) (n - c) (n - c), .slice (some ⟨g, 0, none⟩) c n]).run Tryz.prog wr.drew = .ok (goInt q) W4 ∧ Hid (W4.heap[g]? = some (.cells (repC x n (c + q)).toArray 3 (0, 0)) ∧ Below w1.heap.size w1 W4) := by
    have hg1 : wr.drew.heap[g]? = some (.cells (repC x n c).toArray 3 (0, 0)) := hst.out.1
    have h := run_copy_row (P := Tryz.prog) wr.drew 40 40 3 3 g c (n - c) (n - c) ⟨g, 0, none⟩ c n (repC x n c).toArray 3 (List.replicate q (.int .i64 x)) Tryz.underlying40 (by kernel_rfl) hg1 HQ.out (HSR.out _ hg1) (by simpa using HF.out) HO.out
    rw [List.length_replicate] at h
    refine ⟨_, h, Lib.hid ⟨?_, (hst.out.2.1.trans (b := wr) (c := wr.drew) ⟨rfl, rfl, rfl, Nat.le_refl _, fun _ _ => rfl⟩).trans (below_setRow (Below.refl _ _) HGB.out _)⟩⟩
    rw [setRow_heap wr.drew g _ _ _ _ hg1, ← repC_splice x n c q (by omega)]
    unfold splice
    rw [List.length_replicate, List.append_assoc]
   obtain ⟨W4, hrun, H4⟩ := hcp
   have hq1 : 0 < q := by have := hst.out.2.2; omega
   have hq2 : c + q ≤ n := by omega
   have wq : IntKind.i64.wrap ((c : Int) + (q : Int)) = ((c + q : Nat) : Int) := by rw [w64 (by omega) (by omega)]; omega
   have hnc : ¬ n = c := by omega
   clear hq
   unfold goInt at hrun
   go_region
   go_wp2_with fail
   exact ⟨⟨c + q, hq2, rfl, Lib.hid ⟨H4.out.1, H4.out.2, fun _ => by omega⟩⟩, by simp [intOf]; omega⟩
  ·obtain rfl : c = n := by omega
   have dc : decide ((c : Int) < (c : Int)) = false := decide_eq_false (by omega)
   have dcn : decide (c < c) = false := decide_eq_false (by omega)
   go_wp2_with fail
   go_ret
   exact ⟨g, rfl, by rw [HGE.out]; exact Nat.le_refl _, hst.out.1, below_F0 hst.out.2.1⟩

def ampM (m : Bool) (s : ByteArray) : ByteArray := if m = true then ⟨#[38, 109, 117, 116, 32]⟩ ++ s else if s.data.toList.head? = some 38 then ⟨#[38, 32]⟩ ++ s else ⟨#[38]⟩ ++ s
def numB (i : Int) : ByteArray := ⟨(Lib.decDigits i.toNat).toArray⟩
def txB : Nat → Ty → ByteArray
 | 0, _ => ⟨#[]⟩
 | n + 1, t => if t.k = 1 then ⟨#[105, 54, 52]⟩ else if t.k = 2 then ⟨#[98, 111, 111, 108]⟩ else if t.k = 3 then ⟨#[66, 111, 120, 60]⟩ ++ txB n (in0 t) ++ ⟨#[62]⟩ else if t.k = 5 then ⟨#[35]⟩ ++ numB t.s else ampM t.m (txB n (in0 t))
def NoR : Nat → Ty → Prop
 | 0, _ => True
 | n + 1, t => (t.k = 4 → t.r < 0) ∧ NoR n (in0 t)
theorem ampM_size (m : Bool) (s : ByteArray) : (ampM m s).size ≤ 5 + s.size ∧ 1 ≤ (ampM m s).size := by
 unfold ampM
 split
 ·rw [ByteArray.size_append]; exact ⟨Nat.le_refl _, Nat.le_trans (by decide : 1 ≤ 5) (Nat.le_add_right _ _)⟩
 ·split
  ·rw [ByteArray.size_append]; exact ⟨Nat.add_le_add_right (by decide : 2 ≤ 5) _, Nat.le_trans (by decide : 1 ≤ 2) (Nat.le_add_right _ _)⟩
  ·rw [ByteArray.size_append]; exact ⟨Nat.add_le_add_right (by decide : 1 ≤ 5) _, Nat.le_add_right _ _⟩
theorem decDigits_small : ∀ i : Nat, i < 32 → (Lib.decDigits i).length ≤ 2 := by decide +kernel
theorem txB_size : ∀ (n : Nat) (t : Ty), lookB 32 n t = true → (txB n t).size ≤ 5 * n + 30 ∧ 1 ≤ (txB n t).size := by
 intro n
 induction n with
 | zero => intro t h; cases h
 | succ n ih =>
  intro t h
  unfold lookB at h
  unfold txB
  by_cases h1 : t.k = 1
  ·rw [if_pos h1]; exact ⟨Nat.le_trans (by decide : 3 ≤ 30) (by omega), (by decide : 1 ≤ 3)⟩
  rw [if_neg h1]
  by_cases h2 : t.k = 2
  ·rw [if_pos h2]; exact ⟨Nat.le_trans (by decide : 4 ≤ 30) (by omega), (by decide : 1 ≤ 4)⟩
  rw [if_neg h2]
  rw [if_neg (by omega)] at h
  by_cases h3 : t.k = 3
  ·rw [if_pos h3]
   rw [if_neg (by omega), if_pos h3] at h
   simp only [Bool.and_eq_true, decide_eq_true_eq] at h
   have := ih (in0 t) h.2.2.2
   rw [ByteArray.size_append, ByteArray.size_append]
   show 4 + (txB n (in0 t)).size + 1 ≤ _ ∧ 1 ≤ 4 + (txB n (in0 t)).size + 1
   omega
  rw [if_neg h3]
  by_cases h5 : t.k = 5
  ·rw [if_pos h5]
   rw [if_pos h5] at h
   simp only [Bool.and_eq_true, decide_eq_true_eq] at h
   have h6 := decDigits_small t.s.toNat (by omega)
   rw [ByteArray.size_append]
   show 1 + (Lib.decDigits t.s.toNat).toArray.size ≤ _ ∧ 1 ≤ 1 + (Lib.decDigits t.s.toNat).toArray.size
   rw [List.size_toArray]
   omega
  rw [if_neg h5]
  rw [if_neg h5, if_neg h3] at h
  by_cases h4 : t.k = 4
  ·rw [if_pos h4] at h
   simp only [Bool.and_eq_true, decide_eq_true_eq] at h
   have h7 := ih (in0 t) h.2.2.2
   have := ampM_size t.m (txB n (in0 t))
   omega
  ·rw [if_neg h4] at h; cases h
set_option maxRecDepth 100000 in
set_option maxHeartbeats 16000000 in
theorem text_leaf (k : Int) (m : Bool) (rg st : Int) (a : Option Addr) (l c : Nat) (w : World) (r : ByteArray) (hr : k = 1 ∧ r = ⟨#[105, 54, 52]⟩ ∨ k = 2 ∧ r = ⟨#[98, 111, 111, 108]⟩) :
  Calls Tryz.prog 115 #[.agg #[.int .u8 k, .bool m, .int .i64 rg, .int .i64 st, .slice a l c]] w fun e w' => e = .returned (.string r) ∧ KB F0 w w' := by
 obtain ⟨w0, rfl⟩ : ∃ w0, w0 = w := ⟨_, rfl⟩
 obtain ⟨W, hW⟩ : ∃ W, W = w0.alloc (.cells #[.int .u8 k, .bool m, .int .i64 rg, .int .i64 st, .slice a l c] 26) := ⟨_, rfl⟩
 have kW : KB F0 w0 W := by rw [hW]; exact (KB.refl _ _).alloc _
 have bW : W.heap[w0.heap.size]? = some (.cells #[.int .u8 k, .bool m, .int .i64 rg, .int .i64 st, .slice a l c] 26 (0, 0)) := by rw [hW]; exact alloc_new _ _
 have a0 : W.cell? ⟨w0.heap.size, 0, none⟩ = some (.int .u8 k) := blk_cell bW 0
 have HW := Lib.hid hW
 have HK := Lib.hid kW
 clear hW kW bW
 rcases hr with ⟨rfl, rfl⟩ | ⟨rfl, rfl⟩
 all_goals
  go_enter Tryz.func115, Tryz.ntmps115
  go_upto_region 1 with fail
  rw [← HW.out]
  go_wp2_with fail
  go_ret
  exact ⟨rfl, HK.out⟩
set_option maxRecDepth 100000 in
set_option maxHeartbeats 16000000 in
theorem text_num (m : Bool) (rg : Int) (i : Nat) (hi : i < 32) (a : Option Addr) (l c : Nat) (w : World) :
  Calls Tryz.prog 115 #[.agg #[.int .u8 5, .bool m, .int .i64 rg, .int .i64 (i : Nat), .slice a l c]] w fun e w' => e = .returned (.string (⟨#[35]⟩ ++ numB (i : Nat))) ∧ KB F0 w w' := by
 obtain ⟨w0, rfl⟩ : ∃ w0, w0 = w := ⟨_, rfl⟩
 obtain ⟨W, hW⟩ : ∃ W, W = w0.alloc (.cells #[.int .u8 5, .bool m, .int .i64 rg, .int .i64 (i : Nat), .slice a l c] 26) := ⟨_, rfl⟩
 have kW : KB F0 w0 W := by rw [hW]; exact (KB.refl _ _).alloc _
 have bW : W.heap[w0.heap.size]? = some (.cells #[.int .u8 5, .bool m, .int .i64 rg, .int .i64 (i : Nat), .slice a l c] 26 (0, 0)) := by rw [hW]; exact alloc_new _ _
 have a0 : W.cell? ⟨w0.heap.size, 0, none⟩ = some (.int .u8 5) := blk_cell bW 0
 have a3 : W.cell? ⟨w0.heap.size, 3, none⟩ = some (.int .i64 (i : Nat)) := blk_cell bW 3
 have IT := Lib.hid (Tryz.strconv_Itoa_small i (by omega) W)
 rw [show (⟨(Lib.decDigits i).toArray⟩ : ByteArray) = numB (i : Nat) by unfold numB; rw [Int.toNat_natCast]] at IT
 have hz : (numB (i : Nat)).size ≤ 2 := by
  show (Lib.decDigits (i : Int).toNat).toArray.size ≤ 2
  rw [Int.toNat_natCast, List.size_toArray]
  exact decDigits_small i hi
 obtain ⟨D, hD⟩ : ∃ D, D = numB (i : Nat) := ⟨_, rfl⟩
 rw [← hD] at IT hz ⊢
 obtain ⟨R, hR⟩ : ∃ R, ⟨#[35]⟩ ++ D = R := ⟨_, rfl⟩
 rw [hR]
 have z1 : ¬ (9223372036854775807 < 1 + D.size) := by omega
 have HW := Lib.hid hW
 have HK := Lib.hid kW
 clear hW kW bW hz hD
 go_enter Tryz.func115, Tryz.ntmps115
 go_upto_region 1 with fail
 rw [← HW.out]
 go_wp2_with fail
 refine IT.out.mono ?_
 rintro e w1 ⟨rfl, rfl⟩
 go_wp2_with fail
 go_ret
 exact ⟨rfl, HK.out⟩
set_option maxRecDepth 100000 in
set_option maxHeartbeats 16000000 in
theorem text_box (m : Bool) (rg st : Int) (ab ao l c : Nat) (u : Ty) (ua : Option Addr) (uc : Nat) (w : World) (hl : 0 < l) (hu : TyCells w ab ao u ua uc) (C : ByteArray) (hC : C.size ≤ 1000)
  (rec : ∀ V, KB F0 w V → Calls Tryz.prog 115 #[tyV u ua uc] V fun e w' => e = .returned (.string C) ∧ KB F0 V w') :
  Calls Tryz.prog 115 #[.agg #[.int .u8 3, .bool m, .int .i64 rg, .int .i64 st, .slice (some ⟨ab, ao, none⟩) l c]] w fun e w' => e = .returned (.string (⟨#[66, 111, 120, 60]⟩ ++ C ++ ⟨#[62]⟩)) ∧ KB F0 w w' := by
 obtain ⟨w0, rfl⟩ : ∃ w0, w0 = w := ⟨_, rfl⟩
 obtain ⟨W, hW⟩ : ∃ W, W = w0.alloc (.cells #[.int .u8 3, .bool m, .int .i64 rg, .int .i64 st, .slice (some ⟨ab, ao, none⟩) l c] 26) := ⟨_, rfl⟩
 have kW : KB F0 w0 W := by rw [hW]; exact (KB.refl _ _).alloc _
 have bW : W.heap[w0.heap.size]? = some (.cells #[.int .u8 3, .bool m, .int .i64 rg, .int .i64 st, .slice (some ⟨ab, ao, none⟩) l c] 26 (0, 0)) := by rw [hW]; exact alloc_new _ _
 have a0 : W.cell? ⟨w0.heap.size, 0, none⟩ = some (.int .u8 3) := blk_cell bW 0
 have a4 : W.cell? ⟨w0.heap.size, 4, none⟩ = some (.slice (some ⟨ab, ao, none⟩) l c) := blk_cell bW 4
 obtain ⟨i0, i1, i2, i3, i4⟩ := hu.kbF kW
 obtain ⟨A, hA⟩ : ∃ A, ⟨#[66, 111, 120, 60]⟩ ++ C = A := ⟨_, rfl⟩
 have hsA : A.size = 4 + C.size := by rw [← hA, ByteArray.size_append]; rfl
 rw [hA]
 obtain ⟨R, hR⟩ : ∃ R, A ++ ⟨#[62]⟩ = R := ⟨_, rfl⟩
 rw [hR]
 have z1 : ¬ (9223372036854775807 < 4 + C.size) := by omega
 have z2 : ¬ (9223372036854775807 < A.size + 1) := by omega
 have HW := Lib.hid hW
 have HK := Lib.hid kW
 have RC := Lib.hid (rec W kW)
 unfold tyV at RC
 generalize u.k = uk at *
 generalize u.m = um at *
 generalize u.r = ur at *
 generalize u.s = us at *
 clear hW kW bW rec hu hsA hC
 go_enter Tryz.func115, Tryz.ntmps115
 go_upto_region 1 with fail
 rw [← HW.out]
 go_wp2_with fail
 refine RC.out.mono ?_
 rintro e w1 ⟨rfl, k1⟩
 have K1 := Lib.hid (HK.out.trans k1)
 clear k1 i0 i1 i2 i3 i4 a0 a4
 go_wp2_with fail
 go_ret
 exact ⟨rfl, K1.out⟩
theorem ne38' {C : ByteArray} (h : C.size ≠ 1) : (C.toList == [38]) = false := by
 rw [beq_eq_false_iff_ne]; intro e; have := congrArg List.length e
 rw [ByteArray.toList_eq] at this; simp at this; omega
theorem amp_at {C : ByteArray} (h : 1 ≤ C.size) : C.data.toList.head? = some (C[0]'h) := by
 rw [List.head?_eq_getElem?, Array.getElem?_toList]; exact Array.getElem?_eq_getElem h
theorem amp_yes {C : ByteArray} (h : 1 ≤ C.size) (e : (((C[0]'h).toNat : Int) == 38) = true) : ampM false C = ⟨#[38, 32]⟩ ++ C := by
 unfold ampM
 rw [if_neg (by decide), amp_at h, if_pos]
 have := beq_iff_eq.1 e
 exact congrArg some (UInt8.toNat_inj.1 (by show _ = 38; omega))
theorem amp_no {C : ByteArray} (h : 1 ≤ C.size) (e : (((C[0]'h).toNat : Int) == 38) = false) : ampM false C = ⟨#[38]⟩ ++ C := by
 unfold ampM
 rw [if_neg (by decide), amp_at h, if_neg]
 have := beq_eq_false_iff_ne.1 e
 intro h2
 rw [Option.some.inj h2] at this
 exact this rfl
theorem rest_mut (C : ByteArray) : ampM true C = (⟨#[38]⟩ ++ ⟨#[109, 117, 116, 32]⟩) ++ C := rfl
set_option maxRecDepth 100000 in
set_option maxHeartbeats 16000000 in
theorem text_ref (m : Bool) (rg st : Int) (hr : rg < 0) (ab ao l c : Nat) (u : Ty) (ua : Option Addr) (uc : Nat) (w : World) (hl : 0 < l) (hu : TyCells w ab ao u ua uc) (C : ByteArray) (hC : C.size ≤ 1000) (hC1 : 1 ≤ C.size)
  (rec : ∀ V, KB F0 w V → Calls Tryz.prog 115 #[tyV u ua uc] V fun e w' => e = .returned (.string C) ∧ KB F0 V w') :
  Calls Tryz.prog 115 #[.agg #[.int .u8 4, .bool m, .int .i64 rg, .int .i64 st, .slice (some ⟨ab, ao, none⟩) l c]] w fun e w' => e = .returned (.string (ampM m C)) ∧ KB F0 w w' := by
 obtain ⟨w0, rfl⟩ : ∃ w0, w0 = w := ⟨_, rfl⟩
 obtain ⟨W, hW⟩ : ∃ W, W = w0.alloc (.cells #[.int .u8 4, .bool m, .int .i64 rg, .int .i64 st, .slice (some ⟨ab, ao, none⟩) l c] 26) := ⟨_, rfl⟩
 have kW : KB F0 w0 W := by rw [hW]; exact (KB.refl _ _).alloc _
 have bW : W.heap[w0.heap.size]? = some (.cells #[.int .u8 4, .bool m, .int .i64 rg, .int .i64 st, .slice (some ⟨ab, ao, none⟩) l c] 26 (0, 0)) := by rw [hW]; exact alloc_new _ _
 have a0 : W.cell? ⟨w0.heap.size, 0, none⟩ = some (.int .u8 4) := blk_cell bW 0
 have a4 : W.cell? ⟨w0.heap.size, 4, none⟩ = some (.slice (some ⟨ab, ao, none⟩) l c) := blk_cell bW 4
 obtain ⟨i0, i1, i2, i3, i4⟩ := hu.kbF kW
 have HW := Lib.hid hW
 have HK := Lib.hid (And.intro kW bW)
 have RC := Lib.hid (rec W kW)
 unfold tyV at RC
 generalize u.k = uk at *
 generalize u.m = um at *
 generalize u.r = ur at *
 generalize u.s = us at *
 have dr : decide (0 ≤ rg) = false := decide_eq_false (by omega)
 clear hW kW bW rec hu
 cases m with
 | true =>
  rw [rest_mut]
  obtain ⟨H, h1, h2, h3⟩ : ∃ H : ByteArray, (⟨#[38]⟩ : ByteArray) ++ ⟨#[109, 117, 116, 32]⟩ = H ∧ (H.toList == [38]) = false ∧ H.size = 5 := ⟨_, rfl, ne38' (by decide), rfl⟩
  rw [h1]
  obtain ⟨R, hR⟩ : ∃ R, H ++ C = R := ⟨_, rfl⟩
  rw [hR]
  have z1 : ¬ (9223372036854775807 < H.size + C.size) := by omega
  clear h3
  go_enter Tryz.func115, Tryz.ntmps115
  go_upto_region 1 with fail
  rw [← HW.out]
  go_wp2_with fail
  refine RC.out.mono ?_
  rintro e w1 ⟨rfl, k1⟩
  have K1 := Lib.hid (HK.out.1.trans k1)
  have b1 := k1.heap (fun x => x) HK.out.2
  clear i0 i1 i2 i3 i4 a0 a4 k1
  have a1 : w1.cell? ⟨w0.heap.size, 1, none⟩ = some (.bool true) := blk_cell b1 1
  have a2 : w1.cell? ⟨w0.heap.size, 2, none⟩ = some (.int .i64 rg) := blk_cell b1 2
  go_wp2_with fail
  go_ret
  exact ⟨rfl, K1.out⟩
 | false =>
  have z1 : ¬ (9223372036854775807 < 1 + C.size) := by omega
  have z2 : ¬ (9223372036854775807 < 2 + C.size) := by omega
  go_enter Tryz.func115, Tryz.ntmps115
  go_upto_region 1 with fail
  rw [← HW.out]
  go_wp2_with fail
  refine RC.out.mono ?_
  rintro e w1 ⟨rfl, k1⟩
  have K1 := Lib.hid (HK.out.1.trans k1)
  have b1 := k1.heap (fun x => x) HK.out.2
  clear i0 i1 i2 i3 i4 a0 a4 k1
  have a1 : w1.cell? ⟨w0.heap.size, 1, none⟩ = some (.bool false) := blk_cell b1 1
  have a2 : w1.cell? ⟨w0.heap.size, 2, none⟩ = some (.int .i64 rg) := blk_cell b1 2
  go_wp2_with fail
  all_goals
   go_ret
   first
   | exact ⟨by rw [amp_yes hC1 (by assumption)]; rfl, K1.out⟩
   | exact ⟨by rw [amp_no hC1 (by assumption)]; rfl, K1.out⟩
theorem tytext_any : ∀ (n : Nat) (_ : n ≤ 100) (t : Ty) (a : Option Addr) (c : Nat) (w : World), lookB 32 n t = true → NoR n t → TyAt n w t a c →
  Calls Tryz.prog 115 #[tyV t a c] w fun e w' => e = .returned (.string (txB n t)) ∧ KB F0 w w' := by
 intro n
 induction n with
 | zero => intro _ t a c w h; cases h
 | succ n ih =>
  intro hn t a c w h hr ha
  have h0 := h
  unfold lookB at h
  by_cases h1 : t.k = 1
  ·refine (text_leaf t.k t.m t.r t.s a t.of.length c w (txB (n + 1) t) (Or.inl ⟨h1, ?_⟩)).mono fun e w' h => h
   unfold txB; rw [if_pos h1]
  by_cases h2 : t.k = 2
  ·refine (text_leaf t.k t.m t.r t.s a t.of.length c w (txB (n + 1) t) (Or.inr ⟨h2, ?_⟩)).mono fun e w' h => h
   unfold txB; rw [if_neg h1, if_pos h2]
  rw [if_neg (by omega)] at h
  by_cases h5 : t.k = 5
  ·rw [if_pos h5] at h
   simp only [Bool.and_eq_true, decide_eq_true_eq] at h
   have e1 : ((t.s.toNat : Nat) : Int) = t.s := by omega
   have hx := text_num t.m t.r t.s.toNat (by omega) a t.of.length c w
   rw [e1] at hx
   unfold tyV txB
   rw [if_neg h1, if_neg h2, if_neg (by omega), if_pos h5, h5]
   exact hx
  rw [if_neg h5] at h
  by_cases h3 : t.k = 3
  ·rw [if_pos h3] at h
   simp only [Bool.and_eq_true, decide_eq_true_eq] at h
   obtain ⟨ab, ao, a', c', rfl, hca, hta⟩ := ha.in0 (by omega)
   have hs := txB_size n (in0 t) h.2.2.2
   have hx := text_box t.m t.r t.s ab ao t.of.length c (in0 t) a' c' w (by omega) hca (txB n (in0 t)) (by omega) (fun V hV => ih (by omega) (in0 t) a' c' V h.2.2.2 hr.2 (hta.kbF hV))
   unfold tyV txB
   rw [if_neg h1, if_neg h2, if_pos h3, h3]
   exact hx
  rw [if_neg h3] at h
  by_cases h4 : t.k = 4
  ·rw [if_pos h4] at h
   simp only [Bool.and_eq_true, decide_eq_true_eq] at h
   obtain ⟨ab, ao, a', c', rfl, hca, hta⟩ := ha.in0 (by omega)
   have hs := txB_size n (in0 t) h.2.2.2
   have hx := text_ref t.m t.r t.s (hr.1 h4) ab ao t.of.length c (in0 t) a' c' w (by omega) hca (txB n (in0 t)) (by omega) hs.2 (fun V hV => ih (by omega) (in0 t) a' c' V h.2.2.2 hr.2 (hta.kbF hV))
   unfold tyV txB
   rw [if_neg h1, if_neg h2, if_neg h3, if_neg h5, h4]
   exact hx
  ·rw [if_neg h4] at h; cases h
end Go.Proofs.YtaeppaaolkcbbaaGreatDoor
