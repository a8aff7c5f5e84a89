/- loanwordref05.File. loanwordlaw05.fits. loanwordlaw05.awake: what the answers are. loanwordlaw05.one: a tree of one node. -/
import Derived.Test.YtoophdcagpfmpaaGreatDoorPsK
import Derived.Lib.BufferRead
import Derived.Test.YtoophdcagpfmpaaGreatDoorPrS
namespace Go.Proofs.YtoophdcagpfmpaaGreatDoor
open Go.RowKit

theorem conv_own {w : World} {B : Nat} {v : Value} {s : ByteArray} (h : w.ownsRow B 5 1 v s.size (Lib.strCells s)) : (convert 64 9 v).run Tryz.prog w = .ok (.string s) w := by
  obtain ⟨h1, h2⟩ := h
  rcases h2 with ⟨rfl, hn⟩ | ⟨g, cap, cur, rfl, hb, hh, hr⟩
  · have : s = ⟨#[]⟩ := by
      apply ByteArray.ext
      apply Array.eq_empty_of_size_eq_zero
      exact hn
    rw [this]
    exact Lib.run_convert_nil_bytes w 64 9 5 0 Tryz.underlying64 Tryz.underlying5 Tryz.underlying9
  · have hl : s.data.toList.length = s.size := by simp
    have hc := run_convert_bytes_back w 64 9 5 ⟨g, 0, none⟩ cap s.data.toList Tryz.underlying64 Tryz.underlying5 Tryz.underlying9 (fun j hj => by
      obtain ⟨hn, hm, hcs, ht⟩ := hr
      rw [show ((⟨g, 0, none⟩ : Addr).add j) = ⟨g, j, none⟩ by unfold Addr.add; split <;> simp_all]
      have e : w.cell? ⟨g, j, none⟩ = (Lib.strCells s)[j]? := by
        rw [blk_cell hh, ← ht, List.getElem?_take_of_lt (by omega)]
        exact (Array.getElem?_toList).symm
      rw [e]
      unfold Lib.strCells
      rw [List.getElem?_map, List.getElem?_eq_getElem hj]
      rfl)
    rw [hl] at hc
    rw [hc]
set_option maxRecDepth 100000 in
set_option maxHeartbeats 32000000 in
theorem rfile_any (ts : List Nd) (hlen : ts.length < 100000000) (hok : ∀ x ∈ ts, NdOk x) (a : Option Addr) (cap : Nat) (w : World) (hts : NodesAt w a ts) (hT : PT w) :
    Calls Tryz.prog 14 #[.agg #[.slice a ts.length cap]] w fun e w' => e = .returned (.tuple #[.string (fileP ts).1, .int .i64 ((fileP ts).2 : Nat)]) ∧ KB F0 w w' := by
  obtain ⟨w0, rfl⟩ : ∃ w0, w0 = w := ⟨_, rfl⟩
  obtain ⟨W1, hW1⟩ : ∃ W1, W1 = w0.alloc (.cells #[.slice a ts.length cap] 24) := ⟨_, rfl⟩
  have k1 : KB F0 w0 W1 := by rw [hW1]; exact tree_box _ _ _ _
  have hb1 : W1.heap[w0.heap.size]? = some (.cells #[.slice a ts.length cap] 24 (0, 0)) := by rw [hW1]; exact alloc_new _ _
  have TM := Lib.hid (fun (W : World) (hk : KB F0 w0 W) => cmay_any ts hlen hok a cap W (hts.kbF hk) (hT.kb hk).asc)
  have LN := Lib.hid (fun (W : World) (hk : KB F0 w0 W) => rlines_any ts hlen hok a cap W (hts.kbF hk) (hT.kb hk))
  obtain ⟨R, hR⟩ : ∃ R, R = fileP ts := ⟨_, rfl⟩
  rw [← hR]
  unfold fileP at hR
  have HB := Lib.hid (And.intro k1 hb1)
  have HW := Lib.hid hW1
  by_cases hm : mayN ts = true
  case neg =>
    have hm : mayN ts = false := by simpa using hm
    have HE : Hid (R = (ByteArray.empty, 2)) := Lib.hid (by rw [hR, hm]; rfl)
    rw [hm] at TM
    generalize ts.length = N at TM LN HB HW ⊢
    clear hR hts hT hok hm hlen k1 hb1 hW1 LN
    go_enter Tryz.func14, Tryz.ntmps14
    go_wp2_with fail
    rw [← HW.out]
    refine (TM.out W1 HB.out.1).mono ?_
    rintro e w2 ⟨rfl, k2⟩
    have K2 := Lib.hid (HB.out.1.trans k2)
    clear k2
    go_wp2_with fail
    go_ret2
    exact ⟨ret_eq (by rw [HE.out]; rfl), K2.out⟩
  have h := tok_of hm
  have h0 := h.good.1
  obtain ⟨b, off, rfl, hx⟩ := hts 0 h0
  have ck := hx.k
  rw [Nat.zero_mul, Nat.add_zero] at ck
  have hLP : linesP ts = if (mayN ts && rootOk (ts.getD 0 nd0).k) = true then (if 65536 < szL (linesN ts) then ([], 3) else (linesN ts, 0)) else ([], 2) := rfl
  rw [hm, Bool.true_and] at hR hLP
  rw [hm] at TM
  have hll := lines_len h
  have hlen2 := h.len
  generalize linesP ts = LP at LN hLP
  generalize linesN ts = L at hR hLP hll
  generalize (ts.getD 0 nd0).k = K at *
  have HC := Lib.hid ck
  have HR := Lib.hid hR
  have HLP := Lib.hid hLP
  have hL4 : L.length ≤ 40000 := by omega
  have HL4 := Lib.hid hL4
  generalize ts.length = N at TM LN HB HW h0 ⊢
  have h0i : (0 : Int) < (N : Int) := by omega
  clear hts hT hok hm k1 hb1 hW1 h hx hR hLP hll hlen2 hlen ck hL4
  by_cases hK : K = 1
  case neg =>
    have HE : Hid (R = (ByteArray.empty, 2)) := Lib.hid (by rw [HR.out, decide_eq_false hK]; rfl)
    have t1 : ((K : Int) != 1) = true := by simp; omega
    clear HR HLP LN hK
    go_enter Tryz.func14, Tryz.ntmps14
    go_wp2_with fail
    rw [← HW.out]
    refine (TM.out W1 HB.out.1).mono ?_
    rintro e w2 ⟨rfl, k2⟩
    have c0 : w2.cell? ⟨w0.heap.size, 0, none⟩ = some (.slice (some ⟨b, off, none⟩) N cap) := blk_cell (k2.heap (fun x => x) HB.out.2) 0
    have ck := (HB.out.1.trans k2).cell (p := ⟨b, off, none⟩) (fun x => x) HC.out
    have K2 := Lib.hid (HB.out.1.trans k2)
    clear k2
    go_wp2_with fail
    go_ret2
    exact ⟨ret_eq (by rw [HE.out]; rfl), K2.out⟩
  obtain rfl := hK
  have hHC : w0.cell? ⟨b, off, none⟩ = some (.int .u8 1) := HC.out
  have HC := Lib.hid hHC
  clear hHC
  have hLP2 : LP = if 65536 < szL L then ([], 3) else (L, 0) := by rw [HLP.out, if_pos (show rootOk 1 = true from rfl)]
  have hR2 : R = if 65536 < szL L then (ByteArray.empty, 3) else (txtK L L.length, 0) := by rw [HR.out, if_pos (by decide)]
  clear HLP HR
  by_cases hz : 65536 < szL L
  · have HE : Hid (R = (ByteArray.empty, 3)) := Lib.hid (by rw [hR2, if_pos hz])
    rw [hLP2, if_pos hz] at LN
    unfold LsEnd at LN
    clear hR2 hLP2 hz
    go_enter Tryz.func14, Tryz.ntmps14
    go_wp2_with fail
    rw [← HW.out]
    refine (TM.out W1 HB.out.1).mono ?_
    rintro e w2 ⟨rfl, k2⟩
    have c0 : w2.cell? ⟨w0.heap.size, 0, none⟩ = some (.slice (some ⟨b, off, none⟩) N cap) := blk_cell (k2.heap (fun x => x) HB.out.2) 0
    have ck := (HB.out.1.trans k2).cell (p := ⟨b, off, none⟩) (fun x => x) HC.out
    have K2 := Lib.hid (HB.out.1.trans k2)
    clear k2
    go_wp2_with fail
    refine (LN.out w2 K2.out).mono ?_
    rintro e w3 ⟨v, rfl, -, k3⟩
    have K3 := Lib.hid (K2.out.trans k3)
    clear k3 c0 ck
    go_wp2_with fail
    go_ret2
    exact ⟨ret_eq (by rw [HE.out]; rfl), K3.out⟩
  · have HE : Hid (R = (txtK L L.length, 0)) := Lib.hid (by rw [hR2, if_neg hz])
    rw [hLP2, if_neg hz] at LN
    unfold LsEnd at LN
    simp only at LN
    have HTZ : Hid (∀ k, k ≤ L.length → (txtK L k).size ≤ 65536) := Lib.hid (fun k hk => by rw [txtK_size L k hk]; have := szL_take L k; omega)
    clear hR2 hLP2 hz
    go_enter Tryz.func14, Tryz.ntmps14
    go_wp2_with fail
    rw [← HW.out]
    refine (TM.out W1 HB.out.1).mono ?_
    rintro e w2 ⟨rfl, k2⟩
    have c0 : w2.cell? ⟨w0.heap.size, 0, none⟩ = some (.slice (some ⟨b, off, none⟩) N cap) := blk_cell (k2.heap (fun x => x) HB.out.2) 0
    have ck := (HB.out.1.trans k2).cell (p := ⟨b, off, none⟩) (fun x => x) HC.out
    have K2 := Lib.hid (HB.out.1.trans k2)
    clear k2
    go_wp2_with fail
    refine (LN.out w2 K2.out).mono ?_
    rintro e w3 ⟨v, rfl, hown, k3⟩
    have hown := own_low hown K2.out.size
    obtain ⟨va, vc, rfl, -, -, hcells, -⟩ := own_shape hown
    have K3 := Lib.hid (K2.out.trans k3)
    have HCL := Lib.hid hcells
    obtain ⟨M, hM⟩ : ∃ M, M = L.length := ⟨_, rfl⟩
    have hM4 : M ≤ 40000 := by rw [hM]; exact HL4.out
    rw [← hM] at HCL HTZ HE ⊢
    have HM := Lib.hid hM
    clear k3 c0 ck hown hcells hM
    go_wp2_with fail
    go_loopw [6, 7] (fun bv kv wr => ∃ k : Nat, k ≤ M ∧ kv = .int .i64 (k : Nat) ∧ Hid (wr.ownsRow w3.heap.size 5 1 bv (txtK L k).size (Lib.strCells (txtK L k)) ∧ KB F0 w3 wr)) (fun _ kv _ => M - (intOf kv).toNat)
    case atStart => exact ⟨0, by omega, rfl, Lib.hid ⟨World.ownsRow_nil _ _ _ _, KB.refl _ _⟩⟩
    case round =>
      obtain ⟨k, hk, rfl, hst⟩ := hrel
      obtain ⟨ba, bc, rfl, -, -, -, -⟩ := own_shape hst.out.1
      by_cases hlt : k < M
      · have hkM : (k : Int) < (M : Int) := by omega
        obtain ⟨g, rfl, -, hcz⟩ := HCL.out k (by omega)
        have hkL : k < L.length := by rw [← HM.out]; exact hlt
        rw [List.getElem?_map, List.getElem?_eq_getElem hkL] at hcz
        change _ = some (Value.string _) at hcz
        have hJ : txtK L (k + 1) = txtK L k ++ (L.getD k ByteArray.empty ++ ⟨#[10]⟩) := rfl
        have hz1 := HTZ.out (k + 1) (by omega)
        rw [List.getD_eq_getElem?_getD, List.getElem?_eq_getElem hkL, Option.getD_some] at hJ
        generalize L[k]'hkL = x at hcz hJ
        have c1 := hst.out.2.cell (p := ⟨g, k, none⟩) (fun x => x) hcz
        have hsz : (txtK L k).size + x.size + 1 ≤ 65536 := by
          rw [hJ, ByteArray.size_append, ByteArray.size_append] at hz1
          have : (⟨#[10]⟩ : ByteArray).size = 1 := rfl
          omega
        have HJ := Lib.hid hJ
        have HSZ := Lib.hid hsz
        generalize txtK L k = tk at hst HJ HSZ
        clear hcz hkL hz1 hJ hsz
        go_wp2_with (at_builtin; refine Stopped.out ?_)
        refine ⟨?_⟩
        obtain ⟨i0, hi, hz0, hz1, hz2⟩ := info_parts bByte
        refine Lib.wpList_append_own_string _ rfl _ _ 64 9 rfl w3.heap.size 5 i0 Tryz.underlying64 Tryz.underlying9 hi hz0 hz1 hz2 _ _ _ rfl hst.out.1 x rfl (by have := HSZ.out; unfold maxLen; omega) (by have := HSZ.out; omega) hst.out.2.size ?_
        intro v1 w4 hown1 hgr _
        have hk4 : KB F0 w3 w4 := hst.out.2.grown hgr (own_ge hst.out.1 (Nat.le_refl _))
        have hown2 : w4.ownsRow w3.heap.size 5 1 v1 (tk ++ x).size (Lib.strCells (tk ++ x)) := by rw [← cells_app, ByteArray.size_append]; exact hown1
        have H4 := Lib.hid (And.intro hown2 hk4)
        have HJ2 : Hid (txtK L (k + 1) = (tk ++ x) ++ ⟨#[10]⟩) := Lib.hid (by rw [HJ.out, ByteArray.append_assoc])
        have HSZ2 : Hid ((tk ++ x).size + 1 ≤ 65536) := Lib.hid (by rw [ByteArray.size_append]; exact HSZ.out)
        generalize tk ++ x = b2 at H4 HJ2 HSZ2
        clear hown1 hgr hk4 hown2 hi hz0 hz1 hz2 c1 hst HJ HSZ
        go_wp2_with (at_builtin; refine Stopped.out ?_)
        refine ⟨?_⟩
        have ka := (KB.refl F0 w4).alloc (.cells #[.int .u8 10] 5)
        have ho := own_kb H4.out.1 ka (fun _ _ x => x)
        refine app1 64 5 w3.heap.size (.int .u8 10) bByte Tryz.underlying64 rfl ho rfl rfl rfl rfl (blk_cell (alloc_new w4 _) 0) rfl (by have := HSZ2.out; unfold maxLen; omega) (by have := HSZ2.out; omega) (H4.out.2.trans ka).size ?_
        intro v5 w5 hown5 hgr5
        have hk5 : KB F0 w3 w5 := (H4.out.2.trans ka).grown hgr5 (own_ge ho (Nat.le_refl _))
        have hown6 : w5.ownsRow w3.heap.size 5 1 v5 (txtK L (k + 1)).size (Lib.strCells (txtK L (k + 1))) := by rw [HJ2.out, ← cells_app, ByteArray.size_append]; exact hown5
        have H5 := Lib.hid (And.intro hown6 hk5)
        clear hown5 hgr5 hk5 hown6 ka ho
        go_wp2_with fail
        go_roundw
        case rel => exact ⟨k + 1, by omega, by go_num, H5⟩
        case measure => simp [intOf]; omega
      · obtain rfl : k = M := by omega
        have hcv := conv_own hst.out.1
        have HK := Lib.hid (K3.out.trans hst.out.2)
        generalize txtK L k = tk at hcv HE
        clear hst
        go_wp2_with fail
        go_ret2
        exact ⟨ret_eq (by rw [HE.out]; rfl), HK.out⟩
end Go.Proofs.YtoophdcagpfmpaaGreatDoor

namespace Go.Proofs.YtoophdcagpfmpaaGreatDoor
open Go.RowKit

set_option maxRecDepth 100000 in
set_option maxHeartbeats 8000000 in
theorem fits5_any (ts : List Nd) (a : Option Addr) (cap : Nat) (hcap : ts.length ≤ cap) (_hcm : cap ≤ 9223372036854775807) (w : World) (hts : NodesAt w a ts) :
    Calls Tryz.prog 8 #[.agg #[.slice a ts.length cap]] w fun e w' => ∃ f : Bool, e = .returned (.bool f) ∧ (f = true → ts.length ≤ 4000 ∧ ∀ x ∈ ts, x.l.length ≤ 4000) ∧ KB F0 w w' := by
  obtain ⟨w0, rfl⟩ : ∃ w0, w0 = w := ⟨_, rfl⟩
  obtain ⟨N, hN⟩ : ∃ N, N = ts.length := ⟨_, rfl⟩
  rw [← hN] at hcap ⊢
  have HN := Lib.hid hN
  have HTS := Lib.hid hts
  have b0 : (w0.alloc (.cells #[.slice a N cap] 24)).cell? ⟨w0.heap.size, 0, none⟩ = some (.slice a N cap) := new_cell _ _ _ 0
  have K1 := Lib.hid ((KB.refl F0 w0).alloc (.cells #[.slice a N cap] 24))
  clear hts hN
  by_cases hbig : 4000 < N
  · have d1 : decide ((4000 : Int) < (N : Int)) = true := decide_eq_true (by omega)
    go_enter Tryz.func8, Tryz.ntmps8
    go_wp2
    go_ret
    exact ⟨false, rfl, (fun h => by cases h), K1.out⟩
  · have d1 : decide ((4000 : Int) < (N : Int)) = false := decide_eq_false (by omega)
    have hN2 : N ≤ 4000 := by omega
    go_enter Tryz.func8, Tryz.ntmps8
    go_wp2_with fail
    obtain ⟨W1, hW1⟩ : ∃ W1, W1 = (w0.alloc (.cells #[.slice a N cap] 24)) := ⟨_, rfl⟩
    rw [← hW1] at K1 b0 ⊢
    clear hW1
    have H1 := Lib.hid b0
    clear b0
    go_loopw [4, 3] (fun iv nv wr => ∃ i n : Nat, i ≤ N ∧ n ≤ 4000 ∧ iv = .int .i64 i ∧ nv = .int .i64 n ∧ KB F0 W1 wr ∧ Hid (∀ k, k < i → (ts.getD k nd0).l.length ≤ 4000)) (fun iv _ _ => N - (intOf iv).toNat)
    case atStart => exact ⟨0, 0, by omega, by omega, rfl, rfl, KB.refl _ _, Lib.hid (fun k hk => by omega)⟩
    case round =>
      obtain ⟨i, n, hi, hn, rfl, rfl, hkb, hall⟩ := hrel
      have b0 := hkb.cell (p := ⟨w0.heap.size, 0, none⟩) (fun x => x) H1.out
      have HK := Lib.hid (K1.out.trans hkb)
      have HK1 := Lib.hid hkb
      by_cases hlt : i < N
      · obtain ⟨b, off, rfl, hnd0⟩ := HTS.out i (by rw [← HN.out]; exact hlt)
        obtain ⟨la, lc, hl4, -, hlc, hlm⟩ := (hnd0.kbF HK.out).l
        have hs3 := (hnd0.kbF HK.out).s
        have hnx : Hid ((ts.getD i nd0).l.length ≤ 4000 → ∀ k, k < i + 1 → (ts.getD k nd0).l.length ≤ 4000) := Lib.hid (fun h k hk => by
          rcases Nat.lt_or_eq_of_le (Nat.lt_succ_iff.1 hk) with h' | rfl
          · exact hall.out k h'
          · exact h)
        generalize (ts.getD i nd0).l.length = M at hl4 hlc hnx
        generalize (ts.getD i nd0).s = sx at hs3
        unfold maxLen at hlm
        have hiN : (i : Int) < (N : Int) := by omega
        clear hnd0 hkb hall
        by_cases hM : 4000 - n < M
        · have d2 : decide ((4000 : Int) - (n : Int) < (M : Int)) = true := decide_eq_true (by omega)
          have hwr : IntKind.i64.wrap (4000 - (n : Int)) = 4000 - (n : Int) := w64 (by omega) (by omega)
          go_wp2
          go_ret
          exact ⟨false, rfl, (fun h => by cases h), HK.out⟩
        · have d2 : decide ((4000 : Int) - (n : Int) < (M : Int)) = false := decide_eq_false (by omega)
          have hwr : IntKind.i64.wrap (4000 - (n : Int)) = 4000 - (n : Int) := w64 (by omega) (by omega)
          have hall2 := Lib.hid (hnx.out (by omega))
          have hnM : n + M ≤ 4000 := by omega
          by_cases hs : 100 < sx.size
          · have d3 : decide (100 < sx.size) = true := decide_eq_true hs
            have d4 : decide ((100 : Int) < (sx.size : Int)) = true := decide_eq_true (by omega)
            go_wp2
            go_ret
            exact ⟨false, rfl, (fun h => by cases h), HK.out⟩
          · have d3 : decide (100 < sx.size) = false := decide_eq_false hs
            have d4 : decide ((100 : Int) < (sx.size : Int)) = false := decide_eq_false (by omega)
            go_wp2
            go_roundw
            case rel => exact ⟨i + 1, n + M, by omega, by omega, by go_num, by go_num, HK1.out, hall2⟩
            case measure => simp [intOf]; omega
      · obtain rfl : i = N := by omega
        clear hkb
        go_wp2
        go_ret
        refine ⟨true, rfl, fun _ => ⟨hN2, fun x hx => ?_⟩, HK.out⟩
        obtain ⟨k, hk, rfl⟩ := List.getElem_of_mem hx
        have := hall.out k (by rw [HN.out]; exact hk)
        rwa [List.getD_eq_getElem?_getD, List.getElem?_eq_getElem hk] at this

end Go.Proofs.YtoophdcagpfmpaaGreatDoor

namespace Go.Proofs.YtoophdcagpfmpaaGreatDoor
open Go.RowKit

def aw5 : List Nd := [⟨29, 0, 0, ByteArray.empty, [1]⟩, ⟨29, 0, 1, ByteArray.empty, [2]⟩, ⟨27, 0, 0, ⟨#[102]⟩, [3]⟩, ⟨28, 0, 0, ByteArray.empty, [4]⟩, ⟨26, 0, 0, ⟨#[120]⟩, []⟩]
def awT : List Nd := [⟨8, 0, 0, ByteArray.empty, []⟩]
def awL : List Nd := [⟨13, 0, 0, ByteArray.empty, []⟩]
theorem aw5_expr : exprP aw5 = (⟨#[38, 32, 38, 109, 117, 116, 32, 40, 42, 120, 41, 46, 102]⟩, 0) := by decide +kernel
theorem aw5_level : levelP aw5 2 = (7, 0) := by decide +kernel
theorem aw5_type : typeP awT = (⟨#[105, 54, 52]⟩, 0) := by decide +kernel
theorem aw5_lines : linesP awL = ([⟨#[123]⟩, ⟨#[125]⟩], 0) := by decide +kernel
theorem aw5_file : (fileP aw5).2 = 2 := by decide +kernel
end Go.Proofs.YtoophdcagpfmpaaGreatDoor

namespace Go.Proofs.YtoophdcagpfmpaaGreatDoor
open Go.RowKit

theorem results_cellT {fn : Func} {t : Tmp} (h : fn.results = #[.cell t 24]) (tmps : Array Value) {w : World} {X : Nat} {v : Value} (ha : tmps[t]?.getD undef = .pointer (some ⟨X, 0, none⟩))
    (hc : w.cell? ⟨X, 0, none⟩ = some v) : (results fn tmps).run Tryz.prog w = .ok (.agg #[v]) w := by
  simp [results, h, ha, go_sem, hc]
theorem node_one {w : World} {g k : Nat} (h : w.heap[g]? = some (.cells #[.int .u8 (k : Nat), .int .i64 0, .int .i64 0, .string ⟨#[]⟩, .slice none 0 0] 44 (0, 0))) : NodesAt w (some ⟨g, 0, none⟩) [⟨k, 0, 0, ⟨#[]⟩, []⟩] := by
  intro i hi
  obtain rfl : i = 0 := by simp at hi; omega
  exact ⟨g, 0, rfl, blk_cell h 0, blk_cell h 1, blk_cell h 2, blk_cell h 3, none, 0, blk_cell h 4, fun j hj => by simp at hj, Nat.le_refl _, by unfold maxLen; omega⟩
set_option maxRecDepth 100000 in
set_option maxHeartbeats 4000000 in
theorem one5_any (k : Nat) (w : World) :
    Calls Tryz.prog 24 #[.agg #[.int .u8 k, .int .i64 0, .int .i64 0, .string ⟨#[]⟩, .slice none 0 0]] w fun e w' => ∃ g, e = .returned (.agg #[.slice (some ⟨g, 0, none⟩) 1 1]) ∧ NodesAt w' (some ⟨g, 0, none⟩) [⟨k, 0, 0, ⟨#[]⟩, []⟩] ∧ KB F0 w w' := by
  obtain ⟨w0, rfl⟩ : ∃ w0, w0 = w := ⟨_, rfl⟩
  go_enter Tryz.func24, Tryz.ntmps24
  go_wp2_with fail
  have h0 := alloc_new ((w0.alloc (.cells #[.int .u8 (k : Nat), .int .i64 0, .int .i64 0, .string ⟨#[]⟩, .slice none 0 0] 44)).alloc (.cells #[.slice (some ⟨w0.heap.size + 1 + 1, 0, none⟩) 1 1] 24)) (.cells #[.int .u8 (k : Nat), .int .i64 0, .int .i64 0, .string ⟨#[]⟩, .slice none 0 0] 44)
  have h1 := ((KB.refl F0 ((w0.alloc (.cells #[.int .u8 (k : Nat), .int .i64 0, .int .i64 0, .string ⟨#[]⟩, .slice none 0 0] 44)).alloc (.cells #[.slice (some ⟨w0.heap.size + 1 + 1, 0, none⟩) 1 1] 24))).alloc (.cells #[.int .u8 (k : Nat), .int .i64 0, .int .i64 0, .string ⟨#[]⟩, .slice none 0 0] 44)).heap (fun x => x) (alloc_new _ _)
  have s1 : (w0.alloc (.cells #[.int .u8 (k : Nat), .int .i64 0, .int .i64 0, .string ⟨#[]⟩, .slice none 0 0] 44)).heap.size = w0.heap.size + 1 := by simp
  have s2 : ((w0.alloc (.cells #[.int .u8 (k : Nat), .int .i64 0, .int .i64 0, .string ⟨#[]⟩, .slice none 0 0] 44)).alloc (.cells #[.slice (some ⟨w0.heap.size + 1 + 1, 0, none⟩) 1 1] 24)).heap.size = w0.heap.size + 1 + 1 := by simp
  rw [s1] at h1
  rw [s2] at h0
  exact bodyPost_ret (results_cellT rfl _ rfl (blk_cell h1 0)) rfl ⟨_, rfl, node_one h0, (((KB.refl _ _).alloc _).alloc _).alloc _⟩
end Go.Proofs.YtoophdcagpfmpaaGreatDoor
