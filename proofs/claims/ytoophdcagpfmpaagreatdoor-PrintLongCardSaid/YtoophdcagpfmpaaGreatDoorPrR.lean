/- print.File, Expr, Type, Lines, Level. -/
import Derived.Test.YtoophdcagpfmpaaGreatDoorPrQ
namespace Go.Proofs.YtoophdcagpfmpaaGreatDoor
open Go.RowKit

def fileP (ts : List Nd) : ByteArray × Nat := if (mayN ts && decide ((ts.getD 0 nd0).k = 1)) = true then (if 65536 < szL (linesN ts) then (ByteArray.empty, 3) else (txtK (linesN ts) (linesN ts).length, 0)) else (ByteArray.empty, 2)
def exprP (ts : List Nd) : ByteArray × Nat := if (mayN ts && isExprB (ts.getD 0 nd0).k) = true then longP (Ex ts 0 1) else (ByteArray.empty, 2)
def typeP (ts : List Nd) : ByteArray × Nat := if (mayN ts && isTypeB (ts.getD 0 nd0).k) = true then longP (Ty ts 0) else (ByteArray.empty, 2)
def linesP (ts : List Nd) : List ByteArray × Nat := if (mayN ts && rootOk (ts.getD 0 nd0).k) = true then (if 65536 < szL (linesN ts) then ([], 3) else (linesN ts, 0)) else ([], 2)
def levelP (ts : List Nd) (n : Int) : Nat × Nat := if (mayN ts && decide (0 ≤ n) && decide (n < (ts.length : Int)) && isExprB (ts.getD n.toNat nd0).k) = true then (lvP (ts.getD n.toNat nd0).k (ts.getD n.toNat nd0).s, 0) else (0, 2)
theorem toldEnd_at {w : World} {ok : Bool} {S : ByteArray} {e : Ending} {w' : World} (h : ToldEnd w (KB F0 w) ok S e w') :
    e = .returned (.tuple #[.string (if ok = true then longP S else (ByteArray.empty, 2)).1, .int .i64 ((if ok = true then longP S else (ByteArray.empty, 2)).2 : Nat)]) ∧ KB F0 w w' := by
  rcases h with ⟨rfl, h1, h2⟩ | ⟨rfl, h1, h2⟩
  · exact ⟨h1, h2⟩
  · exact ⟨h1, h2⟩
set_option maxRecDepth 100000 in
theorem pexpr1_any (a : Option Addr) (N cap : Nat) (C : ByteArray) (w : World) (h : TxtCall 42 #[.slice a N cap, .int .i64 0] w C) : Calls Tryz.prog 41 #[.slice a N cap] w fun e w' => e = .returned (.string C) ∧ KB F0 w w' := by
  obtain ⟨w0, rfl⟩ : ∃ w0, w0 = w := ⟨_, rfl⟩
  have H := Lib.hid h
  unfold TxtCall at H
  clear h
  go_enter Tryz.func41, Tryz.ntmps41
  go_wp2_with fail
  refine H.out.mono ?_
  rintro e w2 ⟨rfl, k2⟩
  have K := Lib.hid k2
  clear k2
  go_wp2_with fail
  go_ret
  exact ⟨rfl, K.out⟩
set_option maxRecDepth 100000 in
theorem ptype1_any (a : Option Addr) (N cap : Nat) (C : ByteArray) (w : World) (h : TxtCall 45 #[.slice a N cap, .int .i64 0] w C) : Calls Tryz.prog 44 #[.slice a N cap] w fun e w' => e = .returned (.string C) ∧ KB F0 w w' := by
  obtain ⟨w0, rfl⟩ : ∃ w0, w0 = w := ⟨_, rfl⟩
  have H := Lib.hid h
  unfold TxtCall at H
  clear h
  go_enter Tryz.func44, Tryz.ntmps44
  go_wp2_with fail
  refine H.out.mono ?_
  rintro e w2 ⟨rfl, k2⟩
  have K := Lib.hid k2
  clear k2
  go_wp2_with fail
  go_ret
  exact ⟨rfl, K.out⟩
theorem szL_txt (L : List ByteArray) : (txtK L L.length).size = szL L := by rw [txtK_size L _ (Nat.le_refl _), List.take_length]
theorem tree_box (a : Option Addr) (N cap : Nat) (w : World) : KB F0 w (w.alloc (.cells #[.slice a N cap] 24)) := (KB.refl _ _).alloc _
set_option maxRecDepth 100000 in
theorem pfile_any (ts : List Nd) (hlen : ts.length < 100000000) (hok : ∀ x ∈ ts, NdOk x) (a : Option Addr) (cap : Nat) (w : World) (hts : NodesAt w a ts) (hT : PT w) :
    Calls Tryz.prog 11 #[.agg #[.slice a ts.length cap]] w fun e w' => e = .returned (.tuple #[.string (fileP ts).1, .int .i64 ((fileP ts).2 : Nat)]) ∧ KB F0 w w' := by
  obtain ⟨w0, rfl⟩ : ∃ w0, w0 = w := ⟨_, rfl⟩
  have k1 := tree_box a ts.length cap w0
  have TD := told_any ts hlen hok a cap 35 36 _ (hts.kbF k1) (hT.kb k1) (decide ((ts.getD 0 nd0).k = 1)) (txtK (linesN ts) (linesN ts).length) (KB F0 (w0.alloc (.cells #[.slice a ts.length cap] 24)))
    (fun e => by have h := tok_of e; have := lines_size h hok; have := h.len; rw [szL_txt]; omega) (fun _ W _ => pfile1_any _ W)
    (fun e1 e2 W hk => (pfile2_any ts (tok_of e1) hok a cap W (hts.kbF (k1.trans hk)) (hT.kb (k1.trans hk)) (by rw [of_decide_eq_true e2]; rfl)).mono fun e w' ⟨h1, h2⟩ => ⟨h1, hk.trans h2⟩)
    (enters Tryz.func35 (by kernel_rfl) (by kernel_rfl)) (enters Tryz.func36 (by kernel_rfl) (by kernel_rfl))
  have TD2 := TD.mono fun e w' h => toldEnd_at h
  have hE : (if (mayN ts && decide ((ts.getD 0 nd0).k = 1)) = true then longP (txtK (linesN ts) (linesN ts).length) else (ByteArray.empty, 2)) = fileP ts := by
    unfold fileP longP; rw [szL_txt]
  rw [hE] at TD2
  have H := Lib.hid TD2
  have K1 := Lib.hid k1
  generalize fileP ts = R at H ⊢
  generalize ts.length = N at H K1 ⊢
  clear TD TD2 hE hts hT hok hlen k1
  go_enter Tryz.func11, Tryz.ntmps11
  go_wp2_with fail
  refine H.out.mono ?_
  rintro e w2 ⟨rfl, k2⟩
  have K := Lib.hid (K1.out.trans k2)
  clear k2
  go_wp2_with fail
  go_ret2
  exact ⟨rfl, K.out⟩
set_option maxRecDepth 100000 in
theorem pexpr_any (ts : List Nd) (hlen : ts.length < 100000000) (hok : ∀ x ∈ ts, NdOk x) (a : Option Addr) (cap : Nat) (w : World) (hts : NodesAt w a ts) (hT : PT w) :
    Calls Tryz.prog 12 #[.agg #[.slice a ts.length cap]] w fun e w' => e = .returned (.tuple #[.string (exprP ts).1, .int .i64 ((exprP ts).2 : Nat)]) ∧ KB F0 w w' := by
  obtain ⟨w0, rfl⟩ : ∃ w0, w0 = w := ⟨_, rfl⟩
  have k1 := tree_box a ts.length cap w0
  have TD := told_any ts hlen hok a cap 40 41 _ (hts.kbF k1) (hT.kb k1) (isExprB (ts.getD 0 nd0).k) (Ex ts 0 1) (KB F0 (w0.alloc (.cells #[.slice a ts.length cap] 24)))
    (fun e => by have h := tok_of e; have := Ex_size h hok 1 h.good.1; have := wt1_pos h.good h.good.1; have := h.len; omega) (fun _ W _ => pisExpr_any _ W)
    (fun e1 e2 W hk => (pexpr1_any a ts.length cap _ W (whole_any ts (tok_of e1) hok a cap 0 W (tok_of e1).good.1 (hts.kbF (k1.trans hk)) (hT.kb (k1.trans hk)) e2)).mono fun e w' ⟨h1, h2⟩ => ⟨h1, hk.trans h2⟩)
    (enters Tryz.func40 (by kernel_rfl) (by kernel_rfl)) (enters Tryz.func41 (by kernel_rfl) (by kernel_rfl))
  have TD2 := TD.mono fun e w' h => toldEnd_at h
  have hE : (if (mayN ts && isExprB (ts.getD 0 nd0).k) = true then longP (Ex ts 0 1) else (ByteArray.empty, 2)) = exprP ts := rfl
  rw [hE] at TD2
  have H := Lib.hid TD2
  have K1 := Lib.hid k1
  generalize exprP ts = R at H ⊢
  generalize ts.length = N at H K1 ⊢
  clear TD TD2 hE hts hT hok hlen k1
  go_enter Tryz.func12, Tryz.ntmps12
  go_wp2_with fail
  refine H.out.mono ?_
  rintro e w2 ⟨rfl, k2⟩
  have K := Lib.hid (K1.out.trans k2)
  clear k2
  go_wp2_with fail
  go_ret2
  exact ⟨rfl, K.out⟩
set_option maxRecDepth 100000 in
theorem ptype_any (ts : List Nd) (hlen : ts.length < 100000000) (hok : ∀ x ∈ ts, NdOk x) (a : Option Addr) (cap : Nat) (w : World) (hts : NodesAt w a ts) (hT : PT w) :
    Calls Tryz.prog 13 #[.agg #[.slice a ts.length cap]] w fun e w' => e = .returned (.tuple #[.string (typeP ts).1, .int .i64 ((typeP ts).2 : Nat)]) ∧ KB F0 w w' := by
  obtain ⟨w0, rfl⟩ : ∃ w0, w0 = w := ⟨_, rfl⟩
  have k1 := tree_box a ts.length cap w0
  have TD := told_any ts hlen hok a cap 43 44 _ (hts.kbF k1) (hT.kb k1) (isTypeB (ts.getD 0 nd0).k) (Ty ts 0) (KB F0 (w0.alloc (.cells #[.slice a ts.length cap] 24)))
    (fun e => by have h := tok_of e; have := Ty_size h h.good.1; have := wt1_pos h.good h.good.1; have := h.len; omega) (fun _ W _ => pisType_any _ W)
    (fun e1 e2 W hk => (ptype1_any a ts.length cap _ W (kind_any5 ts (tok_of e1) a cap 0 W (tok_of e1).good.1 (hts.kbF (k1.trans hk)) e2)).mono fun e w' ⟨h1, h2⟩ => ⟨h1, hk.trans h2⟩)
    (enters Tryz.func43 (by kernel_rfl) (by kernel_rfl)) (enters Tryz.func44 (by kernel_rfl) (by kernel_rfl))
  have TD2 := TD.mono fun e w' h => toldEnd_at h
  have hE : (if (mayN ts && isTypeB (ts.getD 0 nd0).k) = true then longP (Ty ts 0) else (ByteArray.empty, 2)) = typeP ts := rfl
  rw [hE] at TD2
  have H := Lib.hid TD2
  have K1 := Lib.hid k1
  generalize typeP ts = R at H ⊢
  generalize ts.length = N at H K1 ⊢
  clear TD TD2 hE hts hT hok hlen k1
  go_enter Tryz.func13, Tryz.ntmps13
  go_wp2_with fail
  refine H.out.mono ?_
  rintro e w2 ⟨rfl, k2⟩
  have K := Lib.hid (K1.out.trans k2)
  clear k2
  go_wp2_with fail
  go_ret2
  exact ⟨rfl, K.out⟩
end Go.Proofs.YtoophdcagpfmpaaGreatDoor
