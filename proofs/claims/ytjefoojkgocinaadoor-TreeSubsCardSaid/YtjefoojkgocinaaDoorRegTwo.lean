/- A drawn region cut into parts: operations that all others wait for. -/
import Derived.Test.YtjefoojkgocinaaDoorRegionK
namespace Go.Proofs.YtjefoojkgocinaaDoor
open Go

section
variable {P : Program} {ops : Array Oper} {G : World → World → Prop} {w0 : World} {kind : Nat → OKind} {Q : Exit → Act → World → Prop} {t : Nat}

theorem region_gen {T : Act → World → Prop} (hok : RegOK ops ops.size) (ht : t ≤ ops.size) (hcut : ∀ i, t ≤ i → i < ops.size → ∀ j, j < t → befOf ops i j = true)
    (hcont : ∀ (fuel : Nat) (listed : Array Bool) (a : Act) (w : World), ops.size ≤ fuel + t → Listed ops listed (fun j => decide (j < t)) → T a w → wpAny P .any ops Q fuel listed a w)
     (hG : ∀ a b c, G a b → G b c → G a c) (hGr : ∀ a, G a a)
    (hmono : ∀ i Fp Fw, kind i = .rel Fp Fw → ∀ xs v a b, G a b → Fw xs v a → Fw xs v b) (a0 : Act) :
    ∀ (fuel : Nat) (listed : Array Bool) (val : Vals) (w : World), ((List.range ops.size).filter (fun j => (val j).isNone)).length ≤ fuel →
      Listed ops listed (fun j => (val j).isSome) → (∀ j, t ≤ j → val j = none) →
      G w0 w → (∀ j v φ, val j = some (v, some φ) → φ w ∧ ∀ a b, G a b → φ a → φ b) →
      rvc P ops G w0 kind (befOf ops) T (ops.toList.take t) 0 val a0 [] →
      wpAny P .any ops Q fuel listed (realF (ops.toList.take t) 0 val a0) w := by
  intro fuel
  induction fuel with
  | zero =>
    intro listed val w hf hl hnt hw hfacts h
    by_cases hall : ∀ j, j < t → (val j).isSome = true
    · refine hcont 0 listed _ w ?_ ?_ ?_
      · rcases Nat.lt_or_ge t ops.size with h1 | h1
        · have : t ∈ (List.range ops.size).filter (fun j => (val j).isNone) := by simp [h1, hnt t (Nat.le_refl _)]
          have := List.length_pos_of_mem this
          omega
        · omega
      · have e : (fun j => (val j).isSome) = (fun j => decide (j < t)) := by
          funext j
          by_cases hj : j < t
          · simp [hj, hall j hj]
          · simp [hj, hnt j (by omega)]
        rw [← e]; exact hl
      · refine rvc_all_done hw _ 0 a0 [] (fun m hm => ?_) (fun p hp => by cases hp) h
        have := hall m (by simp at hm; omega)
        rw [Nat.zero_add]
        obtain ⟨⟨v, φ⟩, hv⟩ := Option.isSome_iff_exists.1 this
        exact ⟨v, φ, hv, fun f hf => (hfacts m v f (hf ▸ hv)).1⟩
    · exfalso
      apply hall
      intro j hj
      cases hv : val j with
      | some x => rfl
      | none =>
        have : j ∈ (List.range ops.size).filter (fun j => (val j).isNone) := by simp [hv]; have := ht; omega
        have := List.length_pos_of_mem this
        omega
  | succ fuel ih =>
    intro listed val w hf hl hnt hw hfacts h
    by_cases hall : ∀ j, j < t → (val j).isSome = true
    · refine hcont (fuel + 1) listed _ w ?_ ?_ ?_
      · refine Nat.le_trans ?_ (Nat.add_le_add_right hf t)
        have hsub : ((List.range' t (ops.size - t))).length ≤ ((List.range ops.size).filter (fun j => (val j).isNone)).length := by
          apply List.Sublist.length_le
          have h1 : (List.range ops.size) = List.range t ++ List.range' t (ops.size - t) := by
            have h2 := List.range'_append_1 (s := 0) (m := t) (n := ops.size - t)
            rw [List.range_eq_range', List.range_eq_range', Nat.zero_add, show t + (ops.size - t) = ops.size by have := ht; omega] at *
            exact h2.symm
          rw [h1, List.filter_append]
          refine List.Sublist.trans ?_ (List.sublist_append_right _ _)
          rw [List.filter_eq_self.2 (fun x hx => by rw [hnt x (by simp at hx; omega)]; rfl)]
          exact List.Sublist.refl _
        simp at hsub; omega
      · have e : (fun j => (val j).isSome) = (fun j => decide (j < t)) := by
          funext j
          by_cases hj : j < t
          · simp [hj, hall j hj]
          · simp [hj, hnt j (by omega)]
        rw [← e]; exact hl
      · refine rvc_all_done hw _ 0 a0 [] (fun m hm => ?_) (fun p hp => by cases hp) h
        have := hall m (by simp at hm; omega)
        rw [Nat.zero_add]
        obtain ⟨⟨v, φ⟩, hv⟩ := Option.isSome_iff_exists.1 this
        exact ⟨v, φ, hv, fun f hf => (hfacts m v f (hf ▸ hv)).1⟩
    · -- an operation of the first t has not come up yet
      obtain ⟨j0, hj0, hv0⟩ : ∃ j, j < t ∧ val j = none := by
        apply Classical.byContradiction
        intro hne
        apply hall
        intro j hj
        cases hv : val j with
        | some x => rfl
        | none => exact (hne ⟨j, hj, hv⟩).elim
      have hmin : ∃ j, j < t ∧ val j = none ∧ ∀ k, k < j → (val k).isSome = true := by
        induction j0 using Nat.strongRecOn with
        | _ j0 ihj =>
          by_cases hk : ∀ k, k < j0 → (val k).isSome = true
          · exact ⟨j0, hj0, hv0, hk⟩
          · have : ∃ k, k < j0 ∧ val k = none := by
              apply Classical.byContradiction
              intro hne
              apply hk
              intro k hkl
              cases hv : val k with
              | some x => rfl
              | none => exact (hne ⟨k, hkl, hv⟩).elim
            obtain ⟨k, hkl, hkv⟩ := this
            exact ihj k hkl (by omega) hkv
      obtain ⟨jm, hjm, hvm, hbelow⟩ := hmin
      have hjs : jm < ops.size := by have := ht; omega
      have hmem : jm ∈ Region.ready .any ops listed := (hl.ready hok).2 ⟨ops[jm], Array.getElem?_eq_getElem hjs, by simp [hvm], fun e he hb =>
        hbelow _ (hok.edge jm ops[jm] (Array.getElem?_eq_getElem hjs) e he hb)⟩
      refine ⟨fun h0 => (by rw [h0] at hmem; cases hmem), fun i hi => ?_⟩
      obtain ⟨o, ho, h0, hedge⟩ := (hl.ready hok).1 hi
      have hio : i < ops.size := (Array.getElem?_eq_some_iff.1 ho).1
      have hdone : ∀ j, befOf ops i j = true → (val j).isSome = true := fun j hb => reach_done hl (bef_reach hb) o ho hedge
      have hit : i < t := by
        apply Classical.byContradiction
        intro hge
        have := hdone jm (hcut i (by omega) hio jm hjm)
        simp [hvm] at this
      have hvi : val i = none := by simpa using h0
      have htake : (ops.toList.take t)[i - 0]? = some o := by
        rw [Nat.sub_zero, List.getElem?_take_of_lt hit]; simpa using ho
      have hget : ∀ {m om}, (ops.toList.take t)[m]? = some om → ops[m]? = some om ∧ m < t := by
        intro m om hm
        rcases Nat.lt_or_ge m t with h1 | h1
        · rw [List.getElem?_take_of_lt h1] at hm; exact ⟨by simpa using hm, h1⟩
        · rw [List.getElem?_take_eq_none h1] at hm; cases hm
      -- those that come later in the text and have come up are apart
      have hlater : ∀ m om, (ops.toList.take t)[m]? = some om → i < m → (val m).isSome = true → o.apart ops om = true := by
        intro m om hm him hvm'
        obtain ⟨hm1, hm2⟩ := hget hm
        rcases hok.conf m om hm1 (Array.getElem?_eq_some_iff.1 hm1).1 i o him ho with hb | hb
        · have := reach_done hl (bef_reach hb) om hm1 (hl.closed m om hm1 hvm')
          simp [hvi] at this
        · exact hb
      have hstep := rvc_step (kind := kind) (G := G) (w0 := w0) (bef := befOf ops) (T := T) (P := P)
        (Region.noSelect_spec hok.sel) ho hw hvi (fun j v φ hv => (hfacts j v φ hv).1) hdone (ar := realF (ops.toList.take t) 0 val a0)
        (ops.toList.take t) 0 a0 [] h (Nat.zero_le _) htake
        (fun m om hm hlt hn d hd => by
          rw [Nat.zero_add] at hlt hn
          obtain ⟨hm1, hm2⟩ := hget hm
          rcases hok.conf i o ho hio m om hlt hm1 with hb | hb
          · have := hdone m hb; simp [hn] at this
          · exact (Oper.apart_spec hb).1 d hd)
        (fun m om hm hlt hv d hd => by
          rw [Nat.zero_add] at hlt hv
          exact (Oper.apart_spec (hlater m om hm hlt hv)).2.2 d hd)
        (Agree.refl _ _) (fun p hp => by cases hp)
      have hnext : ∀ (v : Value) (φ : Option (World → Prop)) (w' : World), G w w' → (∀ f, φ = some f → f w' ∧ ∀ a b, G a b → f a → f b) →
          rvc P ops G w0 kind (befOf ops) T (ops.toList.take t) 0 (val.set i (v, φ)) a0 [] →
          wpAny P .any ops Q fuel (listed.setIfInBounds i true) ((realF (ops.toList.take t) 0 val a0).put o.dst v) w' := by
        intro v φ w' hww hφ hr
        rw [← realF_set hvi (ops.toList.take t) 0 a0 (Nat.zero_le _) htake (fun m om hm hlt hv d hd => by
          rw [Nat.zero_add] at hlt hv
          intro hom
          exact (Oper.apart_spec (hlater m om hm hlt hv)).2.1 d hd hom)]
        refine ih _ (val.set i (v, φ)) w' ?_ ?_ ?_ (hG _ _ _ hw hww) ?_ hr
        · have hlen : ((List.range ops.size).filter (fun j => ((val.set i (v, φ)) j).isNone)).length < ((List.range ops.size).filter (fun j => (val j).isNone)).length := by
            have hperm : ∀ l : List Nat, l.Nodup → i ∈ l → (l.filter (fun j => ((val.set i (v, φ)) j).isNone)).length < (l.filter (fun j => (val j).isNone)).length := by
              intro l
              induction l with
              | nil => intro _ h; cases h
              | cons x l ihl =>
                intro hnd hm
                rw [List.nodup_cons] at hnd
                by_cases hx : x = i
                · subst hx
                  have hs : (val.set x (v, φ) x).isNone = false := by simp [Vals.set_same]
                  have hs' : (val x).isNone = true := by simp [hvi]
                  rw [List.filter_cons, List.filter_cons, if_neg (by simp [hs]), if_pos hs']
                  have : l.filter (fun j => ((val.set x (v, φ)) j).isNone) = l.filter (fun j => (val j).isNone) :=
                    List.filter_congr fun y hy => by rw [Vals.set_ne _ _ (by intro e; subst e; exact hnd.1 hy)]
                  rw [this]; simp
                · have hm' : i ∈ l := by
                    rcases List.mem_cons.1 hm with h1 | h1
                    · exact (hx h1.symm).elim
                    · exact h1
                  have := ihl hnd.2 hm'
                  by_cases hn : (val x).isNone = true
                  · rw [List.filter_cons, List.filter_cons, if_pos (by rw [Vals.set_ne _ _ hx]; exact hn), if_pos hn]
                    simpa using this
                  · rw [List.filter_cons, List.filter_cons, if_neg (by rw [Vals.set_ne _ _ hx]; exact hn), if_neg hn]
                    exact this
            exact hperm _ List.nodup_range (by simpa using hio)
          omega
        · have hs := hl.set hok hi
          have e : (fun j => if j = i then true else (val j).isSome) = (fun j => ((val.set i (v, φ)) j).isSome) := by
            funext j
            by_cases hj : j = i
            · simp [hj, Vals.set_same]
            · simp [hj, Vals.set_ne _ _ hj]
          rw [← e]; exact hs
        · intro j hj
          rw [Vals.set_ne _ _ (by omega)]; exact hnt j hj
        · intro j u f hj
          by_cases hji : j = i
          · subst hji
            rw [Vals.set_same] at hj
            have h2 := Prod.mk.inj (Option.some.inj hj)
            exact hφ f h2.2
          · rw [Vals.set_ne _ _ hji] at hj
            obtain ⟨h1, h2⟩ := hfacts j u f hj
            exact ⟨h2 _ _ hww h1, h2⟩
      unfold wpOp
      rw [ho]
      unfold StepOK at hstep
      show if Region.wanted o (yielded ops _) = true then _ else _
      by_cases hwt : Region.wanted o (yielded ops (realF (ops.toList.take t) 0 val a0).tmps) = true
      · simp only [hwt, if_true] at hstep ⊢
        refine .inl ?_
        unfold Oper.wp
        cases hk : kind i with
        | det =>
          simp only [hk] at hstep
          obtain ⟨v, hrun, hr⟩ := hstep
          rw [hrun]
          exact hnext v none w (hGr w) (fun f hf => by cases hf) hr
        | rel Fp Fw =>
          simp only [hk] at hstep
          obtain ⟨hov, hr⟩ := hstep
          unfold OpVal at hov
          generalize (execOp (realF (ops.toList.take t) 0 val a0).eval o).run P w = r at hov ⊢
          cases r with
          | halt x w' => exact hov.elim
          | ok n w' =>
            cases n with
            | value v => exact hnext v _ w' hov.2.1 (fun f hf => by cases hf; exact ⟨hov.2.2, fun a b => hmono i Fp Fw hk _ _ a b⟩) (hr v hov.1)
            | enter f args =>
              refine Calls.mono hov ?_
              rintro e w'' ⟨v, rfl, hp, hg, hfw⟩
              exact hnext v _ w'' hg (fun f hf => by cases hf; exact ⟨hfw, fun a b => hmono i Fp Fw hk _ _ a b⟩) (hr v hp)
            | _ => exact hov.elim
      · simp only [hwt] at hstep ⊢
        exact hnext undef none w (hGr w) (fun f hf => by cases hf) hstep

/-- Everything from t on waits for all that is ahead of it. -/
def cutOK (ops : Array Oper) (t : Nat) : Bool := decide (t ≤ ops.size) && (List.range ops.size).all fun i => decide (i < t) || (List.range t).all fun j => befOf ops i j
theorem cutOK_spec {ops : Array Oper} {t : Nat} (h : cutOK ops t = true) : t ≤ ops.size ∧ ∀ i, t ≤ i → i < ops.size → ∀ j, j < t → befOf ops i j = true := by
  unfold cutOK at h
  simp only [Bool.and_eq_true, decide_eq_true_eq, List.all_eq_true, List.mem_range, Bool.or_eq_true] at h
  refine ⟨h.1, fun i hi hs j hj => ?_⟩
  rcases h.2 i hs with h1 | h1
  · omega
  · exact h1 j hj
/-- What is to be walked when the first t operations are done. -/
def From (P : Program) (ops : Array Oper) (Q : Exit → Act → World → Prop) (t : Nat) (a : Act) (w : World) : Prop :=
  ∀ (fuel : Nat) (listed : Array Bool), ops.size ≤ fuel + t → Listed ops listed (fun j => decide (j < t)) → wpAny P .any ops Q fuel listed a w
def idv (o : Oper) (a : Act) : Value := match o.dst with
  | some d => a.tmps.getD d undef
  | none => undef
theorem put_id (o : Oper) (a : Act) : a.put o.dst (idv o a) = a := by
  unfold idv
  cases o.dst with
  | none => rfl
  | some d =>
    simp only [Act.put]
    have : a.tmps.setIfInBounds d (a.tmps.getD d undef) = a.tmps := by
      apply Array.ext_getElem?
      intro i
      rw [Array.getElem?_setIfInBounds]
      by_cases h : d = i
      · subst h
        by_cases h2 : d < a.tmps.size
        · simp [h2]
        · simp [h2]
      · simp [h]
    rw [this]
/-- Behind a cut: a part in any order. -/
theorem from_part {k : Nat} {a : Act} {w : World} (hok : RegOK ops ops.size) (hkt : k ≤ t) (hc : cutOK ops t = true) (hG : ∀ a b c, G a b → G b c → G a c) (hGr : ∀ a, G a a)
    (hmono : ∀ i Fp Fw, kind i = .rel Fp Fw → ∀ xs v a b, G a b → Fw xs v a → Fw xs v b)
    (h : rvc P ops G w kind (befOf ops) (From P ops Q t) ((ops.toList.take t).drop k) k (fun _ => none) a []) : From P ops Q k a w := by
  intro fuel listed hf hl
  obtain ⟨hts, hcut⟩ := cutOK_spec hc
  obtain ⟨val, hval⟩ : ∃ val : Vals, val = fun j => if j < k then (match ops[j]? with | some o => some (idv o a, none) | none => none) else none := ⟨_, rfl⟩
  have hv1 : ∀ j o, j < k → ops[j]? = some o → val j = some (idv o a, none) := fun j o hj ho => by rw [hval]; simp [hj, ho]
  have hv2 : ∀ j, k ≤ j → val j = none := fun j hj => by rw [hval]; simp [show ¬ j < k by omega]
  have hsome : (fun j => decide (j < k)) = (fun j => (val j).isSome) := by
    funext j
    by_cases hj : j < k
    · rw [hv1 j ops[j] hj (Array.getElem?_eq_getElem (by omega))]; simp [hj]
    · rw [hv2 j (by omega)]; simp [hj]
  have hget : ∀ m om, (ops.toList.take t)[m]? = some om → ops[m]? = some om := fun m om hm => by
    rcases Nat.lt_or_ge m t with h1 | h1
    · rw [List.getElem?_take_of_lt h1] at hm; simpa using hm
    · rw [List.getElem?_take_eq_none h1] at hm; cases hm
  -- the prefix puts what is there
  have hre : ∀ (l : List Oper) (m : Nat), (∀ i om, l[i]? = some om → ops[m + i]? = some om) → realF l m val a = a := by
    intro l
    induction l with
    | nil => intro m _; rfl
    | cons x l ih =>
      intro m hm
      have hx := hm 0 x rfl
      rw [Nat.add_zero] at hx
      simp only [realF]
      have hi := ih (m + 1) (fun i om hi => by rw [show m + 1 + i = m + (i + 1) by omega]; exact hm (i + 1) om (by simpa using hi))
      by_cases hj : m < k
      · simp only [hv1 m x hj hx, put_id]; exact hi
      · simp only [hv2 m (by omega)]; exact hi
  have hrv : ∀ (l : List Oper) (m : Nat), m ≤ k → (∀ i om, l[i]? = some om → ops[m + i]? = some om) → rvc P ops G w kind (befOf ops) (From P ops Q t) (l.drop (k - m)) k (fun _ => none) a [] →
      rvc P ops G w kind (befOf ops) (From P ops Q t) l m val a [] := by
    intro l
    induction l with
    | nil => intro m hm _ h; simpa [rvc] using h
    | cons x l ih =>
      intro m hm hx h
      rcases Nat.lt_or_eq_of_le hm with hlt | rfl
      · have hxo := hx 0 x rfl
        rw [Nat.add_zero] at hxo
        simp only [rvc, hv1 m x hlt hxo, put_id, pushF]
        refine ih (m + 1) (by omega) (fun i om hi => by rw [show m + 1 + i = m + (i + 1) by omega]; exact hx (i + 1) om (by simpa using hi)) ?_
        rw [show k - m = (k - (m + 1)) + 1 by omega] at h
        simpa using h
      · rw [Nat.sub_self, List.drop_zero] at h
        exact rvc_congr (val := fun _ => none) (val' := val) (x :: l) m a [] (fun j hj => (hv2 j hj).symm) h
  have hpre : ∀ i om, (ops.toList.take t)[i]? = some om → ops[0 + i]? = some om := fun i om hi => by rw [Nat.zero_add]; exact hget i om hi
  have hmain := region_gen (P := P) (Q := Q) (w0 := w) (G := G) (kind := kind) (t := t) (T := From P ops Q t) hok hts hcut (fun fuel listed a w h1 h2 h3 => h3 fuel listed h1 h2) hG hGr hmono a fuel listed val w
    (by
      refine Nat.le_trans ?_ (show ops.size - k ≤ fuel by omega)
      have e : (List.range ops.size).filter (fun j => (val j).isNone) = List.range' k (ops.size - k) := by
        have h1 : (List.range ops.size) = List.range k ++ List.range' k (ops.size - k) := by
          have h2 := List.range'_append_1 (s := 0) (m := k) (n := ops.size - k)
          rw [List.range_eq_range', List.range_eq_range', Nat.zero_add, show k + (ops.size - k) = ops.size by omega] at *
          exact h2.symm
        rw [h1, List.filter_append, List.filter_eq_nil_iff.2 (fun x hx => by
          have hxk : x < k := by simpa using hx
          rw [hv1 x ops[x] hxk (Array.getElem?_eq_getElem (by omega))]; simp), List.nil_append]
        exact List.filter_eq_self.2 (fun x hx => by rw [hv2 x (by simp at hx; omega)]; rfl)
      rw [e]; simp)
    (by rw [← hsome]; exact hl) (fun j hj => hv2 j (by omega)) (hGr w) (fun j v φ hv => by
      by_cases hj : j < k
      · rw [hv1 j ops[j] hj (Array.getElem?_eq_getElem (by omega))] at hv; cases hv
      · rw [hv2 j (by omega)] at hv; cases hv) (hrv _ 0 (Nat.zero_le _) hpre (by rw [Nat.sub_zero]; exact h))
  rw [hre _ 0 hpre] at hmain
  exact hmain
/-- Behind a cut: one operation, for which all others wait. -/
theorem from_one {k : Nat} {a : Act} {w : World} {o : Oper} (hok : RegOK ops ops.size) (hc : cutOK ops k = true) (hc2 : cutOK ops (k + 1) = true) (ho : ops[k]? = some o)
    (h : Region.wanted o (yielded ops a.tmps) = true) (hw : o.wp P a w (From P ops Q (k + 1)) Q) : From P ops Q k a w := by
  intro fuel listed hf hl
  have hk : k < ops.size := (Array.getElem?_eq_some_iff.1 ho).1
  obtain ⟨-, hcut⟩ := cutOK_spec hc
  obtain ⟨-, hcut2⟩ := cutOK_spec hc2
  cases fuel with
  | zero => omega
  | succ fuel =>
    have hmem : k ∈ Region.ready .any ops listed := (hl.ready hok).2 ⟨o, ho, by simp, fun e he hb => by
      simpa using hok.edge k o ho e he hb⟩
    refine ⟨fun h0 => (by rw [h0] at hmem; cases hmem), fun i hi => ?_⟩
    obtain rfl : i = k := by
      obtain ⟨oi, hoi, h0, hall⟩ := (hl.ready hok).1 hi
      have hi' := (Array.getElem?_eq_some_iff.1 hoi).1
      simp at h0
      rcases Nat.lt_or_eq_of_le h0 with h1 | h1
      · have := reach_done hl (bef_reach (hcut2 i h1 hi' k (by omega))) oi hoi hall
        simp at this
      · exact h1.symm
    have hset := hl.set hok hi
    have hset' : Listed ops (listed.setIfInBounds i true) (fun j => decide (j < i + 1)) := by
      have e : (fun j => if j = i then true else decide (j < i)) = (fun j => decide (j < i + 1)) := by
        funext j
        by_cases h1 : j = i
        · simp [h1]
        · by_cases h2 : j < i
          · simp [h1, h2]; omega
          · simp [h1, h2]; omega
      rw [← e]; exact hset
    unfold wpOp
    rw [ho]
    simp only [h, if_true]
    exact .inl (Oper.wp_mono (fun a' w' h' => h' fuel _ (by omega) hset') hw)
theorem wp_region_from {id : Nat} {a : Act} (hm : P.follows .mixedOrders = true) (h : From P ops Q 0 a w0.drew) : (Code.region id ops true).wp P Q a w0 := by
  refine wp_region_any hm ?_
  exact h ops.size (Array.replicate ops.size false) (by omega) ⟨by simp, fun j hj => by simp [hj], fun j o ho hd => by simp at hd⟩
theorem from_end {a : Act} {w : World} (hok : RegOK ops ops.size) (h : wpList P ops Q [] a w) : From P ops Q ops.size a w := fun fuel listed hf hl =>
  region_tail (t := ops.size) (Q := Q) hok fuel ops.size listed a w (Nat.le_refl _) hf hl (Nat.le_refl _) (by rw [List.drop_of_length_le (by simp)]; exact h)
/-- As from_part, sealed. -/
theorem from_part_rv {k : Nat} {a : Act} {w : World} (t : Nat) (G : World → World → Prop) (kind : Nat → OKind) (hok : regOK ops ops.size = true) (hkt : k ≤ t) (hc : cutOK ops t = true) (hG : ∀ a b c, G a b → G b c → G a c) (hGr : ∀ a, G a a)
    (hmono : ∀ i Fp Fw, kind i = .rel Fp Fw → ∀ xs v a b, G a b → Fw xs v a → Fw xs v b)
    (h : RV P ops G w kind (befOf ops) (From P ops Q t) ((ops.toList.take t).drop k) k a []) : From P ops Q k a w := from_part (regOK_spec hok) hkt hc hG hGr hmono h.out
theorem from_end' {k : Nat} {a : Act} {w : World} (hok : regOK ops ops.size = true) (hk : Nat.beq k ops.size = true) (h : wpList P ops Q [] a w) : From P ops Q k a w := by
  obtain rfl := Nat.eq_of_beq_eq_true hk
  exact from_end (regOK_spec hok) h
/-- The one operation is a call. -/
theorem from_call {k : Nat} {a : Act} {w : World} {o : Oper} {f : FuncId} {vs : Array Value} (d : Option Nat) (hok : regOK ops ops.size = true) (hc : cutOK ops k = true) (hc2 : cutOK ops (k + 1) = true) (ho : ops[k]? = some o) (hd : o.dst = d)
    (h : Region.wanted o (yielded ops a.tmps) = true) (hr : (execOp a.eval o).run P w = .ok (.enter f vs) w) (hw : Calls P f vs w (fun e w' => ∃ v, e = .returned v ∧ From P ops Q (k + 1) (a.put d v) w')) : From P ops Q k a w := by
  subst hd
  refine from_one (regOK_spec hok) hc hc2 ho h ?_
  unfold Oper.wp
  rw [hr]
  refine Calls.mono hw ?_
  rintro e w' ⟨v, rfl, h⟩
  exact h
end
end Go.Proofs.YtjefoojkgocinaaDoor
