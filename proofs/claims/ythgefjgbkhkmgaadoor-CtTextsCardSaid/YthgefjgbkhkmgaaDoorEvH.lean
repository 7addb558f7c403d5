/-
  Regions whose order is drawn: the theorem.
-/
import Derived.Test.YthgefjgbkhkmgaaDoorEvG
namespace Go.Proofs.YthgefjgbkhkmgaaDoor.Ev
open Go Go.RowKit

/-- the state behind operation j -/
def ap (L : List Oper) (outs : List Out) (N : Nat) (S : Slots × Blks) (j : Nat) : Slots × Blks :=
  match L[j]?, outs[j]? with
  | some o, some out => (sApp N S.1 o.dst out.v, eApp S.2 out.e)
  | _, _ => S

/-- the state behind the operations below m that D names, in the text's order -/
def stD (L : List Oper) (outs : List Out) (N : Nat) (D : Nat → Bool) (S : Slots × Blks) : Nat → Slots × Blks
  | 0 => S
  | m + 1 => if D m then ap L outs N (stD L outs N D S m) m else stD L outs N D S m

def wS (L : List Oper) (outs : List Out) (N : Nat) (j s : Nat) : Bool :=
  match L[j]?, outs[j]? with
  | some o, some _ => o.dst == some s && decide (s < N)
  | _, _ => false
def wB (L : List Oper) (outs : List Out) (j k : Nat) : Bool :=
  match L[j]?, outs[j]? with
  | some _, some out => (wrIds out.e).contains k
  | _, _ => false

theorem eApp_other : ∀ (e : List (Nat × Option Blk)) (g : Blks) (k : Nat), (wrIds e).contains k = false → eApp g e k = g k := by
  intro e
  induction e with
  | nil => intro g k _; rfl
  | cons p r ih =>
    intro g k h
    obtain ⟨i, b⟩ := p
    simp only [wrIds, List.contains_cons, Bool.or_eq_false_iff, beq_eq_false_iff_ne, ne_eq] at h
    simp only [eApp]
    rw [ih _ k h.2, if_neg h.1]
theorem eApp_same : ∀ (e : List (Nat × Option Blk)) (g g' : Blks) (k : Nat), (wrIds e).contains k = true → eApp g e k = eApp g' e k := by
  intro e
  induction e with
  | nil => intro g g' k h; cases h
  | cons p r ih =>
    intro g g' k h
    obtain ⟨i, b⟩ := p
    simp only [eApp]
    cases hr : (wrIds r).contains k with
    | true => exact ih _ _ k hr
    | false =>
      rw [eApp_other r _ k hr, eApp_other r _ k hr]
      simp only [wrIds, List.contains_cons, hr, Bool.or_false, beq_iff_eq] at h
      rw [if_pos h, if_pos h]

section
variable {L : List Oper} {outs : List Out} {N : Nat}

theorem ap_slot_other {S : Slots × Blks} {j s : Nat} (h : wS L outs N j s = false) : (ap L outs N S j).1 s = S.1 s := by
  unfold wS at h
  unfold ap
  split at h
  · rename_i o out ho hout
    simp only
    cases hd : o.dst with
    | none => rfl
    | some d =>
      rw [hd] at h
      simp only [sApp]
      simp only [Bool.and_eq_false_iff, beq_eq_false_iff_ne, ne_eq, Option.some.injEq, decide_eq_false_iff_not] at h
      rw [if_neg]
      intro ⟨e1, e2⟩
      rcases h with h | h
      · exact h e1.symm
      · exact h (by omega)
  · rfl
theorem ap_slot_same {S S' : Slots × Blks} {j s : Nat} (h : wS L outs N j s = true) : (ap L outs N S j).1 s = (ap L outs N S' j).1 s := by
  unfold wS at h
  unfold ap
  split at h
  · rename_i o out ho hout
    simp only [Bool.and_eq_true, beq_iff_eq, decide_eq_true_eq] at h
    simp only [sApp, h.1]
    rw [if_pos ⟨trivial, h.2⟩, if_pos ⟨trivial, h.2⟩]
  · cases h
theorem ap_blk_other {S : Slots × Blks} {j k : Nat} (h : wB L outs j k = false) : (ap L outs N S j).2 k = S.2 k := by
  unfold wB at h
  unfold ap
  split at h
  · rename_i o out ho hout
    exact eApp_other _ _ _ h
  · rfl
theorem ap_blk_same {S S' : Slots × Blks} {j k : Nat} (h : wB L outs j k = true) : (ap L outs N S j).2 k = (ap L outs N S' j).2 k := by
  unfold wB at h
  unfold ap
  split at h
  · rename_i o out ho hout
    exact eApp_same _ _ _ _ h
  · cases h

theorem stD_slot {D D' : Nat → Bool} {S : Slots × Blks} {s : Nat} : ∀ m, (∀ j, j < m → wS L outs N j s = true → D j = D' j) → (stD L outs N D S m).1 s = (stD L outs N D' S m).1 s := by
  intro m
  induction m with
  | zero => intro _; rfl
  | succ m ih =>
    intro h
    have ih := ih fun j hj => h j (by omega)
    simp only [stD]
    cases hw : wS L outs N m s with
    | true =>
      rw [h m (by omega) hw]
      split
      · exact ap_slot_same hw
      · exact ih
    | false =>
      have e1 : (if D m then ap L outs N (stD L outs N D S m) m else stD L outs N D S m).1 s = (stD L outs N D S m).1 s := by
        split
        · exact ap_slot_other hw
        · rfl
      have e2 : (if D' m then ap L outs N (stD L outs N D' S m) m else stD L outs N D' S m).1 s = (stD L outs N D' S m).1 s := by
        split
        · exact ap_slot_other hw
        · rfl
      rw [e1, e2, ih]
theorem stD_blk {D D' : Nat → Bool} {S : Slots × Blks} {k : Nat} : ∀ m, (∀ j, j < m → wB L outs j k = true → D j = D' j) → (stD L outs N D S m).2 k = (stD L outs N D' S m).2 k := by
  intro m
  induction m with
  | zero => intro _; rfl
  | succ m ih =>
    intro h
    have ih := ih fun j hj => h j (by omega)
    simp only [stD]
    cases hw : wB L outs m k with
    | true =>
      rw [h m (by omega) hw]
      split
      · exact ap_blk_same hw
      · exact ih
    | false =>
      have e1 : (if D m then ap L outs N (stD L outs N D S m) m else stD L outs N D S m).2 k = (stD L outs N D S m).2 k := by
        split
        · exact ap_blk_other hw
        · rfl
      have e2 : (if D' m then ap L outs N (stD L outs N D' S m) m else stD L outs N D' S m).2 k = (stD L outs N D' S m).2 k := by
        split
        · exact ap_blk_other hw
        · rfl
      rw [e1, e2, ih]

theorem stD_slot_last {D : Nat → Bool} {S X : Slots × Blks} {s i : Nat} (hi : wS L outs N i s = true) (hD : D i = true) : ∀ m, i < m → (∀ j, j < m → i < j → wS L outs N j s = true → D j = false) → (stD L outs N D S m).1 s = (ap L outs N X i).1 s := by
  intro m
  induction m with
  | zero => intro h; omega
  | succ m ih =>
    intro hm h
    simp only [stD]
    by_cases e : m = i
    · subst e
      rw [hD, if_pos rfl]
      exact ap_slot_same hi
    · have ih := ih (by omega) fun j hj => h j (by omega)
      cases hw : wS L outs N m s with
      | true =>
        rw [h m (by omega) (by omega) hw]
        simpa using ih
      | false =>
        split
        · rw [ap_slot_other hw]; exact ih
        · exact ih
theorem stD_blk_last {D : Nat → Bool} {S X : Slots × Blks} {k i : Nat} (hi : wB L outs i k = true) (hD : D i = true) : ∀ m, i < m → (∀ j, j < m → i < j → wB L outs j k = true → D j = false) → (stD L outs N D S m).2 k = (ap L outs N X i).2 k := by
  intro m
  induction m with
  | zero => intro h; omega
  | succ m ih =>
    intro hm h
    simp only [stD]
    by_cases e : m = i
    · subst e
      rw [hD, if_pos rfl]
      exact ap_blk_same hi
    · have ih := ih (by omega) fun j hj => h j (by omega)
      cases hw : wB L outs m k with
      | true =>
        rw [h m (by omega) (by omega) hw]
        simpa using ih
      | false =>
        split
        · rw [ap_blk_other hw]; exact ih
        · exact ih

theorem stD_lt {S : Slots × Blks} {i : Nat} : ∀ m, i ≤ m → stD L outs N (fun j => decide (j < i)) S m = stD L outs N (fun _ => true) S i := by
  intro m
  induction m with
  | zero => intro h; have : i = 0 := by omega
            subst this; rfl
  | succ m ih =>
    intro h
    by_cases e : i = m + 1
    · subst e
      have gen : ∀ q, q ≤ m + 1 → stD L outs N (fun j => decide (j < m + 1)) S q = stD L outs N (fun _ => true) S q := by
        intro q
        induction q with
        | zero => intro _; rfl
        | succ q ihq =>
          intro hq
          simp only [stD]
          rw [ihq (by omega)]
          simp only [if_true]
          rw [if_pos (by simp; omega)]
      exact gen _ (Nat.le_refl _)
    · simp only [stD]
      rw [ih (by omega)]
      rw [if_neg (by simp; omega)]
end

section
variable {P : Program} {tab : Tab} {orc : Orc} {sy : Sy}

/-- all operations in the text's order, one by one -/
theorem runF_spec {L : List Oper} {n : Nat} : ∀ (r : List Oper) (i : Nat) (t : List (Option Value)) (h : Heap) (outs : List Out) (t' : List (Option Value)) (h' : Heap),
    runF tab orc sy L n i r t h = some (outs, t', h') →
    (∀ j o, r[j]? = some o → ∃ out, outs[j]? = some out ∧
      stepF tab orc sy L (n + (i + j)) (stD r outs t.length (fun _ => true) (slotOf t, hget h) j).1 (stD r outs t.length (fun _ => true) (slotOf t, hget h) j).2 o = some out ∧
      (feet tab orc sy L n i r t h)[j]? = some (opIds (stD r outs t.length (fun _ => true) (slotOf t, hget h) j).1 o.op, wrIds out.e)) ∧
    (slotOf t', hget h') = stD r outs t.length (fun _ => true) (slotOf t, hget h) r.length ∧ (feet tab orc sy L n i r t h).length = r.length := by
  intro r
  induction r with
  | nil =>
    intro i t h outs t' h' hr
    cases hr
    exact ⟨fun j o h => by simp at h, rfl, rfl⟩
  | cons o r ih =>
    intro i t h outs t' h' hr
    simp only [runF] at hr
    split at hr
    · cases hr
    · rename_i out ho
      split at hr
      · cases hr
      · rename_i outs' t2 h2 hrest
        cases hr
        obtain ⟨i1, i2, i3⟩ := ih _ _ _ _ _ _ hrest
        have hfeet : feet tab orc sy L n i (o :: r) t h = (opIds (slotOf t) o.op, wrIds out.e) :: feet tab orc sy L n (i + 1) r (tApp t o.dst out.v) (hApp h out.e) := by
          simp only [feet, ho]
        have hst : ∀ m, stD (o :: r) (out :: outs') t.length (fun _ => true) (slotOf t, hget h) (m + 1) = stD r outs' (tApp t o.dst out.v).length (fun _ => true) (slotOf (tApp t o.dst out.v), hget (hApp h out.e)) m := by
          intro m
          induction m with
          | zero => simp only [stD, if_true, ap, List.getElem?_cons_zero, tApp_slot, hApp_get]
          | succ m ihm =>
            have e1 : stD (o :: r) (out :: outs') t.length (fun _ => true) (slotOf t, hget h) (m + 1 + 1) = ap (o :: r) (out :: outs') t.length (stD (o :: r) (out :: outs') t.length (fun _ => true) (slotOf t, hget h) (m + 1)) (m + 1) := if_pos rfl
            have e2 : stD r outs' (tApp t o.dst out.v).length (fun _ => true) (slotOf (tApp t o.dst out.v), hget (hApp h out.e)) (m + 1) = ap r outs' (tApp t o.dst out.v).length (stD r outs' (tApp t o.dst out.v).length (fun _ => true) (slotOf (tApp t o.dst out.v), hget (hApp h out.e)) m) m := if_pos rfl
            rw [e1, e2, ihm]
            simp only [ap, List.getElem?_cons_succ, tApp_length]
        refine ⟨?_, ?_, ?_⟩
        · intro j q hq
          cases j with
          | zero =>
            simp only [List.getElem?_cons_zero, Option.some.injEq] at hq
            subst hq
            exact ⟨out, rfl, by simpa [stD] using ho, by rw [hfeet]; simp [stD]⟩
          | succ j =>
            obtain ⟨out2, q1, q2, q3⟩ := i1 j q (by simpa using hq)
            refine ⟨out2, by simpa using q1, ?_, ?_⟩
            · rw [hst j]
              have e : n + (i + (j + 1)) = n + (i + 1 + j) := by omega
              rw [e]; exact q2
            · rw [hst j, hfeet]
              simpa using q3
        · rw [i2, List.length_cons, hst]
        · rw [hfeet]; simp [i3]

/-! ### What is left to come up -/
def cnt (D : Nat → Bool) : Nat → Nat
  | 0 => 0
  | n + 1 => cnt D n + if D n then 0 else 1
theorem cnt_zero {D : Nat → Bool} : ∀ n, cnt D n = 0 → ∀ j, j < n → D j = true := by
  intro n
  induction n with
  | zero => intro _ j hj; omega
  | succ n ih =>
    intro h j hj
    simp only [cnt] at h
    by_cases e : j = n
    · subst e
      cases hd : D j with
      | true => rfl
      | false => simp [hd] at h
    · exact ih (by omega) j (by omega)
theorem cnt_set {D D' : Nat → Bool} {i : Nat} (h0 : D i = false) (h1 : D' i = true) (h2 : ∀ j, j ≠ i → D' j = D j) : ∀ n, (i < n → cnt D' n + 1 = cnt D n) ∧ (n ≤ i → cnt D' n = cnt D n) := by
  intro n
  induction n with
  | zero => exact ⟨fun h => by omega, fun _ => rfl⟩
  | succ n ih =>
    refine ⟨fun h => ?_, fun h => ?_⟩
    · simp only [cnt]
      by_cases e : n = i
      · subst e
        rw [ih.2 (Nat.le_refl _), h0, h1]
        simp
      · have := ih.1 (by omega)
        rw [h2 n e]; omega
    · simp only [cnt]
      rw [ih.2 (by omega), h2 n (by omega)]

theorem meet_of : ∀ {x : Nat} {l r : List Nat}, x ∈ l → x ∈ r → meet l r = true := by
  intro x l
  induction l with
  | nil => intro r h; cases h
  | cons y l ih =>
    intro r h hr
    simp only [meet, Bool.or_eq_true, List.contains_iff_mem]
    rcases List.mem_cons.1 h with e | e
    · left; rw [← e]; exact hr
    · right; exact ih e hr

theorem conf_read {L : List Oper} {x y : Oper} {s : Nat} (hx : x.dst = some s) (hy : s ∈ opSlots L y) : slotConf L x y = true ∧ slotConf L y x = true := by
  unfold slotConf
  refine ⟨?_, ?_⟩
  · rw [meet_of (x := s) (by simp [hx]) (List.mem_append.2 (Or.inl hy))]; rfl
  · rw [meet_of (l := x.dst.toList) (r := opSlots L y) (x := s) (by simp [hx]) hy]; simp
theorem conf_write {L : List Oper} {x y : Oper} {s : Nat} (hx : x.dst = some s) (hy : y.dst = some s) : slotConf L x y = true := by
  unfold slotConf
  rw [meet_of (x := s) (by simp [hx]) (List.mem_append.2 (Or.inr (by simp [hy])))]; rfl
theorem idc_read {x y : List Nat × List Nat} {k : Nat} (hx : k ∈ x.2) (hy : k ∈ y.1) : idConf x y = true ∧ idConf y x = true := by
  unfold idConf
  refine ⟨?_, ?_⟩
  · rw [meet_of hx (List.mem_append.2 (Or.inl hy))]; rfl
  · rw [meet_of (l := x.2) (r := y.1) hx hy]; simp
theorem idc_write {x y : List Nat × List Nat} {k : Nat} (hx : k ∈ x.2) (hy : k ∈ y.2) : idConf x y = true := by
  unfold idConf
  rw [meet_of hx (List.mem_append.2 (Or.inr hy))]; rfl

theorem wS_spec {L : List Oper} {outs : List Out} {N j s : Nat} (h : wS L outs N j s = true) : ∃ o, L[j]? = some o ∧ o.dst = some s := by
  unfold wS at h
  split at h
  · rename_i o out ho hout
    simp only [Bool.and_eq_true, beq_iff_eq] at h
    exact ⟨o, ho, h.1⟩
  · cases h
theorem wB_spec {L : List Oper} {outs : List Out} {j k : Nat} (h : wB L outs j k = true) : ∃ out, outs[j]? = some out ∧ k ∈ wrIds out.e := by
  unfold wB at h
  split at h
  · rename_i o out ho hout
    exact ⟨out, hout, by simpa using h⟩
  · cases h

/-- **The order theorem.** -/
theorem drawn_sound (hT : TabOk P tab) (hO : OrcOk P orc) {ops : Array Oper} {n : Nat} {t t' : List (Option Value)} {h h' : Heap} {outs : List Out} {w0 : World} {Q : Exit → Act → World → Prop}
    (hrun : runF tab orc sy ops.toList n 0 ops.toList t h = some (outs, t', h')) (hc : ∀ out ∈ outs, out.c = true) (hok : okOrder ops.toList = true)
    (hids : okIds 0 (feet tab orc sy ops.toList n 0 ops.toList t h) (clos ops.toList) = true)
    (hQ : ∀ ρ' a' w', Rel w0 (fun k => k < n + ops.toList.length) ρ' t'.length (slotOf t') (hget h') a' w' → Q .normal a' w') :
    ∀ (fuel : Nat) (listed : Array Bool) (ρ : Nat → Nat × Nat × Nat) (a : Act) (w : World), listed.size = ops.size → cnt (fun j => listed.getD j false) ops.size = fuel →
      (∀ j o, listed.getD j false = true → ops.toList[j]? = some o → ∀ e ∈ o.after.toList, Region.binds .any e = true → listed.getD e.on false = true) →
      Rel w0 (fun k => k < n ∨ ∃ j, j < ops.size ∧ listed.getD j false = true ∧ k = n + j) ρ t.length (stD ops.toList outs t.length (fun j => listed.getD j false) (slotOf t, hget h) ops.size).1
        (stD ops.toList outs t.length (fun j => listed.getD j false) (slotOf t, hget h) ops.size).2 a w →
      wpAny P .any ops Q fuel listed a w := by
  have hsz : ops.toList.length = ops.size := Array.length_toList
  obtain ⟨hspec, hfin, hfl⟩ := runF_spec _ _ _ _ _ _ _ hrun
  obtain ⟨hol, htl⟩ := runF_length (ops := ops) _ _ _ _ _ _ _ hrun
  simp only [okOrder, Bool.and_eq_true] at hok
  have hcl : (clos ops.toList).length = ops.size := by unfold clos; rw [closA_length]; simp
  have hslots := okSlots_spec _ _ 0 (by rw [hsz, hcl]) hok.1
  have hidsp := okIds_spec _ _ 0 (by rw [hfl, hsz, hcl]) hids
  have hback := backward_spec _ 0 hok.2
  simp only [Nat.zero_add] at hslots hidsp hback
  have hdone : ∀ (listed : Array Bool) (ρ : Nat → Nat × Nat × Nat) (a : Act) (w : World), (∀ j, j < ops.size → listed.getD j false = true) →
      Rel w0 (fun k => k < n ∨ ∃ j, j < ops.size ∧ listed.getD j false = true ∧ k = n + j) ρ t.length (stD ops.toList outs t.length (fun j => listed.getD j false) (slotOf t, hget h) ops.size).1
        (stD ops.toList outs t.length (fun j => listed.getD j false) (slotOf t, hget h) ops.size).2 a w → Q .normal a w := by
    intro listed ρ a w hall hR
    refine hQ ρ a w ?_
    have e1 : slotOf t' = (stD ops.toList outs t.length (fun _ => true) (slotOf t, hget h) ops.size).1 := by rw [← hsz, ← hfin]
    have e2 : hget h' = (stD ops.toList outs t.length (fun _ => true) (slotOf t, hget h) ops.size).2 := by rw [← hsz, ← hfin]
    rw [htl, e1, e2]
    refine (hR.mono ?_).congr ?_ ?_
    · intro k hk
      rcases hk with hk | ⟨j, hj, _, rfl⟩
      · omega
      · omega
    · intro s
      exact stD_slot _ fun j hj _ => (hall j hj).symm
    · intro k
      exact stD_blk _ fun j hj _ => (hall j hj).symm
  intro fuel
  induction fuel with
  | zero =>
    intro listed ρ a w hls hcnt hclosed hR
    have hall := cnt_zero _ hcnt
    refine ⟨?_, hdone listed ρ a w hall hR⟩
    apply List.eq_nil_iff_forall_not_mem.2
    intro j hj
    obtain ⟨hj1, o, ho, _⟩ := mem_ready.1 hj
    have hlt : j < ops.size := (Array.getElem?_eq_some_iff.1 ho).1
    have := hall j hlt
    simp [hls, hlt] at hj1 this
    rw [hj1] at this; cases this
  | succ fuel ih =>
    intro listed ρ a w hls hcnt hclosed hR
    refine ⟨?_, ?_⟩
    · intro hnil
      -- then all have come up
      have hall : ∀ j, j < ops.size → listed.getD j false = true := by
        intro j
        induction j using Nat.strongRecOn with
        | ind j ihj =>
          intro hj
          cases hd : listed.getD j false with
          | true => rfl
          | false =>
            exfalso
            have hmem : j ∈ Region.ready .any ops listed := by
              refine mem_ready.2 ⟨?_, ops[j], by simp [hj], ?_⟩
              · simpa [hls, hj] using hd
              · intro e he hb
                have hlt := hback j ops[j] (by simp [hj]) e (by simpa using he) hb
                exact ihj e.on hlt (by omega)
            rw [hnil] at hmem
            cases hmem
      exact hdone listed ρ a w hall hR
    · intro i hi
      obtain ⟨hi1, o, ho, hpre⟩ := mem_ready.1 hi
      have hlt : i < ops.size := (Array.getElem?_eq_some_iff.1 ho).1
      have hDi : listed.getD i false = false := by simpa [hls, hlt] using hi1
      have hoL : ops.toList[i]? = some o := by simpa using ho
      obtain ⟨out, hout, hstep, hfeet⟩ := hspec i o hoL
      -- what is listed, and i with it
      have hcl1 : ∀ j o', (listed.getD j false = true ∨ j = i) → ops.toList[j]? = some o' → ∀ e ∈ o'.after.toList, Region.binds .any e = true → (listed.getD e.on false = true ∨ e.on = i) := by
        intro j o' hj ho' e he hb
        rcases hj with hj | hj
        · exact Or.inl (hclosed j o' hj ho' e he hb)
        · subst hj
          rw [hoL] at ho'
          cases ho'
          exact Or.inl (hpre e (by simpa using he) hb)
      have hfar : ∀ j, j < ops.size → listed.getD j false = true → ((clos ops.toList).getD j 0).testBit i = true → False := by
        intro j hj hDj hb
        have := clos_closed (L := ops.toList) (D := fun j => listed.getD j false = true) hclosed j i (by omega) hDj hb
        rw [hDi] at this; cases this
      have hnear : ∀ j, j < i → ((clos ops.toList).getD i 0).testBit j = true → listed.getD j false = true := by
        intro j hj hb
        have := clos_closed (L := ops.toList) (D := fun j => listed.getD j false = true ∨ j = i) hcl1 i j (by omega) (Or.inr rfl) hb
        rcases this with h1 | h1
        · exact h1
        · omega
      -- what it looks at is as in the text's order
      have htext := stD_lt (L := ops.toList) (outs := outs) (N := t.length) (S := (slotOf t, hget h)) (i := i) ops.size (by omega)
      have hsl : ∀ s ∈ opSlots ops.toList o, (stD ops.toList outs t.length (fun j => listed.getD j false) (slotOf t, hget h) ops.size).1 s = (stD ops.toList outs t.length (fun _ => true) (slotOf t, hget h) i).1 s := by
        intro s hs
        rw [← htext]
        refine stD_slot _ fun j hj hw => ?_
        obtain ⟨oj, hoj, hdj⟩ := wS_spec hw
        rcases Nat.lt_trichotomy j i with h1 | h1 | h1
        · have := hnear j h1 (hslots j i oj o h1 hoj hoL (conf_read hdj hs).1)
          rw [this]; simp [h1]
        · subst h1; rw [hDi]; simp
        · cases hDj : listed.getD j false with
          | true => exact (hfar j hj hDj (hslots i j o oj h1 hoL hoj (conf_read hdj hs).2)).elim
          | false => simp; omega
      have hbl : ∀ k ∈ opIds (stD ops.toList outs t.length (fun _ => true) (slotOf t, hget h) i).1 o.op, (stD ops.toList outs t.length (fun j => listed.getD j false) (slotOf t, hget h) ops.size).2 k = (stD ops.toList outs t.length (fun _ => true) (slotOf t, hget h) i).2 k := by
        intro k hk
        rw [← htext]
        refine stD_blk _ fun j hj hw => ?_
        obtain ⟨oj, hoj, hkj⟩ := wB_spec hw
        obtain ⟨o2, ho2⟩ : ∃ o2, ops.toList[j]? = some o2 := ⟨_, List.getElem?_eq_getElem (by omega)⟩
        obtain ⟨out2, ho3, _, hfj⟩ := hspec j o2 ho2
        rw [hoj] at ho3
        cases ho3
        rcases Nat.lt_trichotomy j i with h1 | h1 | h1
        · have := hnear j h1 (hidsp j i _ _ h1 hfj hfeet (idc_read hkj hk).1)
          rw [this]; simp [h1]
        · subst h1; rw [hDi]; simp
        · cases hDj : listed.getD j false with
          | true => exact (hfar j hj hDj (hidsp i j _ _ h1 hfeet hfj (idc_read hkj hk).2)).elim
          | false => simp; omega
      have hstep' : stepF tab orc sy ops.toList (n + i) (stD ops.toList outs t.length (fun j => listed.getD j false) (slotOf t, hget h) ops.size).1 (stD ops.toList outs t.length (fun j => listed.getD j false) (slotOf t, hget h) ops.size).2 o = some out := by
        rw [stepF_congr hO hsl hbl]
        rw [Nat.zero_add] at hstep
        exact hstep
      have hcnd := hc out (List.mem_of_getElem? hout)
      have hnid : ¬ (n + i < n ∨ ∃ j, j < ops.size ∧ listed.getD j false = true ∧ n + i = n + j) := by
        rintro (h1 | ⟨j, _, h2, h3⟩)
        · omega
        · have : j = i := by omega
          subst this
          rw [hDi] at h2; cases h2
      unfold wpOp
      rw [ho]
      simp only
      refine step_ends hT hO hR hnid hstep' hcnd ?_
      intro ρ' a' w' hR'
      have hget' : ∀ j, (listed.setIfInBounds i true).getD j false = if j = i then true else listed.getD j false := by
        intro j
        by_cases e : j = i
        · subst e; simp [hls, hlt]
        · rw [if_neg e]
          simp [Array.getElem?_setIfInBounds_ne (fun x => e x.symm)]
      refine ih (listed.setIfInBounds i true) ρ' a' w' (by simp [hls]) ?_ ?_ ?_
      · have := (cnt_set (D := fun j => listed.getD j false) (D' := fun j => (listed.setIfInBounds i true).getD j false) hDi (by rw [hget']; simp) (fun j hj => by rw [hget', if_neg hj]) ops.size).1 hlt
        omega
      · intro j o' hj ho' e he hb
        rw [hget'] at hj ⊢
        have hj' : listed.getD j false = true ∨ j = i := by
          by_cases e : j = i
          · exact Or.inr e
          · rw [if_neg e] at hj; exact Or.inl hj
        rcases hcl1 j o' hj' ho' e he hb with h1 | h1
        · by_cases e2 : e.on = i
          · rw [if_pos e2]
          · rw [if_neg e2]; exact h1
        · rw [if_pos h1]
      · refine (hR'.mono ?_).congr ?_ ?_
        · intro k hk
          rcases hk with (hk | ⟨j, q1, q2, q3⟩) | hk
          · exact Or.inl hk
          · refine Or.inr ⟨j, q1, ?_, q3⟩
            rw [hget']
            split
            · rfl
            · exact q2
          · exact Or.inr ⟨i, hlt, by rw [hget']; simp, hk⟩
        · intro s
          have hap : sApp t.length (stD ops.toList outs t.length (fun j => listed.getD j false) (slotOf t, hget h) ops.size).1 o.dst out.v s
              = (ap ops.toList outs t.length (stD ops.toList outs t.length (fun j => listed.getD j false) (slotOf t, hget h) ops.size) i).1 s := by
            simp only [ap, hoL, hout]
          rw [hap]
          cases hw : wS ops.toList outs t.length i s with
          | false =>
            rw [ap_slot_other hw]
            refine stD_slot _ fun j hj hwj => ?_
            rw [hget', if_neg]
            intro e; subst e; rw [hw] at hwj; cases hwj
          | true =>
            refine stD_slot_last hw (by rw [hget']; simp) _ hlt fun j hj hij hwj => ?_
            rw [hget', if_neg (by omega)]
            obtain ⟨oj, hoj, hdj⟩ := wS_spec hwj
            obtain ⟨oi, hoi, hdi⟩ := wS_spec hw
            cases hDj : listed.getD j false with
            | true => exact (hfar j hj hDj (hslots i j oi oj hij hoi hoj (conf_write hdi hdj))).elim
            | false => rfl
        · intro k
          have hap : eApp (stD ops.toList outs t.length (fun j => listed.getD j false) (slotOf t, hget h) ops.size).2 out.e k
              = (ap ops.toList outs t.length (stD ops.toList outs t.length (fun j => listed.getD j false) (slotOf t, hget h) ops.size) i).2 k := by
            simp only [ap, hoL, hout]
          rw [hap]
          cases hw : wB ops.toList outs i k with
          | false =>
            rw [ap_blk_other hw]
            refine stD_blk _ fun j hj hwj => ?_
            rw [hget', if_neg]
            intro e; subst e; rw [hw] at hwj; cases hwj
          | true =>
            refine stD_blk_last hw (by rw [hget']; simp) _ hlt fun j hj hij hwj => ?_
            rw [hget', if_neg (by omega)]
            obtain ⟨oj, hoj, hkj⟩ := wB_spec hwj
            obtain ⟨oi, hoi, hki⟩ := wB_spec hw
            obtain ⟨o2, ho2⟩ : ∃ o2, ops.toList[j]? = some o2 := ⟨_, List.getElem?_eq_getElem (by omega)⟩
            obtain ⟨out2, ho3, _, hfj⟩ := hspec j o2 ho2
            rw [hoj] at ho3
            cases ho3
            rw [hout] at hoi
            cases hoi
            cases hDj : listed.getD j false with
            | true => exact (hfar j hj hDj (hidsp i j _ _ hij hfeet hfj (idc_write hki hkj))).elim
            | false => rfl
end
end Go.Proofs.YthgefjgbkhkmgaaDoor.Ev
