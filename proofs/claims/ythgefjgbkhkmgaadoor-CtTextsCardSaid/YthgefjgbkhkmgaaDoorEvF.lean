/-
  Regions: one operation behind the other.
-/
import Derived.Test.YthgefjgbkhkmgaaDoorEvE
namespace Go.Proofs.YthgefjgbkhkmgaaDoor.Ev
open Go Go.RowKit

theorem slotOf_put (t : List (Option Value)) : ∀ (d : Nat) (v : Value) (i : Nat), slotOf (slotPut t d v) i = if i = d ∧ d < t.length then some v else slotOf t i := by
  induction t with
  | nil => intro d v i; simp [slotPut, slotOf]
  | cons x r ih =>
    intro d v i
    cases d with
    | zero => cases i with
      | zero => simp [slotPut, slotOf]
      | succ i => simp [slotPut, slotOf]
    | succ d => cases i with
      | zero => simp [slotPut, slotOf]
      | succ i =>
        simp only [slotPut, slotOf, ih, List.length_cons]
        by_cases h : i = d ∧ d < r.length
        · rw [if_pos h, if_pos (by omega)]
        · rw [if_neg h, if_neg (by omega)]
theorem slotPut_length (t : List (Option Value)) : ∀ (d : Nat) (v : Value), (slotPut t d v).length = t.length := by
  induction t with
  | nil => intro d v; rfl
  | cons x r ih => intro d v; cases d <;> simp [slotPut, ih]
theorem tApp_slot (t : List (Option Value)) (d : Option Nat) (v : Value) : slotOf (tApp t d v) = sApp t.length (slotOf t) d v := by
  cases d with
  | none => rfl
  | some d => funext i; simp only [tApp, sApp, slotOf_put]
theorem tApp_length (t : List (Option Value)) (d : Option Nat) (v : Value) : (tApp t d v).length = t.length := by
  cases d with
  | none => rfl
  | some d => exact slotPut_length t d v

theorem hget_del (h : Heap) (i k : Nat) : hget (hdel h i) k = if k = i then none else hget h k := by
  induction h with
  | nil => simp [hdel, hget]
  | cons p r ih =>
    obtain ⟨j, b⟩ := p
    simp only [hdel]
    cases hji : Nat.beq j i with
    | true =>
      have : j = i := Nat.eq_of_beq_eq_true hji
      subst this
      simp only [ih, hget]
      by_cases hk : k = j
      · simp [hk]
      · have : Nat.beq j k = false := by
          cases hb : Nat.beq j k with
          | false => rfl
          | true => exact absurd (Nat.eq_of_beq_eq_true hb).symm hk
        simp [hk, this]
    | false =>
      simp only [hget]
      cases hjk : Nat.beq j k with
      | true =>
        have : j = k := Nat.eq_of_beq_eq_true hjk
        subst this
        have : j ≠ i := by intro e; subst e; rw [Nat.beq_refl] at hji; cases hji
        simp [this]
      | false => exact ih
theorem hget_put (h : Heap) (i k : Nat) (b : Blk) : hget (hput h i b) k = if k = i then some b else hget h k := by
  simp only [hput, hget]
  cases hik : Nat.beq i k with
  | true =>
    have : i = k := Nat.eq_of_beq_eq_true hik
    simp [this]
  | false =>
    have : k ≠ i := by intro e; subst e; rw [Nat.beq_refl] at hik; cases hik
    simp only [hget_del, if_neg this]
theorem hApp_get : ∀ (e : List (Nat × Option Blk)) (h : Heap), hget (hApp h e) = eApp (hget h) e := by
  intro e
  induction e with
  | nil => intro h; rfl
  | cons p r ih =>
    intro h
    obtain ⟨i, b⟩ := p
    cases b with
    | some b =>
      simp only [hApp, eApp, ih]
      congr 1
      funext k
      exact hget_put h i k b
    | none =>
      simp only [hApp, eApp, ih]
      congr 1
      funext k
      exact hget_del h i k

section
variable {P : Program} {tab : Tab} {orc : Orc} {sy : Sy} {w0 : World} {A : Nat → Prop} {ρ : Nat → Nat × Nat × Nat} {N : Nat} {t : Slots} {g : Blks} {a : Act} {w : World} {id : Nat} {out : Out} {o : Oper} {ops : Array Oper}

theorem dstOf_spec {j d : Nat} (h : dstOf ops.toList j = some d) : (ops[j]?).bind (·.dst) = some d := by
  unfold dstOf at h
  rw [nth_eq] at h
  split at h
  · rename_i o ho
    have : ops[j]? = some o := by simpa using ho
    rw [this]; exact h
  · cases h

theorem yielded_bool (hR : Rel w0 A ρ N t g a w) {j d : Nat} (hd : dstOf ops.toList j = some d) {b : Bool} (ht : t d = some (.bool b)) : yielded ops a.tmps j = some b := by
  have h1 := (hR.tm d _ ht).1
  unfold yielded
  rw [dstOf_spec hd]
  simp only [Option.bind_some]
  have : a.tmps[d]? = some (.bool b) := by
    simp only [ren] at h1
    rw [Array.getD_eq_getD_getElem?] at h1
    cases hq : a.tmps[d]? with
    | none => rw [hq] at h1; simp [undef] at h1
    | some v => rw [hq] at h1; simpa using h1
  rw [this]
theorem yielded_tuple (hR : Rel w0 A ρ N t g a w) {j d : Nat} (hd : dstOf ops.toList j = some d) {vs : Array Value} (ht : t d = some (.tuple vs)) : yielded ops a.tmps j = none := by
  have h1 := (hR.tm d _ ht).1
  unfold yielded
  rw [dstOf_spec hd]
  simp only [Option.bind_some]
  simp only [ren] at h1
  rw [Array.getD_eq_getD_getElem?] at h1
  cases hq : a.tmps[d]? with
  | none => rfl
  | some v => rw [hq] at h1; simp at h1; subst h1; rfl

theorem syBool_spec {s : Nat} {q b : Bool} (h1 : (syBool sy s q).1 = true) (h2 : (syBool sy s q).2 = b) : q = b := by
  unfold syBool at *
  split at h1
  · rename_i e he
    rw [he] at h2
    simp only [beq_iff_eq] at h1
    rw [h1]; exact h2
  · rename_i he
    rw [he] at h2
    exact h2

theorem assume_eq {d : Option Nat} {out : Out} (h : (assume sy d out).c = true) : assume sy d out = out := by
  unfold assume at h ⊢
  split at h
  · rfl
  · split at h
    · rename_i b hb
      split at h
      · rename_i e he
        simp only [Bool.and_eq_true, beq_iff_eq] at h
        obtain ⟨h1, h2⟩ := h
        subst h2
        cases out with
        | mk c v es =>
          simp only at hb h1
          subst hb; subst h1
          simp
      · rfl
    · rename_i k x hx
      split at h
      · rename_i e he
        simp only [Bool.and_eq_true, beq_iff_eq] at h
        obtain ⟨h1, h2⟩ := h
        subst h2
        cases out with
        | mk c v es =>
          simp only at hx h1
          subst hx; subst h1
          simp
      · rfl
    · rfl

theorem stepF_spec {L : List Oper} {out : Out} (ho : stepF tab orc sy L id t g o = some out) (hc : out.c = true) : stepG tab orc sy L id t g o = some out := by
  unfold stepF at ho
  split at ho
  · cases ho
  · rename_i out' h
    cases ho
    rw [assume_eq hc, h]

/-- one operation under its guard -/
theorem step_ends (hT : TabOk P tab) (hO : OrcOk P orc) (hR : Rel w0 A ρ N t g a w) (hid : ¬ A id) (ho : stepF tab orc sy ops.toList id t g o = some out) (hc : out.c = true)
    {K : Act → World → Prop} {Q : Exit → Act → World → Prop} (hK : ∀ ρ' a' w', Rel w0 (fun k => A k ∨ k = id) ρ' N (sApp N t o.dst out.v) (eApp g out.e) a' w' → K a' w') :
    if Region.wanted o (yielded ops a.tmps) then o.wp P a w K Q ∨ (o.asks P a w ∧ LetsOut Q) else K (a.put o.dst undef) w := by
  have skip : out.v = undef → out.e = [] → K (a.put o.dst undef) w := by
    intro h1 h2
    have := hR.put (d := o.dst) (v := undef) vok_undef (by simp [idOf, undef])
    rw [ren_plain cok_undef] at this
    refine hK ρ _ w ?_
    rw [h1, h2]
    exact this.mono fun _ h => Or.inl h
  have ho := stepF_spec ho hc
  unfold stepG at ho
  cases hg : o.guard with
  | none =>
    rw [hg] at ho
    simp only [Region.wanted, hg, if_true]
    exact Or.inl (op_ends hT hO hR hid ho hc K Q hK)
  | some p =>
    obtain ⟨j, want⟩ := p
    rw [hg] at ho
    simp only at ho
    split at ho
    · cases ho
    · rename_i d hd
      split at ho
      · rename_i b hb
        have hy := yielded_bool hR hd hb
        split at ho
        · rename_i hw
          split at ho
          · cases ho
          · rename_i r hr
            cases ho
            simp only [Bool.and_eq_true] at hc
            have hbw := syBool_spec (sy := sy) hc.1 rfl
            have : Region.wanted o (yielded ops a.tmps) = true := by
              simp only [Region.wanted, hg, hy, beq_iff_eq, Option.some.injEq]
              rw [hbw]; simpa using hw
            rw [if_pos this]
            exact Or.inl (op_ends hT hO hR hid hr hc.2 K Q hK)
        · rename_i hw
          cases ho
          have hbw := syBool_spec (sy := sy) hc rfl
          have : Region.wanted o (yielded ops a.tmps) = false := by
            simp only [Region.wanted, hg, hy, beq_eq_false_iff_ne, ne_eq, Option.some.injEq]
            rw [hbw]; simpa using hw
          rw [this]
          simp only [Bool.false_eq_true, if_false]
          exact skip rfl rfl
      · rename_i vs hvs
        cases ho
        have hy := yielded_tuple hR hd hvs
        have : Region.wanted o (yielded ops a.tmps) = false := by
          simp [Region.wanted, hg, hy]
        rw [this]
        simp only [Bool.false_eq_true, if_false]
        exact skip rfl rfl
      · cases ho

theorem seq_sound (hT : TabOk P tab) (hO : OrcOk P orc) {n : Nat} {Q : Exit → Act → World → Prop} : ∀ (r : List Oper) (i : Nat) (t : List (Option Value)) (h : Heap) (outs : List Out) (t' : List (Option Value)) (h' : Heap) (ρ : Nat → Nat × Nat × Nat) (a : Act) (w : World),
    runF tab orc sy ops.toList n i r t h = some (outs, t', h') → (∀ out ∈ outs, out.c = true) → Rel w0 (fun k => k < n + i) ρ t.length (slotOf t) (hget h) a w →
    (∀ ρ' a' w', Rel w0 (fun k => k < n + (i + r.length)) ρ' t'.length (slotOf t') (hget h') a' w' → Q .normal a' w') → wpList P ops Q r a w := by
  intro r
  induction r with
  | nil =>
    intro i t h outs t' h' ρ a w hr _ hR hQ
    cases hr
    exact hQ ρ a w hR
  | cons o r ih =>
    intro i t h outs t' h' ρ a w hr hc hR hQ
    simp only [runF] at hr
    split at hr
    · cases hr
    · rename_i out ho
      split at hr
      · cases hr
      · rename_i outs' t2 h2 hrest
        cases hr
        rw [wpList]
        refine step_ends hT hO hR (by omega) ho (hc out (by simp)) ?_
        intro ρ' a' w' hR'
        refine ih (i + 1) _ _ _ _ _ ρ' a' w' hrest (fun x hx => hc x (List.mem_cons_of_mem _ hx)) ?_ ?_
        · rw [tApp_slot, hApp_get, tApp_length]
          exact hR'.mono fun k hk => by omega
        · intro ρ2 a2 w2 hR2
          refine hQ ρ2 a2 w2 ?_
          have e : i + 1 + r.length = i + (o :: r).length := by simp; omega
          rw [← e]; exact hR2

theorem runF_length {n : Nat} : ∀ (r : List Oper) (i : Nat) (t : List (Option Value)) (h : Heap) (outs : List Out) (t' : List (Option Value)) (h' : Heap),
    runF tab orc sy ops.toList n i r t h = some (outs, t', h') → outs.length = r.length ∧ t'.length = t.length := by
  intro r
  induction r with
  | nil => intro i t h outs t' h' hr; cases hr; exact ⟨rfl, rfl⟩
  | cons o r ih =>
    intro i t h outs t' h' hr
    simp only [runF] at hr
    split at hr
    · cases hr
    · rename_i out ho
      split at hr
      · cases hr
      · rename_i outs' t2 h2 hrest
        cases hr
        obtain ⟨h1, h2⟩ := ih _ _ _ _ _ _ hrest
        exact ⟨by simp [h1], by rw [h2, tApp_length]⟩

theorem conds_spec {K : Prop} : ∀ (r : List Oper) (outs : List Out), outs.length = r.length → conds sy r outs K → (∀ out ∈ outs, out.c = true) ∧ K := by
  intro r
  induction r with
  | nil =>
    intro outs hl h
    cases outs with
    | nil => exact ⟨by simp, h⟩
    | cons x y => cases hl
  | cons o r ih =>
    intro outs hl h
    cases outs with
    | nil => cases hl
    | cons x y =>
      simp only [conds] at h
      split at h
      · obtain ⟨h1, h2⟩ := h
        obtain ⟨i1, i2⟩ := ih y (by simpa using hl) h2
        exact ⟨fun out ho => (List.mem_cons.1 ho).elim (fun e => e ▸ h1) (i1 out), i2⟩
      · split at h
        · rename_i hx
          obtain ⟨i1, i2⟩ := ih y (by simpa using hl) h
          exact ⟨fun out ho => (List.mem_cons.1 ho).elim (fun e => e ▸ hx) (i1 out), i2⟩
        · exact h.elim
end
end Go.Proofs.YthgefjgbkhkmgaaDoor.Ev
