/-
  Regions whose order is drawn: whatever order the edges allow comes to what the text's order comes to.
-/
import Derived.Test.YthgefjgbkhkmgaaDoorEvF
namespace Go.Proofs.YthgefjgbkhkmgaaDoor.Ev
open Go Go.RowKit

section
variable {P : Program} {tab : Tab} {orc : Orc} {sy : Sy}

theorem lookAll_congr {t t' : Slots} : ∀ (l : List Operand), (∀ x ∈ l, look t' x = look t x) → lookAll t' l = lookAll t l := by
  intro l
  induction l with
  | nil => intro _; rfl
  | cons x r ih =>
    intro h
    simp only [lookAll]
    rw [h x (by simp), ih fun y hy => h y (List.mem_cons_of_mem _ hy)]
theorem lookParts_congr {t t' : Slots} : ∀ (l : List (Nat × Operand)), (∀ p ∈ l, look t' p.2 = look t p.2) → lookParts t' l = lookParts t l := by
  intro l
  induction l with
  | nil => intro _; rfl
  | cons x r ih =>
    intro h
    obtain ⟨i, x⟩ := x
    simp only [lookParts]
    rw [h (i, x) (by simp), ih fun y hy => h y (List.mem_cons_of_mem _ hy)]

theorem idsIn_congr {g g' : Blks} : ∀ (l : List Nat), (∀ i ∈ l, g' i = g i) → idsIn g' l = idsIn g l := by
  intro l
  induction l with
  | nil => intro _; rfl
  | cons x r ih =>
    intro h
    simp only [idsIn]
    rw [h x (by simp), ih fun y hy => h y (List.mem_cons_of_mem _ hy)]

theorem convF_congr {g g' : Blks} {s d : Nat} {x : Value} (h : ∀ id ∈ idOf x, g' id = g id) : convF tab g' s d x = convF tab g s d x := by
  unfold convF
  cases tab d with
  | none => rfl
  | some yd =>
    simp only
    cases yd.und <;> try rfl
    simp only
    cases tab s with
    | none => rfl
    | some ys =>
      simp only
      cases ys.und <;> try rfl
      rename_i e
      simp only
      cases tab e with
      | none => rfl
      | some ye =>
        simp only
        split <;> try rfl
        split <;> try rfl
        rename_i id off len cp
        rw [h id (by simp [idOf])]

theorem appd_congr {g g' : Blks} {z : Ty} {xt : Nat} {x : Value} (hi : ∀ k ∈ idOf x, g' k = g k) : appd tab g' z xt x = appd tab g z xt x := by
  unfold appd
  split <;> try rfl
  split <;> try rfl
  rename_i b off n cap hy
  rw [hi b (by simp [idOf])]

theorem appF_congr {g g' : Blks} {id st xt : Nat} {s x : Value} (hi : ∀ k ∈ idsOf [s, x], g' k = g k) : appF tab g' id st xt s x = appF tab g id st xt s x := by
  unfold appF
  split <;> try rfl
  split <;> try rfl
  split <;> try rfl
  rw [appd_congr fun k hk => hi k (by simp [idsOf, hk])]
  split <;> try rfl
  split <;> try rfl
  rename_i b len cap
  rw [hi b (by simp [idsOf, idOf])]

theorem opF_congr (hO : OrcOk P orc) {t t' : Slots} {g g' : Blks} {op : Op} {id : Nat} (hl : ∀ x ∈ op.operands.toList, look t' x = look t x) (hi : ∀ k ∈ opIds t op, g' k = g k) :
    opF tab orc sy id t' g' op = opF tab orc sy id t g op := by
  cases op <;> try rfl
  case move x => simp only [opF]; rw [hl x (by simp [Op.operands])]
  case assign x => simp only [opF]; rw [hl x (by simp [Op.operands])]
  case pick c x y =>
    simp only [opF]
    rw [hl c (by simp [Op.operands]), hl x (by simp [Op.operands]), hl y (by simp [Op.operands])]
  case box e x => simp only [opF]; rw [hl x (by simp [Op.operands])]
  case build e ps =>
    simp only [opF]
    rw [lookParts_congr ps.toList fun p hp => hl p.2 (by simp only [Op.operands]; exact List.mem_map.2 ⟨p, hp, rfl⟩)]
  case buildSlice e n ps =>
    simp only [opF]
    rw [lookParts_congr ps.toList fun p hp => hl p.2 (by simp only [Op.operands]; exact List.mem_map.2 ⟨p, hp, rfl⟩)]
  case makeSlice e l c => simp only [opF]; rw [hl l (by simp [Op.operands]), hl c (by simp [Op.operands])]
  case load e x =>
    simp only [opF]
    rw [hl x (by simp [Op.operands])]
    simp only [opIds] at hi
    split <;> try rfl
    rename_i b off y hx hy
    rw [hi b (by rw [hx]; simp [idOf])]
  case store e x y =>
    simp only [opF]
    rw [hl x (by simp [Op.operands]), hl y (by simp [Op.operands])]
    simp only [opIds] at hi
    split <;> try rfl
    rename_i b off v ty hx hv hy
    rw [hi b (by rw [hx]; simp [idOf])]
  case binOp op ty x y ty' => simp only [opF]; rw [hl x (by simp [Op.operands]), hl y (by simp [Op.operands])]
  case unOp op ty x => simp only [opF]; rw [hl x (by simp [Op.operands])]
  case convert s d x =>
    simp only [opF]
    rw [hl x (by simp [Op.operands])]
    simp only [opIds] at hi
    split <;> try rfl
    rename_i u hu
    rw [hu] at hi
    rw [convF_congr hi]
  case slice ty x lo hi' mx =>
    simp only [opF]
    rw [hl x (by simp [Op.operands])]
    have h2 : ∀ y ∈ lo.toList ++ hi'.toList ++ mx.toList, look t' y = look t y := by
      intro y hy
      refine hl y ?_
      simp only [List.mem_append, Option.mem_toList] at hy
      simp only [Op.operands, Array.toList_append, List.mem_append, Option.toList_toArray, Option.mem_toList]
      rcases hy with (hy | hy) | hy
      · exact Or.inl (Or.inl (Or.inr hy))
      · exact Or.inl (Or.inr hy)
      · exact Or.inr hy
    rw [lookAll_congr _ h2]
    have h3 : ∀ z : Option Operand, (∀ q, z = some q → q ∈ lo.toList ++ hi'.toList ++ mx.toList) → z.bind (look t') = z.bind (look t) := by
      intro z hz
      cases z with
      | none => rfl
      | some q => exact h2 q (hz q rfl)
    rw [h3 lo (by intro q hq; simp [hq]), h3 hi' (by intro q hq; simp [hq]), h3 mx (by intro q hq; simp [hq])]
  case fieldAddr ty x f => simp only [opF]; rw [hl x (by simp [Op.operands])]
  case indexAddr ty x i => simp only [opF]; rw [hl x (by simp [Op.operands]), hl i (by simp [Op.operands])]
  case index ty x i => simp only [opF]; rw [hl x (by simp [Op.operands]), hl i (by simp [Op.operands])]
  case extract x i => simp only [opF]; rw [hl x (by simp [Op.operands])]
  case call c =>
    simp only [opF]
    simp only [Op.operands, Call.operands] at hl
    have h2 : lookAll t' c.args.toList = lookAll t c.args.toList := lookAll_congr _ fun y hy => hl y (by
      simp only [Array.toList_append, List.mem_append]; exact Or.inr hy)
    rw [h2]
    cases hc : c.callee with
    | value f =>
      rw [hc] at hl
      simp only
      rw [hl f (by simp)]
      simp only [opIds] at hi
      split <;> try rfl
      rename_i k first captured vs hk hvs
      rw [hvs] at hi
      split <;> try rfl
      rw [idsIn_congr _ hi, hO.loc k vs g g' hi]
    | invoke r m => rfl
    | builtin b =>
      cases b <;> try rfl
      simp only
      simp only [opIds] at hi
      split <;> try rfl
      rename_i ty xt v x hty hvs
      rw [hvs] at hi
      rw [appF_congr hi]

theorem look_slot {t t' : Slots} {x : Operand} (h : ∀ s, x = .tmp s → t' s = t s) : look t' x = look t x := by
  cases x with
  | tmp s => exact h s rfl
  | _ => rfl

theorem stepF_congr (hO : OrcOk P orc) {t t' : Slots} {g g' : Blks} {L : List Oper} {o : Oper} {id : Nat} (hl : ∀ s ∈ opSlots L o, t' s = t s) (hi : ∀ k ∈ opIds t o.op, g' k = g k) :
    stepF tab orc sy L id t' g' o = stepF tab orc sy L id t g o := by
  have hop : opF tab orc sy id t' g' o.op = opF tab orc sy id t g o.op := by
    refine opF_congr hO (fun x hx => look_slot fun s hs => hl s ?_) hi
    subst hs
    unfold opSlots
    refine List.mem_append.2 (Or.inl (List.mem_filterMap.2 ⟨.tmp s, hx, rfl⟩))
  have key : stepG tab orc sy L id t' g' o = stepG tab orc sy L id t g o := by
    unfold stepG
    cases hg : o.guard with
    | none => exact hop
    | some p =>
      obtain ⟨j, want⟩ := p
      simp only
      cases hd : dstOf L j with
      | none => rfl
      | some d =>
        simp only
        rw [hl d (by unfold opSlots; rw [hg]; simp [hd])]
        split <;> try rfl
        split <;> try rfl
        rw [hop]
  unfold stepF
  rw [key]

/-! ### What is ordered ahead of each operation -/
def edgeBits (acc : List Nat) (o : Oper) : Nat := o.after.toList.foldl (fun s e => if Region.binds .any e then s ||| 2 ^ e.on ||| acc.getD e.on 0 else s) 0

theorem closA_eq (l : List Oper) : ∀ acc, closA l acc = match l with | [] => acc | o :: r => closA r (acc ++ [edgeBits acc o]) := by
  cases l <;> intro acc <;> rfl

theorem closA_prefix : ∀ (l : List Oper) (acc : List Nat) (j : Nat), j < acc.length → (closA l acc)[j]? = acc[j]? := by
  intro l
  induction l with
  | nil => intro acc j _; rfl
  | cons o r ih =>
    intro acc j hj
    rw [closA_eq]
    simp only
    rw [ih _ _ (by simp; omega), List.getElem?_append_left hj]

theorem closA_length : ∀ (l : List Oper) (acc : List Nat), (closA l acc).length = acc.length + l.length := by
  intro l
  induction l with
  | nil => intro acc; rfl
  | cons o r ih =>
    intro acc
    rw [closA_eq]
    simp only
    rw [ih]
    simp; omega

theorem closA_spec : ∀ (l : List Oper) (acc : List Nat) (j : Nat) (o : Oper), l[j]? = some o →
    (closA l acc)[acc.length + j]? = some (edgeBits ((closA l acc).take (acc.length + j)) o) := by
  intro l
  induction l with
  | nil => intro acc j o h; simp at h
  | cons x r ih =>
    intro acc j o h
    rw [closA_eq]
    simp only
    cases j with
    | zero =>
      simp only [List.getElem?_cons_zero, Option.some.injEq] at h
      subst h
      have hp : ∀ i, i < acc.length + 1 → (closA r (acc ++ [edgeBits acc x]))[i]? = (acc ++ [edgeBits acc x])[i]? := fun i hi => closA_prefix r _ i (by simp; omega)
      have ht : (closA r (acc ++ [edgeBits acc x])).take acc.length = acc := by
        apply List.ext_getElem?
        intro i
        rw [List.getElem?_take]
        by_cases hi : i < acc.length
        · rw [if_pos hi, hp i (by omega), List.getElem?_append_left hi]
        · rw [if_neg hi, List.getElem?_eq_none (by omega)]
      rw [Nat.add_zero, ht, hp _ (by omega)]
      simp
    | succ j =>
      have := ih (acc ++ [edgeBits acc x]) j o (by simpa using h)
      have e : (acc ++ [edgeBits acc x]).length + j = acc.length + (j + 1) := by simp; omega
      rw [e] at this
      exact this

theorem edgeBits_spec {acc : List Nat} {o : Oper} {i : Nat} (h : (edgeBits acc o).testBit i = true) : ∃ e ∈ o.after.toList, Region.binds .any e = true ∧ (e.on = i ∨ ((acc.getD e.on 0).testBit i = true)) := by
  unfold edgeBits at h
  have gen : ∀ (l : List Edge) (s : Nat), (l.foldl (fun s e => if Region.binds .any e then s ||| 2 ^ e.on ||| acc.getD e.on 0 else s) s).testBit i = true →
      s.testBit i = true ∨ ∃ e ∈ l, Region.binds .any e = true ∧ (e.on = i ∨ ((acc.getD e.on 0).testBit i = true)) := by
    intro l
    induction l with
    | nil => intro s h; exact Or.inl h
    | cons e r ih =>
      intro s h
      rw [List.foldl_cons] at h
      rcases ih _ h with h1 | ⟨e', he', h2⟩
      · split at h1
        · rename_i hb
          simp only [Nat.testBit_or, Nat.testBit_two_pow, Bool.or_eq_true, decide_eq_true_eq] at h1
          rcases h1 with (h1 | h1) | h1
          · exact Or.inl h1
          · exact Or.inr ⟨e, by simp, hb, Or.inl h1⟩
          · exact Or.inr ⟨e, by simp, hb, Or.inr h1⟩
        · exact Or.inl h1
      · exact Or.inr ⟨e', List.mem_cons_of_mem _ he', h2⟩
  rcases gen _ 0 h with h1 | h1
  · simp at h1
  · exact h1

/-- what is closed under the edges is closed under what they come to -/
theorem clos_closed {L : List Oper} {D : Nat → Prop} (hD : ∀ j o, D j → L[j]? = some o → ∀ e ∈ o.after.toList, Region.binds .any e = true → D e.on) :
    ∀ j i, j < L.length → D j → ((clos L).getD j 0).testBit i = true → D i := by
  intro j
  induction j using Nat.strongRecOn with
  | ind j ih =>
    intro i hj hDj hb
    have ho : L[j]? = some L[j] := by simp [hj]
    have hs := closA_spec L [] j L[j] ho
    simp only [List.length_nil, Nat.zero_add] at hs
    have hs' : (clos L).getD j 0 = edgeBits ((clos L).take j) L[j] := by
      unfold clos
      rw [List.getD_eq_getElem?_getD, hs]; rfl
    rw [hs'] at hb
    obtain ⟨e, he, hbe, h1 | h1⟩ := edgeBits_spec hb
    · rw [← h1]; exact hD j _ hDj ho e he hbe
    · have hlt : e.on < j := by
        rcases Nat.lt_or_ge e.on j with hl | hl
        · exact hl
        · have hn : ((clos L).take j).getD e.on 0 = 0 := by
            rw [List.getD_eq_getElem?_getD, List.getElem?_eq_none (by simp; omega)]; rfl
          rw [hn] at h1; simp at h1
      have h2 : ((clos L).take j).getD e.on 0 = (clos L).getD e.on 0 := by
        rw [List.getD_eq_getElem?_getD, List.getD_eq_getElem?_getD, List.getElem?_take, if_pos hlt]
      rw [h2] at h1
      exact ih e.on hlt i (by omega) (hD j _ hDj ho e he hbe) h1

/-! ### The checks -/
theorem okSlots1_spec {L : List Oper} {x : Oper} {i : Nat} : ∀ (r : List Oper) (cs : List Nat), r.length = cs.length → okSlots1 L x i r cs = true →
    ∀ j y, r[j]? = some y → slotConf L x y = true → (cs.getD j 0).testBit i = true := by
  intro r
  induction r with
  | nil => intro cs _ _ j y h; simp at h
  | cons z r ih =>
    intro cs hl h j y hj hc
    cases cs with
    | nil => cases hl
    | cons c cs =>
      simp only [okSlots1, Bool.and_eq_true, Bool.or_eq_true, Bool.not_eq_true'] at h
      cases j with
      | zero =>
        simp only [List.getElem?_cons_zero, Option.some.injEq] at hj
        subst hj
        rcases h.1 with h1 | h1
        · rw [h1] at hc; cases hc
        · simpa using h1
      | succ j => simpa using ih cs (by simpa using hl) h.2 j y (by simpa using hj) hc

theorem okSlots_spec {L : List Oper} : ∀ (r : List Oper) (cs : List Nat) (k : Nat), r.length = cs.length → okSlots L k r cs = true →
    ∀ i j x y, i < j → r[i]? = some x → r[j]? = some y → slotConf L x y = true → (cs.getD j 0).testBit (k + i) = true := by
  intro r
  induction r with
  | nil => intro cs k _ _ i j x y _ h; simp at h
  | cons z r ih =>
    intro cs k hl h i j x y hij hi hj hc
    cases cs with
    | nil => cases hl
    | cons c cs =>
      simp only [okSlots, Bool.and_eq_true] at h
      obtain ⟨j, rfl⟩ : ∃ m, j = m + 1 := ⟨j - 1, by omega⟩
      cases i with
      | zero =>
        simp only [List.getElem?_cons_zero, Option.some.injEq] at hi
        subst hi
        simpa using okSlots1_spec r cs (by simpa using hl) h.1 j y (by simpa using hj) hc
      | succ i =>
        have := ih cs (k + 1) (by simpa using hl) h.2 i j x y (by omega) (by simpa using hi) (by simpa using hj) hc
        simpa [Nat.add_assoc, Nat.add_comm 1 i] using this

theorem okIds1_spec {x : List Nat × List Nat} {i : Nat} : ∀ (r : List (List Nat × List Nat)) (cs : List Nat), r.length = cs.length → okIds1 x i r cs = true →
    ∀ j y, r[j]? = some y → idConf x y = true → (cs.getD j 0).testBit i = true := by
  intro r
  induction r with
  | nil => intro cs _ _ j y h; simp at h
  | cons z r ih =>
    intro cs hl h j y hj hc
    cases cs with
    | nil => cases hl
    | cons c cs =>
      simp only [okIds1, Bool.and_eq_true, Bool.or_eq_true, Bool.not_eq_true'] at h
      cases j with
      | zero =>
        simp only [List.getElem?_cons_zero, Option.some.injEq] at hj
        subst hj
        rcases h.1 with h1 | h1
        · rw [h1] at hc; cases hc
        · simpa using h1
      | succ j => simpa using ih cs (by simpa using hl) h.2 j y (by simpa using hj) hc

theorem meet_nil (l : List Nat) : meet l [] = false := by
  induction l with
  | nil => rfl
  | cons x r ih => simp [meet, ih]

theorem okIds_spec : ∀ (r : List (List Nat × List Nat)) (cs : List Nat) (k : Nat), r.length = cs.length → okIds k r cs = true →
    ∀ i j x y, i < j → r[i]? = some x → r[j]? = some y → idConf x y = true → (cs.getD j 0).testBit (k + i) = true := by
  intro r
  induction r with
  | nil => intro cs k _ _ i j x y _ h; simp at h
  | cons z r ih =>
    intro cs k hl h i j x y hij hi hj hc
    cases cs with
    | nil => cases hl
    | cons c cs =>
      simp only [okIds, Bool.and_eq_true] at h
      obtain ⟨j, rfl⟩ : ∃ m, j = m + 1 := ⟨j - 1, by omega⟩
      cases i with
      | zero =>
        simp only [List.getElem?_cons_zero, Option.some.injEq] at hi
        subst hi
        have h1 := h.1
        split at h1
        · simp [idConf, meet, meet_nil] at hc
        · simpa using okIds1_spec r cs (by simpa using hl) h1 j y (by simpa using hj) hc
      | succ i =>
        have := ih cs (k + 1) (by simpa using hl) h.2 i j x y (by omega) (by simpa using hi) (by simpa using hj) hc
        simpa [Nat.add_assoc, Nat.add_comm 1 i] using this

theorem backward_spec : ∀ (r : List Oper) (k : Nat), backward k r = true → ∀ j o, r[j]? = some o → ∀ e ∈ o.after.toList, Region.binds .any e = true → e.on < k + j := by
  intro r
  induction r with
  | nil => intro k _ j o h; simp at h
  | cons z r ih =>
    intro k h j o hj e he hb
    simp only [backward, Bool.and_eq_true, List.all_eq_true] at h
    cases j with
    | zero =>
      simp only [List.getElem?_cons_zero, Option.some.injEq] at hj
      subst hj
      have := h.1 e he
      simpa [hb] using this
    | succ j =>
      have := ih (k + 1) h.2 j o (by simpa using hj) e he hb
      omega
end
end Go.Proofs.YthgefjgbkhkmgaaDoor.Ev
