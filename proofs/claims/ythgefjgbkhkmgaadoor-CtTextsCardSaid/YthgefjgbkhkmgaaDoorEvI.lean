/-
  Code, bodies, contracts: what the evaluator comes to is what the call comes to.
-/
import Derived.Test.YthgefjgbkhkmgaaDoorEvH
namespace Go.Proofs.YthgefjgbkhkmgaaDoor.Ev
open Go Go.RowKit

theorem forceN_eq {α : Sort _} (n : Nat) (K : Nat → α) : forceN n K = K n := by cases n <;> rfl
theorem forceV_eq (v : Value) (K : Value → Prop) : forceV v K = K v := by cases v <;> rfl
theorem forceL_eq : ∀ (l : List Value) (K : List Value → Prop), forceL l K = K l
  | [], _ => rfl
  | x :: r, K => by simp only [forceL, forceV_eq, forceL_eq r]
theorem forceT_eq : ∀ (l : List (Option Value)) (K : List (Option Value) → Prop), forceT l K = K l
  | [], _ => rfl
  | none :: r, K => by simp only [forceT, forceT_eq r]
  | some x :: r, K => by simp only [forceT, forceV_eq, forceT_eq r]
theorem forceH_eq : ∀ (l : Heap) (K : Heap → Prop), forceH l K = K l
  | [], _ => rfl
  | (i, ⟨cs, ty, own, ap⟩) :: r, K => by cases own <;> simp only [forceH, forceN_eq, forceL_eq, forceH_eq r]
theorem forceS_eq (s : AS) (K : AS → Prop) : forceS s K = K s := by
  simp only [forceS, forceT_eq, forceH_eq, forceN_eq]

/-- the relation at an abstract state -/
def Rl (w0 : World) (ρ : Nat → Nat × Nat × Nat) (s : AS) (a : Act) (w : World) : Prop := Rel w0 (fun k => k < s.n) ρ s.t.length (slotOf s.t) (hget s.h) a w

def Ex.ex : Ex → Exit
  | .normal => .normal
  | .exit id => .exit id
  | .ret => .ret

theorem leT_refl : ∀ t, leT t t
  | [] => trivial
  | none :: r => leT_refl r
  | some _ :: r => ⟨rfl, leT_refl r⟩
theorem leT_spec : ∀ {t t' : List (Option Value)}, leT t t' → t.length = t'.length ∧ ∀ i v, slotOf t i = some v → slotOf t' i = some v := by
  intro t
  induction t with
  | nil => intro t' h; cases t' with
    | nil => exact ⟨rfl, fun i v h => h⟩
    | cons x r => exact h.elim
  | cons y r ih =>
    intro t' h
    cases t' with
    | nil => cases y <;> exact h.elim
    | cons x r' =>
      cases y with
      | none =>
        obtain ⟨h1, h2⟩ := ih h
        refine ⟨by simp [h1], fun i v hv => ?_⟩
        cases i with
        | zero => cases hv
        | succ i => exact h2 i v hv
      | some u =>
        obtain ⟨rfl, h⟩ := h
        obtain ⟨h1, h2⟩ := ih h
        refine ⟨by simp [h1], fun i v hv => ?_⟩
        cases i with
        | zero => exact hv
        | succ i => exact h2 i v hv
theorem leH_spec : ∀ {h h' : Heap}, leH h h' → ∀ i b, hget h i = some b → hget h' i = some b := by
  intro h
  induction h with
  | nil => intro h' _ i b hb; cases hb
  | cons p r ih =>
    intro h' hl i b hb
    obtain ⟨k, c⟩ := p
    unfold hget at hb
    split at hb
    · rename_i hk
      cases hb
      rw [← Nat.eq_of_beq_eq_true hk]
      exact hl.1
    · exact ih hl.2 i b hb
theorem leH_refl_aux : ∀ {h h' : Heap}, (∀ i b, hget h i = some b → hget h' i = some b) → (∀ p ∈ h, hget h p.1 = some p.2) → ∀ r : Heap, (∀ p ∈ r, p ∈ h) → leH r h' := by
  intro h h' hh hd r
  induction r with
  | nil => intro _; trivial
  | cons p r ih =>
    intro hr
    obtain ⟨k, c⟩ := p
    exact ⟨hh k c (hd (k, c) (hr _ List.mem_cons_self)), ih fun q hq => hr q (List.mem_cons_of_mem _ hq)⟩
theorem lowT_spec {n : Nat} : ∀ {t : List (Option Value)}, lowT n t = true → ∀ i v, slotOf t i = some v → ∀ id ∈ idOf v, id < n := by
  intro t
  induction t with
  | nil => intro _ i v h; cases h
  | cons y r ih =>
    intro h i v hv
    cases y with
    | none => cases i with
      | zero => cases hv
      | succ i => exact ih h i v hv
    | some u =>
      simp only [lowT, Bool.and_eq_true] at h
      cases i with
      | zero =>
        cases hv
        intro id hid
        exact Nat.le_of_ble_eq_true (List.all_eq_true.1 h.1 id hid)
      | succ i => exact ih h.2 i v hv
theorem lowH_spec {n : Nat} : ∀ {h : Heap}, lowH n h = true → ∀ i b, hget h i = some b → i < n := by
  intro h
  induction h with
  | nil => intro _ i b h; cases h
  | cons p r ih =>
    intro hl i b hb
    obtain ⟨k, c⟩ := p
    simp only [lowH, Bool.and_eq_true] at hl
    unfold hget at hb
    split at hb
    · rename_i hk
      rw [← Nat.eq_of_beq_eq_true hk]
      exact Nat.le_of_ble_eq_true hl.1
    · exact ih hl.2 i b hb

theorem Rl.less {w0 : World} {ρ : Nat → Nat × Nat × Nat} {s s' : AS} {a : Act} {w : World} (h : Rl w0 ρ s' a w) (hl : leS s s') (hn : low s = true) : Rl w0 ρ s a w := by
  obtain ⟨h1, h2⟩ := leT_spec hl.1
  have h3 := leH_spec hl.2
  simp only [low, Bool.and_eq_true] at hn
  exact ⟨h.df, by rw [h1]; exact h.len, fun i v hv => ⟨(h.tm i v (h2 i v hv)).1, (h.tm i v (h2 i v hv)).2.1, lowT_spec hn.1 i v hv⟩, h.bl,
    fun i b hb => ⟨lowH_spec hn.2 i b hb, (h.hp i b (h3 i b hb)).2⟩, fun i j b c hb hc he => h.inj i j b c (h3 i b hb) (h3 j c hc) he⟩


/-- from this state the code comes to K -/
def Tri (P : Program) (c : Code) (s : AS) (K : Ex → AS → Prop) : Prop :=
  ∀ (w0 : World) (ρ : Nat → Nat × Nat × Nat) (a : Act) (w : World) (Q : Exit → Act → World → Prop), Rl w0 ρ s a w → (∀ e s' ρ' a' w', K e s' → Rl w0 ρ' s' a' w' → Q e.ex a' w') → c.wp P Q a w


/-- the loops' contracts -/
def LoOk (P : Program) (lo : Lo) : Prop := ∀ id L, loGet lo id = some L → low L.pre = true ∧ low L.post = true ∧ Tri P (.block id L.body) L.pre (fun e s' => e = L.ex ∧ leS L.post s')
theorem loOk_nil {P : Program} : LoOk P [] := fun _ _ h => by cases h

section
variable {P : Program} {tab : Tab} {orc : Orc} {sy : Sy} {br : List Nat} {lo : Lo} {w0 : World}

theorem Rel.world {A : Nat → Prop} {ρ : Nat → Nat × Nat × Nat} {N : Nat} {t : Slots} {g : Blks} {a : Act} {w w' : World} (h : Rel w0 A ρ N t g a w) (hw : w'.heap = w.heap) (h1 : w'.os = w.os) (h2 : w'.tape = w.tape) (h3 : w'.output = w.output) : Rel w0 A ρ N t g a w' :=
  h.later ⟨h1, h2, h3, by rw [hw]; exact Nat.le_refl _, fun k _ => by rw [hw]⟩

theorem region_sound (hT : TabOk P tab) (hO : OrcOk P orc) (hm : P.follows .mixedOrders = true) {id : Nat} {ops : Array Oper} {draw : Bool} {s : AS} {ρ : Nat → Nat × Nat × Nat} {a : Act} {w : World} {Q : Exit → Act → World → Prop} {outs : List Out} {t' : List (Option Value)} {h' : Heap}
    (hrun : runF tab orc sy ops.toList s.n 0 ops.toList s.t s.h = some (outs, t', h')) (hc : ∀ out ∈ outs, out.c = true)
    (hdraw : draw = true → okOrder ops.toList = true ∧ okIds 0 (feet tab orc sy ops.toList s.n 0 ops.toList s.t s.h) (clos ops.toList) = true)
    (hR : Rl w0 ρ s a w) (hQ : ∀ ρ' a' w', Rl w0 ρ' ⟨t', h', s.n + ops.toList.length⟩ a' w' → Q .normal a' w') : (Code.region id ops draw).wp P Q a w := by
  cases draw with
  | false =>
    refine wp_region_list ?_
    exact seq_sound hT hO ops.toList 0 s.t s.h outs t' h' ρ a w hrun hc hR (fun ρ' a' w' h => by
      rw [Nat.zero_add] at h
      exact hQ ρ' a' w' h)
  | true =>
    obtain ⟨h1, h2⟩ := hdraw rfl
    refine wp_region_any hm ?_
    have hst : ∀ m, stD ops.toList outs s.t.length (fun j => (Array.replicate ops.size false).getD j false) (slotOf s.t, hget s.h) m = (slotOf s.t, hget s.h) := by
      intro m
      induction m with
      | zero => rfl
      | succ m ih =>
        simp only [stD]
        rw [ih, if_neg]
        by_cases hl : m < ops.size <;> simp [hl]
    refine drawn_sound hT hO hrun hc h1 h2 (fun ρ' a' w' h => hQ ρ' a' w' h) ops.size (Array.replicate ops.size false) ρ a _ (by simp) ?_ ?_ ?_
    · have : ∀ m, cnt (fun j => (Array.replicate ops.size false).getD j false) m = m := by
        intro m
        induction m with
        | zero => rfl
        | succ m ih =>
          simp only [cnt]
          rw [ih, if_neg]
          by_cases hl : m < ops.size <;> simp [hl]
      exact this _
    · intro j o hj
      by_cases hl : j < ops.size <;> simp [hl] at hj
    · rw [hst]
      have hR' : Rel w0 (fun k => k < s.n) ρ s.t.length (slotOf s.t) (hget s.h) a { w with drawn := w.drawn + 1 } := Rel.world hR rfl rfl rfl rfl
      exact hR'.mono fun k hk => Or.inl hk

theorem evC_sound (hT : TabOk P tab) (hO : OrcOk P orc) (hm : P.follows .mixedOrders = true) (hL : LoOk P lo) : ∀ (k : Nat),
    (∀ (c : Code) (K : Ex → List Bool → AS → Prop) (Q : Exit → Act → World → Prop) (sc : List Bool) (s : AS) (ρ : Nat → Nat × Nat × Nat) (a : Act) (w : World),
      evC tab orc sy br lo k c K sc s → Rl w0 ρ s a w → (∀ e sc' s' ρ' a' w', K e sc' s' → Rl w0 ρ' s' a' w' → Q e.ex a' w') → c.wp P Q a w) ∧
    (∀ (b : Code) (K : Ex → List Bool → AS → Prop) (Q : Exit → Act → World → Prop) (sc : List Bool) (s : AS) (ρ : Nat → Nat × Nat × Nat) (a : Act) (w : World),
      evC tab orc sy br lo k (.loop b) K sc s → Rl w0 ρ s a w → (∀ e sc' s' ρ' a' w', K e sc' s' → Rl w0 ρ' s' a' w' → Q e.ex a' w') → Code.rounds P b Q k a w) := by
  intro k
  induction k with
  | zero => exact ⟨fun c K Q sc s ρ a w h => h.elim, fun b K Q sc s ρ a w h => h.elim⟩
  | succ k ih =>
    obtain ⟨ihA, ihB⟩ := ih
    have hB : ∀ (b : Code) (K : Ex → List Bool → AS → Prop) (Q : Exit → Act → World → Prop) (sc : List Bool) (s : AS) (ρ : Nat → Nat × Nat × Nat) (a : Act) (w : World),
        evC tab orc sy br lo (k + 1) (.loop b) K sc s → Rl w0 ρ s a w → (∀ e sc' s' ρ' a' w', K e sc' s' → Rl w0 ρ' s' a' w' → Q e.ex a' w') → Code.rounds P b Q (k + 1) a w := by
      intro b K Q sc s ρ a w h hR hQ
      rw [rounds_succ]
      refine ihA b _ _ sc s ρ a w h hR ?_
      intro e sc' s' ρ' a' w' hK hR'
      cases e with
      | normal => exact ihB b K Q sc' s' ρ' a' w' hK hR' hQ
      | exit id => exact hQ (.exit id) sc' s' ρ' a' w' hK hR'
      | ret => exact hQ .ret sc' s' ρ' a' w' hK hR'
    refine ⟨?_, hB⟩
    intro c K Q sc s ρ a w h hR hQ
    cases c with
    | skip => exact wp_skip (hQ .normal sc s ρ a w h hR)
    | ret => exact wp_ret (hQ .ret sc s ρ a w h hR)
    | exit id => exact wp_exit (hQ (.exit id) sc s ρ a w h hR)
    | seq x y =>
      refine wp_seq (ihA x _ _ sc s ρ a w h hR ?_)
      intro e sc' s' ρ' a' w' hK hR'
      cases e with
      | normal => exact ihA y K Q sc' s' ρ' a' w' hK hR' hQ
      | exit id => exact hQ (.exit id) sc' s' ρ' a' w' hK hR'
      | ret => exact hQ .ret sc' s' ρ' a' w' hK hR'
    | block id b =>
      simp only [evC] at h
      split at h
      · rename_i L hL'
        obtain ⟨rfl, h1, h2⟩ := h
        obtain ⟨l1, l2, l3⟩ := hL id L hL'
        refine l3 w0 ρ a w Q (hR.less h1 l1) ?_
        rintro e s' ρ' a' w' ⟨rfl, hs⟩ hR'
        exact hQ _ sc _ ρ' a' w' h2 (hR'.less hs l2)
      · refine wp_block (ihA b _ _ sc s ρ a w h hR ?_)
        intro e sc' s' ρ' a' w' hK hR'
        cases e with
        | normal => exact hQ .normal sc' s' ρ' a' w' hK hR'
        | exit j =>
          simp only at hK
          show if j = id then Q .normal a' w' else Q (.exit j) a' w'
          split at hK
          · rename_i hb
            rw [if_pos (Nat.eq_of_beq_eq_true hb)]
            exact hQ .normal sc' s' ρ' a' w' hK hR'
          · rename_i hb
            rw [if_neg (by intro e; subst e; rw [Nat.beq_refl] at hb; cases hb)]
            exact hQ (.exit j) sc' s' ρ' a' w' hK hR'
        | ret => exact hQ .ret sc' s' ρ' a' w' hK hR'
    | loop b => exact wp_loop_rounds (k + 1) (hB b K Q sc s ρ a w h hR hQ)
    | cond c x y =>
      cases c with
      | tmp t =>
        simp only [evC] at h
        split at h
        · rename_i q hq
          have hev : a.eval (.tmp t) = .bool q := by
            have := (hR.tm t _ hq).1
            simpa [Act.eval, ren] using this
          split at h
          · split at h
            · rename_i sc'
              obtain ⟨rfl, h⟩ := h
              exact wp_cond_true hev (ihA x K Q sc' s ρ a w h hR hQ)
            · rename_i sc'
              obtain ⟨rfl, h⟩ := h
              exact wp_cond_false hev (ihA y K Q sc' s ρ a w h hR hQ)
            · exact h.elim
          · split at h
            · exact wp_cond_true hev (ihA x K Q sc s ρ a w h hR hQ)
            · exact wp_cond_false hev (ihA y K Q sc s ρ a w h hR hQ)
        · exact h.elim
      | const v =>
        cases v with
        | bool q =>
          cases q with
          | true => exact wp_cond_true rfl (ihA x K Q sc s ρ a w h hR hQ)
          | false => exact wp_cond_false rfl (ihA y K Q sc s ρ a w h hR hQ)
        | _ => exact h.elim
      | _ => exact h.elim
    | region id ops draw =>
      cases draw with
      | false =>
        simp only [evC, forceS_eq] at h
        split at h
        · exact h.elim
        · rename_i outs t' h' hrun
          obtain ⟨hl, _⟩ := runF_length (ops := ops) _ _ _ _ _ _ _ hrun
          obtain ⟨hc, hK⟩ := conds_spec _ _ hl h
          exact region_sound hT hO hm hrun hc (fun e => by cases e) hR fun ρ' a' w' hR' => hQ .normal sc _ ρ' a' w' hK hR'
      | true =>
        simp only [evC, forceS_eq] at h
        split at h
        · exact h.elim
        · rename_i hok
          split at h
          · exact h.elim
          · rename_i hids
            split at h
            · exact h.elim
            · rename_i outs t' h' hrun
              obtain ⟨hl, _⟩ := runF_length (ops := ops) _ _ _ _ _ _ _ hrun
              obtain ⟨hc, hK⟩ := conds_spec _ _ hl h
              exact region_sound hT hO hm hrun hc (fun _ => ⟨hok, hids⟩) hR fun ρ' a' w' hR' => hQ .normal sc _ ρ' a' w' hK hR'
    | _ => exact h.elim

/-! ## Results and contracts -/
/-- a result variable, read -/
def rvF (tmps : Array Value) : ResultVar → Sem Value
  | .tmp t => pure (tmps.getD t undef)
  | .cell x t => do loadVar t (← asAddr (tmps.getD x undef))

theorem resF_sound (hT : TabOk P tab) {s : AS} {ρ : Nat → Nat × Nat × Nat} {a : Act} {w : World} (hR : Rl w0 ρ s a w) : ∀ (l : List ResultVar) (vs : List Value), resF tab s l = some vs →
    (l.mapM (rvF a.tmps)).run P w = .ok vs w ∧ ∀ v ∈ vs, adr v = false ∧ tok v := by
  intro l
  induction l with
  | nil => intro vs h; cases h; exact ⟨by simp, by simp⟩
  | cons r l ih =>
    intro vs h
    cases r with
    | tmp t =>
      simp only [resF] at h
      split at h
      · cases h
      · rename_i v hv
        split at h
        · rename_i vs' hb hl
          cases h
          simp only [Bool.or_eq_false_iff] at hb
          obtain ⟨h1, h2, h3⟩ := hR.tm t v hv
          rw [ren_plain hb.1] at h1
          obtain ⟨i1, i2⟩ := ih vs' hl
          refine ⟨?_, ?_⟩
          · rw [List.mapM_cons]
            simp only [rvF, Sem.run_bind, Sem.run_pure, Result.andThen_ok, h1]
            simp only [i1, Result.andThen_ok]
          · intro u hu
            rcases List.mem_cons.1 hu with e | e
            · subst e
              refine ⟨hb.1, ?_⟩
              cases u <;> first | exact h2 | exact ⟨rfl, hb.1⟩ | (have := hb.2; cases this)
            · exact i2 u e
        · cases h
    | cell x t =>
      simp only [resF] at h
      split at h
      · rename_i b off y hx hy
        split at h
        · cases h
        · rename_i k hk
          split at h
          · rename_i vs' hb hl
            cases h
            obtain ⟨h1, h2, h3⟩ := hR.tm x _ hx
            obtain ⟨i1, i2⟩ := ih vs' hl
            obtain ⟨l1, l2⟩ := load_run (P := P) (hR.hp b k hk).2 (hT _ _ hy) hb
            refine ⟨?_, ?_⟩
            · rw [List.mapM_cons]
              simp only [rvF, Sem.run_bind, Sem.run_pure, Result.andThen_ok, h1, ren, asAddr, l1]
              simp only [i1, Result.andThen_ok]
            · intro u hu
              rcases List.mem_cons.1 hu with e | e
              · subst e; exact ⟨l2.adr, l2⟩
              · exact i2 u e
          · cases h
      · cases h

theorem resV_sound (hT : TabOk P tab) {s : AS} {ρ : Nat → Nat × Nat × Nat} {a : Act} {w : World} (hR : Rl w0 ρ s a w) {fn : Func} {v : Value} (h : resV tab s fn.results.toList = some v) :
    (results fn a.tmps).run P w = .ok v w ∧ adr v = false ∧ vok v := by
  unfold resV at h
  have key : ∀ vs, resF tab s fn.results.toList = some vs → (results fn a.tmps).run P w = .ok (if h : vs.toArray.size = 1 then vs.toArray[0] else .tuple vs.toArray) w := by
    intro vs hvs
    obtain ⟨h1, h2⟩ := resF_sound hT hR _ _ hvs
    have hres : results fn a.tmps = (do
      let vs ← fn.results.mapM (rvF a.tmps)
      pure (if h : vs.size = 1 then vs[0] else .tuple vs)) := rfl
    rw [hres, Array.mapM_eq_mapM_toList]
    simp only [Sem.run_bind, Sem.run_map, h1, Result.andThen_ok, Sem.run_pure]
  split at h
  · rename_i v' hv
    cases h
    obtain ⟨_, h2⟩ := resF_sound hT hR _ _ hv
    have := h2 v (by simp)
    exact ⟨by rw [key _ hv]; rfl, this.1, this.2.vok⟩
  · rename_i vs hne hvs
    cases h
    obtain ⟨_, h2⟩ := resF_sound hT hR _ _ hvs
    refine ⟨?_, rfl, ?_⟩
    · rw [key _ hvs, dif_neg]
      intro hl
      match vs, hl with
      | [x], _ => exact hne x rfl
    · intro u hu
      exact (h2 u (by simpa using hu)).2
  · cases h

theorem undefs_slot (n : Nat) : ∀ i v, slotOf (undefs n) i = some v → v = undef := by
  induction n with
  | zero => intro i v h; cases h
  | succ n ih => intro i v h; cases i with
    | zero => simpa [undefs, slotOf] using h.symm
    | succ i => exact ih i v h
theorem undefs_length (n : Nat) : (undefs n).length = n := by
  induction n with
  | zero => rfl
  | succ n ih => simp [undefs, ih]

theorem slotOf_append (l : List Value) (r : List (Option Value)) : ∀ i, slotOf (l.map some ++ r) i = if h : i < l.length then some l[i] else slotOf r (i - l.length) := by
  induction l with
  | nil => intro i; simp
  | cons x l ih =>
    intro i
    cases i with
    | zero => simp [slotOf]
    | succ i =>
      simp only [List.map_cons, List.cons_append, slotOf, ih, List.length_cons]
      by_cases h : i < l.length
      · rw [dif_pos h, dif_pos (by omega)]; simp
      · rw [dif_neg h, dif_neg (by omega)]
        congr 1
        omega

theorem start_rel {args : List Value} {H : Heap} {n nt : Nat} {ρ : Nat → Nat × Nat × Nat} {w : World} (hids : ∀ i ∈ idsOf args, i < n) (hH : ∀ i b, hget H i = some b → i < n ∧ BlkOk w ρ i b w)
    (hinj : ∀ i j b c, hget H i = some b → hget H j = some c → (ρ i).1 = (ρ j).1 → i = j) (hv : ∀ v ∈ args, vok v) :
    Rl w ρ (start nt args H n) { tmps := (args.map (ren ρ)).toArray ++ Array.replicate (nt - (args.map (ren ρ)).toArray.size) undef, defers := [] } w := by
  refine ⟨rfl, ?_, ?_, Below.refl _ _, ?_, ?_⟩
  · simp [start, undefs_length]
  · intro i v hs
    simp only [start, slotOf_append] at hs
    split at hs
    · rename_i hlt
      cases hs
      refine ⟨?_, hv _ (List.getElem_mem hlt), ?_⟩
      · simp [Array.getD_eq_getD_getElem?, Array.getElem?_append, hlt]
      · intro k hk
        refine hids k ?_
        have : ∀ (l : List Value) (x : Value), x ∈ l → ∀ k ∈ idOf x, k ∈ idsOf l := by
          intro l
          induction l with
          | nil => intro x hx; cases hx
          | cons y r ih =>
            intro x hx k hk
            rcases List.mem_cons.1 hx with e | e
            · subst e; exact List.mem_append.2 (Or.inl hk)
            · exact List.mem_append.2 (Or.inr (ih x e k hk))
        exact this args _ (List.getElem_mem hlt) k hk
    · rename_i hlt
      have hu := undefs_slot _ _ _ hs
      subst hu
      refine ⟨?_, vok_undef, by simp [idOf, undef]⟩
      rw [ren_plain cok_undef]
      have hi : i < args.length + (nt - args.length) := by
        rcases Nat.lt_or_ge i (args.length + (nt - args.length)) with h | h
        · exact h
        · exfalso
          have : ∀ (l : List (Option Value)) (i : Nat), l.length ≤ i → slotOf l i = none := by
            intro l
            induction l with
            | nil => intro i _; rfl
            | cons x r ih => intro i hi; cases i with
              | zero => simp at hi
              | succ i => exact ih i (by simpa using hi)
          rw [this _ _ (by rw [undefs_length]; omega)] at hs
          cases hs
      simp only [Array.getD_eq_getD_getElem?, Array.getElem?_append, List.size_toArray, List.length_map, hlt, if_false]
      rw [Array.getElem?_replicate, if_pos (by omega)]
      rfl
  · intro i b hb; exact hH i b hb
  · exact hinj

/-- **a function's contract out of the evaluator's run** -/
theorem ctr_of_ev (hT : TabOk P tab) (hO : OrcOk P orc) (hm : P.follows .mixedOrders = true) (hL : LoOk P lo) {f : Nat} {fn : Func} {c : Code} (hf : P.funcs[f]? = some fn) (hb : fn.body = some c)
    {fuel : Nat} {args : List Value} {H : Heap} {n : Nat} {sc : List Bool} {v : Value} {g : Blks} (hev : evBody tab orc sy br lo fuel fn c args H n sc (fun r => r = v))
    (hids : ∀ i ∈ idsOf args, i < n) (hH : ∀ i b, hget H i = some b → i ∈ idsOf args ∧ b.own = false ∧ b.ap = 0 ∧ ∃ q p, g i = some ⟨b.cs, b.ty, q, p⟩) : Ctr P f args g v := by
  intro ρ w h1 h2 h3
  refine calls_of_wp hf hb ?_
  have hstart := start_rel (args := args) (H := H) (n := n) (nt := fn.ntmps) (ρ := ρ) (w := w) hids (fun i b hib => by
    obtain ⟨q1, q2, q4, q, p, q3⟩ := hH i b hib
    obtain ⟨b', hb', hok⟩ := h1 i q1
    rw [q3] at hb'
    cases hb'
    refine ⟨hids i q1, ?_⟩
    have : b = ⟨b.cs, b.ty, false, 0⟩ := by rw [← q2, ← q4]
    rw [this]
    exact hok) (fun i j b c hi hj he => h2 i (hH i b hi).1 j (hH j c hj).1 he) h3
  refine (evC_sound hT hO hm hL fuel).1 c _ _ sc _ ρ _ w hev hstart ?_
  intro e sc' s' ρ' a' w' hK hR
  have fin : (match resV tab s' fn.results.toList with | some r => r = v | none => False) → a'.defers = [] ∧ ∃ u, (results fn a'.tmps).run P w' = .ok u w' ∧ (Ending.returned u = .returned v ∧ Below w.heap.size w w') := by
    intro h
    split at h
    · rename_i r hr
      subst h
      exact ⟨hR.df, r, (resV_sound hT hR hr).1, rfl, hR.bl⟩
    · exact h.elim
  cases e with
  | normal => exact fin hK
  | exit id => exact hK.elim
  | ret => exact fin hK
end
end Go.Proofs.YthgefjgbkhkmgaaDoor.Ev
