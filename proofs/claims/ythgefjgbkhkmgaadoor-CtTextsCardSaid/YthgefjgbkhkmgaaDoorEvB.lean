/-
  Each operation's reckoning is the model's: the cases.
-/
import Derived.Test.YthgefjgbkhkmgaaDoorEvA
namespace Go.Proofs.YthgefjgbkhkmgaaDoor.Ev
open Go Go.RowKit

/-- a function that is entered when it is called -/
def Enters (P : Program) (f : Nat) : Prop := ∃ fn, P.funcs[f]? = some fn ∧ fn.body.isNone = false ∧ (fn.name == "runtime.NumGoroutine") = false

/-- a function's contract: at these arguments, with these blocks to look at, it returns v; nothing that was there has turned -/
def Ctr (P : Program) (f : Nat) (args : List Value) (g : Blks) (v : Value) : Prop :=
  ∀ (ρ : Nat → Nat × Nat × Nat) (w : World), (∀ id ∈ idsOf args, ∃ b, g id = some b ∧ BlkOk w ρ id ⟨b.cs, b.ty, false, 0⟩ w) → (∀ i ∈ idsOf args, ∀ j ∈ idsOf args, (ρ i).1 = (ρ j).1 → i = j) →
    (∀ v ∈ args, vok v) → Calls P f (args.map (ren ρ)).toArray w fun e w' => e = .returned v ∧ Below w.heap.size w w'

/-- a function that the model stands in for: the call runs here and now -/
def Ext (P : Program) (f : Nat) (args : List Value) (v : Value) : Prop := (∀ x ∈ args, adr x = false) ∧ ∀ w, (callFunc f args.toArray).run P w = .ok (.value v) w

structure OrcOk (P : Program) (orc : Orc) : Prop where
  ctr : ∀ f args g c v, orc f args g = some (c, v) → c = true → (Enters P f ∧ Ctr P f args g v ∨ Ext P f args v) ∧ adr v = false ∧ vok v
  loc : ∀ f args g g', (∀ id ∈ idsOf args, g' id = g id) → orc f args g' = orc f args g

theorem kindEq_spec {k k' : IntKind} (h : kindEq k k' = true) : k = k' := by
  cases k <;> cases k' <;> first | rfl | cases h

section
variable {P : Program} {tab : Tab} {orc : Orc} {w0 : World} {A : Nat → Prop} {ρ : Nat → Nat × Nat × Nat} {N : Nat} {t : Slots} {g : Blks} {a : Act} {w : World}

theorem Rel.all (h : Rel w0 A ρ N t g a w) : ∀ {l : List Operand} {vs : List Value}, lookAll t l = some vs →
    l.map a.eval = vs.map (ren ρ) ∧ (∀ v ∈ vs, vok v) ∧ ∀ id ∈ idsOf vs, A id := by
  intro l
  induction l with
  | nil => intro vs hv; cases hv; exact ⟨rfl, by simp, by simp [idsOf]⟩
  | cons x r ih =>
    intro vs hv
    simp only [lookAll] at hv
    split at hv
    · cases hv
    · rename_i v hx
      split at hv
      · cases hv
      · rename_i vs' hr
        cases hv
        obtain ⟨h1, h2, h3⟩ := h.eval hx
        obtain ⟨i1, i2, i3⟩ := ih hr
        refine ⟨by simp [h1, i1], ?_, ?_⟩
        · intro u hu
          rcases List.mem_cons.1 hu with e | e
          · rw [e]; exact h2
          · exact i2 u e
        · intro id hid
          rcases List.mem_append.1 hid with e | e
          · exact h3 id e
          · exact i3 id e

theorem Rel.parts (h : Rel w0 A ρ N t g a w) : ∀ {l : List (Nat × Operand)} {ps : List (Nat × Value)}, lookParts t l = some ps →
    l.map (fun p => (p.1, a.eval p.2)) = ps.map (fun p => (p.1, ren ρ p.2)) ∧ ∀ p ∈ ps, vok p.2 := by
  intro l
  induction l with
  | nil => intro vs hv; cases hv; exact ⟨rfl, by simp⟩
  | cons x r ih =>
    intro vs hv
    obtain ⟨i, x⟩ := x
    simp only [lookParts] at hv
    split at hv
    · cases hv
    · rename_i v hx
      split at hv
      · cases hv
      · rename_i vs' hr
        cases hv
        obtain ⟨h1, h2, h3⟩ := h.eval hx
        obtain ⟨i1, i2⟩ := ih hr
        refine ⟨by simp [h1, i1], ?_⟩
        intro u hu
        rcases List.mem_cons.1 hu with e | e
        · rw [e]; exact h2
        · exact i2 u e

/-- how an operation ends: the value is put down, in a world to which the relation has gone on -/
def Ends (P : Program) (o : Oper) (a : Act) (w : World) (w0 : World) (A : Nat → Prop) (N : Nat) (t : Slots) (g : Blks) (id : Nat) (out : Out) : Prop :=
  ∀ (K : Act → World → Prop) (Q : Exit → Act → World → Prop),
    (∀ ρ' a' w', Rel w0 (fun k => A k ∨ k = id) ρ' N (sApp N t o.dst out.v) (eApp g out.e) a' w' → K a' w') → o.wp P a w K Q

theorem ends_val (hR : Rel w0 A ρ N t g a w) {o : Oper} {v : Value} {c : Bool} {id : Nat} (hv : vok v) (hid : ∀ k ∈ idOf v, A k) (hrun : (execOp a.eval o).run P w = .ok (.value (ren ρ v)) w) :
    Ends P o a w w0 A N t g id ⟨c, v, []⟩ := by
  intro K Q hK
  unfold Oper.wp
  rw [hrun]
  exact hK ρ _ w ((hR.put hv hid).mono fun _ h => Or.inl h)

theorem ends_plain (hR : Rel w0 A ρ N t g a w) {o : Oper} {v : Value} {c : Bool} {id : Nat} (hv : vok v) (ha : adr v = false) (hrun : (execOp a.eval o).run P w = .ok (.value v) w) :
    Ends P o a w w0 A N t g id ⟨c, v, []⟩ :=
  ends_val hR hv (by rw [idOf_plain ha]; simp) (by rw [ren_plain ha]; exact hrun)

theorem ends_new (hR : Rel w0 A ρ N t g a w) {o : Oper} {c : Bool} {id : Nat} (hid : ¬ A id) {cs : List Value} {ty : Nat} (hcs : ∀ c ∈ cs, cok c) (rest : List Value) {v : Value}
    (hv : v = .pointer (some ⟨id, 0, none⟩) ∨ ∃ l cp, v = .slice (some ⟨id, 0, none⟩) l cp)
    (hrun : (execOp a.eval o).run P w = .ok (.value (ren (fun k => if k = id then (w.heap.size, 0, 0) else ρ k) v)) (w.alloc (.cells (cs ++ rest).toArray ty))) :
    Ends P o a w w0 A N t g id ⟨c, v, [(id, some ⟨cs, ty, true, 0⟩)]⟩ := by
  intro K Q hK
  unfold Oper.wp
  rw [hrun]
  have hn := hR.new hid (ty := ty) hcs rest 0 0 (fun h => absurd rfl h)
  refine hK (fun k => if k = id then (w.heap.size, 0, 0) else ρ k) _ _ (hn.put (v := v) ?_ ?_)
  · rcases hv with rfl | ⟨l, cp, rfl⟩ <;> trivial
  · rcases hv with rfl | ⟨l, cp, rfl⟩ <;> (intro k hk; simp only [idOf, List.mem_singleton] at hk; exact Or.inr hk)

theorem ends_store (hR : Rel w0 A ρ N t g a w) {o : Oper} {c : Bool} {id : Nat} {b : Nat} {k : Blk} (hg : g b = some k) (hown : k.own = true) {off : Nat} {vs cs : List Value} (hl : off + vs.length ≤ k.cs.length)
    (hvs : ∀ c ∈ vs, cok c) (hcs : cs = splice k.cs off vs)
    (hrun : ∀ w', (storeCells ⟨(ρ b).1, off + (ρ b).2.2, none⟩ vs 0).run P w = .ok () w' → (execOp a.eval o).run P w = .ok .skip w') :
    Ends P o a w w0 A N t g id ⟨c, undef, [(b, some ⟨cs, k.ty, true, k.ap⟩)]⟩ := by
  intro K Q hK
  obtain ⟨w', h1, h2⟩ := hR.store hg hown hl hvs
  unfold Oper.wp
  rw [hrun w' (h1 P)]
  subst hcs
  have h3 := h2.put (d := o.dst) (v := undef) vok_undef (by simp [idOf, undef])
  rw [ren_plain cok_undef] at h3
  exact hK ρ _ w' (h3.mono fun _ h => Or.inl h)

theorem fill_run (place : Nat → Option (Nat × Nat)) : ∀ (ps : List (Nat × Value)) (cells out : List Value), fillL place cells ps = some out →
    (∀ p ∈ ps, vok p.2) → (∀ c ∈ cells, cok c) → Instr.fill place cells.toArray ps = some out.toArray ∧ (∀ c ∈ out, cok c) ∧ ∀ p ∈ ps, adr p.2 = false := by
  intro ps
  induction ps with
  | nil => intro cells out h _ hc; cases h; exact ⟨rfl, hc, by simp⟩
  | cons p r ih =>
    intro cells out h hv hc
    obtain ⟨i, v⟩ := p
    simp only [fillL] at h
    split at h
    · cases h
    · rename_i off size hp
      split at h
      · cases h
      · rename_i hb
        simp only [Bool.and_eq_true, Nat.ble_eq, Bool.not_eq_true'] at hb
        obtain ⟨⟨⟨h1, h2⟩, h3⟩, h4⟩ := hb
        have h1 : (vcells v).length = size := by simpa using h1
        have hvok := hv (i, v) (by simp)
        obtain ⟨i1, i2, i3⟩ := ih (splice cells off (vcells v)) out h (fun p hp => hv p (List.mem_cons_of_mem _ hp)) (by
          intro c hc'
          rcases splice_mem hc' with e | e
          · exact hc c e
          · exact vcells_cok hvok h3 h4 c e)
        refine ⟨?_, i2, ?_⟩
        · rw [Instr.fill, hp]
          have hsz : v.cells.size = (vcells v).length := by rw [← vcells_eq]; simp
          simp only
          rw [if_neg (by simp [hsz, h1]; omega)]
          rw [← i1]
          congr 1
          have key : ∀ (l : List Value) (k off : Nat) (cells : List Value), off + k + l.length ≤ cells.length →
              (l.zipIdx k).foldl (fun cs (p : Value × Nat) => cs.setIfInBounds (off + p.2) p.1) cells.toArray = (splice cells (off + k) l).toArray := by
            intro l
            induction l with
            | nil => intro k off cells _; simp [splice]
            | cons x r ih2 =>
              intro k off cells hl
              simp only [List.zipIdx_cons, List.foldl_cons, List.setIfInBounds_toArray]
              rw [ih2 (k + 1) off (cells.set (off + k) x) (by simp at hl ⊢; omega)]
              congr 1
              simp only [List.length_cons] at hl
              have := list_seg_step cells (off + k) x r (by omega)
              simp only [splice, List.length_cons]
              simpa [Nat.add_assoc] using this
          have hk := key (vcells v) 0 off cells (by omega)
          have hz : v.cells.zipIdx = ((vcells v).zipIdx 0).toArray := by
            rw [← vcells_eq]
            apply Array.ext'
            simp [Array.toList_zipIdx]
          rw [hz]
          simp only [Nat.add_zero] at hk
          rw [← hk]
          simp
        · intro p hp'
          rcases List.mem_cons.1 hp' with e | e
          · rw [e]; exact h3
          · exact i3 p e

theorem nth_eq {α : Type} (l : List α) : ∀ n, nth l n = l[n]? := by
  induction l with
  | nil => intro n; cases n <;> rfl
  | cons x r ih => intro n; cases n with
    | zero => rfl
    | succ n => rw [nth, ih]; simp

theorem places_run (hT : TabOk P tab) : ∀ (l : List Field) (pl : List (Nat × Nat)), places tab l = some pl →
    (l.mapM (fun f => (do pure (f.offset, ← sizeOf f.type) : Sem (Nat × Nat)))).run P w = .ok pl w := by
  intro l
  induction l with
  | nil => intro pl h; cases h; simp
  | cons f r ih =>
    intro pl h
    simp only [places] at h
    split at h
    · cases h
    · rename_i y hy
      split at h
      · cases h
      · rename_i ps hps
        cases h
        rw [List.mapM_cons]
        simp only [Sem.run_bind, sizeOf_run (hT _ _ hy), Result.andThen_ok, Sem.run_pure, ih ps hps]

theorem map_parts (l : Array (Nat × Operand)) (ps : List (Nat × Value)) (h : l.toList.map (fun p => (p.1, a.eval p.2)) = ps) :
    (l.map fun (i, x) => (i, a.eval x)).toList = ps := by
  rw [← h]; simp

theorem ps_plain {ps : List (Nat × Value)} (h : ∀ p ∈ ps, adr p.2 = false) : ps.map (fun p => (p.1, ren ρ p.2)) = ps := by
  have : ∀ p ∈ ps, (p.1, ren ρ p.2) = p := fun p hp => by rw [ren_plain (h p hp)]
  exact (List.map_congr_left this).trans (List.map_id _)

theorem vok_arr {cs : List Value} (h : ∀ c ∈ cs, cok c) : vok (.agg cs.toArray) := by
  intro c hc; exact h c (by simpa using hc)

theorem zeroRow_length (z : List Value) (n : Nat) : (zeroRow z n).length = n * z.length := by
  induction n with
  | zero => simp [zeroRow]
  | succ n ih => rw [zeroRow, List.length_append, ih, Nat.succ_mul]; omega
theorem zeroRow_get (z : List Value) : ∀ (n j : Nat), j < n * z.length → (zeroRow z n)[j]? = z[j % z.length]? := by
  intro n
  induction n with
  | zero => intro j h; simp at h
  | succ n ih =>
    intro j h
    rw [zeroRow]
    by_cases hj : j < z.length
    · rw [List.getElem?_append_left hj, Nat.mod_eq_of_lt hj]
    · rw [List.getElem?_append_right (by omega), ih (j - z.length) (by rw [Nat.succ_mul] at h; omega)]
      congr 1
      exact (Nat.mod_eq_sub_mod (by omega)).symm
theorem zeroRow_mem {z : List Value} {n : Nat} {c : Value} (h : c ∈ zeroRow z n) : c ∈ z := by
  induction n with
  | zero => simp [zeroRow] at h
  | succ n ih =>
    rw [zeroRow] at h
    rcases List.mem_append.1 h with e | e
    · exact e
    · exact ih e
theorem zeroRow_range (z : Array Value) (n s : Nat) (hs : z.size = s) (h0 : n * s ≠ 0) : ((Array.range (n * s)).map fun i => z[i % z.size]!) = (zeroRow z.toList n).toArray := by
  have hz : 0 < z.size := by
    rcases Nat.eq_zero_or_pos z.size with e | e
    · rw [← hs, e] at h0; simp at h0
    · exact e
  apply Array.ext'
  apply List.ext_getElem?
  intro j
  by_cases hj : j < n * s
  · have := zeroRow_get z.toList n j (by simpa [hs] using hj)
    simp only [Array.toList_map, Array.toList_range, List.getElem?_map, List.getElem?_range hj, Option.map_some]
    rw [this]
    have hm : j % z.size < z.size := Nat.mod_lt _ hz
    simp [hm]
  · rw [List.getElem?_eq_none (by simp; omega), List.getElem?_eq_none (by rw [zeroRow_length]; simp [hs]; omega)]
end
end Go.Proofs.YthgefjgbkhkmgaaDoor.Ev
