/-
  The evaluator's relation to the model's worlds, and that each operation's reckoning is the model's.
-/
import Derived.Test.YthgefjgbkhkmgaaDoorEv
import Derived.WalkSpells
import Derived.WalkLawsBesides
import Derived.Laws.CopyOwn
namespace Go.Proofs.YthgefjgbkhkmgaaDoor.Ev
open Go Go.RowKit

/-- a value whose blocks bear their actual numbers -/
def ren (ρ : Nat → Nat × Nat × Nat) : Value → Value
  | .pointer (some ⟨b, o, s⟩) => .pointer (some ⟨(ρ b).1, o + (ρ b).2.2, s⟩)
  | .slice (some ⟨b, o, s⟩) l c => .slice (some ⟨(ρ b).1, o + (ρ b).2.2, s⟩) l (if c = capX then (ρ b).2.1 else c)
  | v => v

theorem ren_plain {ρ : Nat → Nat × Nat × Nat} {v : Value} (h : adr v = false) : ren ρ v = v := by
  unfold adr at h
  unfold ren
  split at h <;> simp_all

theorem ren_congr {ρ ρ' : Nat → Nat × Nat × Nat} {v : Value} (h : ∀ id ∈ idOf v, ρ' id = ρ id) : ren ρ' v = ren ρ v := by
  unfold ren idOf at *
  split <;> simp_all

theorem idOf_plain {v : Value} (h : adr v = false) : idOf v = [] := by
  unfold adr at h
  unfold idOf
  split at h <;> simp_all

/-- a cell's value -/
def cok (c : Value) : Prop := c.oneCell' = true ∧ adr c = false

def tok : Value → Prop
  | .agg cs => ∀ c ∈ cs.toList, cok c
  | v => cok v

def vok : Value → Prop
  | .agg cs => ∀ c ∈ cs.toList, cok c
  | .tuple vs => ∀ v ∈ vs.toList, tok v
  | _ => True

theorem tok.vok {v : Value} (h : tok v) : vok v := by
  cases v <;> first | exact h | trivial | (have := h.1; simp [Value.oneCell'] at this)
theorem tok.adr {v : Value} (h : tok v) : adr v = false := by
  cases v <;> first | rfl | exact h.2
theorem vok_undef : vok undef := by intro v hv; simp at hv
theorem cok_undef : adr undef = false := rfl

theorem vcells_cok {v : Value} (hv : vok v) (ha : adr v = false) (ht : isTup v = false) : ∀ c ∈ vcells v, cok c := by
  cases v with
  | agg cs => exact hv
  | tuple vs => cases ht
  | _ =>
    intro c hc
    simp only [vcells, List.mem_singleton] at hc
    subst hc
    exact ⟨rfl, ha⟩
theorem vcells_eq (v : Value) : v.cells.toList = vcells v := by
  cases v <;> rfl

structure TyOk (P : Program) (t : Nat) (y : Ty) : Prop where
  und : P.underlying t = some y.und
  info : ∃ i z, P.info? t = some i ∧ i.size = y.size ∧ i.bytes = y.bytes ∧ i.zero = some z ∧ z.cells.toList = y.zero
  zok : ∀ c ∈ y.zero, cok c

def TabOk (P : Program) (tab : Tab) : Prop := ∀ t y, tab t = some y → TyOk P t y

/-- a block as it is known -/
def BlkOk (w0 : World) (ρ : Nat → Nat × Nat × Nat) (id : Nat) (b : Blk) (w : World) : Prop :=
  ∃ pre rest fr ty, w.heap[(ρ id).1]? = some (.cells (pre ++ b.cs ++ rest).toArray ty fr) ∧ pre.length = (ρ id).2.2 ∧ (b.own = true → w0.heap.size ≤ (ρ id).1 ∧ fr = (0, 0) ∧ (ρ id).2.2 = 0 ∧ ty = b.ty) ∧ (∀ c ∈ b.cs, cok c) ∧
    (b.ap ≠ 0 → b.own = true ∧ (b.cs ++ rest).length = (ρ id).2.1 * b.ap)
/-- a block of the call's own -/
theorem BlkOk.mine {w0 : World} {ρ : Nat → Nat × Nat × Nat} {id : Nat} {b : Blk} {w : World} (h : BlkOk w0 ρ id b w) (ho : b.own = true) :
    ∃ rest, w.heap[(ρ id).1]? = some (.cells (b.cs ++ rest).toArray b.ty (0, 0)) ∧ w0.heap.size ≤ (ρ id).1 ∧ (ρ id).2.2 = 0 ∧ (∀ c ∈ b.cs, cok c) ∧ (b.ap ≠ 0 → (b.cs ++ rest).length = (ρ id).2.1 * b.ap) := by
  obtain ⟨pre, rest, fr, ty, h1, h2, h3, h4, h5⟩ := h
  obtain ⟨q1, rfl, q3, rfl⟩ := h3 ho
  have : pre = [] := List.eq_nil_of_length_eq_zero (h2.trans q3)
  subst this
  exact ⟨rest, h1, q1, q3, h4, fun hne => (h5 hne).2⟩
theorem BlkOk.of_mine {w0 : World} {ρ : Nat → Nat × Nat × Nat} {id : Nat} {b : Blk} {w : World} {rest : List Value} (h1 : w.heap[(ρ id).1]? = some (.cells (b.cs ++ rest).toArray b.ty (0, 0))) (h2 : w0.heap.size ≤ (ρ id).1) (h3 : (ρ id).2.2 = 0)
    (ho : b.own = true) (h4 : ∀ c ∈ b.cs, cok c) (h5 : b.ap ≠ 0 → (b.cs ++ rest).length = (ρ id).2.1 * b.ap) : BlkOk w0 ρ id b w :=
  ⟨[], rest, (0, 0), b.ty, h1, h3.symm, fun _ => ⟨h2, rfl, h3, rfl⟩, h4, fun hne => ⟨ho, h5 hne⟩⟩

structure Rel (w0 : World) (A : Nat → Prop) (ρ : Nat → Nat × Nat × Nat) (N : Nat) (t : Slots) (g : Blks) (a : Act) (w : World) : Prop where
  df : a.defers = []
  len : a.tmps.size = N
  tm : ∀ i v, t i = some v → a.tmps.getD i undef = ren ρ v ∧ vok v ∧ ∀ id ∈ idOf v, A id
  bl : Below w0.heap.size w0 w
  hp : ∀ id b, g id = some b → A id ∧ BlkOk w0 ρ id b w
  inj : ∀ i j b c, g i = some b → g j = some c → (ρ i).1 = (ρ j).1 → i = j

def sApp (N : Nat) (t : Slots) (d : Option Nat) (v : Value) : Slots :=
  match d with
  | none => t
  | some d => fun i => if i = d ∧ d < N then some v else t i

def eApp : Blks → List (Nat × Option Blk) → Blks
  | g, [] => g
  | g, (i, b) :: r => eApp (fun k => if k = i then b else g k) r

theorem Rel.mono {w0 : World} {A A' : Nat → Prop} {ρ : Nat → Nat × Nat × Nat} {N : Nat} {t : Slots} {g : Blks} {a : Act} {w : World} (h : Rel w0 A ρ N t g a w) (hA : ∀ i, A i → A' i) : Rel w0 A' ρ N t g a w :=
  ⟨h.df, h.len, fun i v hv => ⟨(h.tm i v hv).1, (h.tm i v hv).2.1, fun id hid => hA _ ((h.tm i v hv).2.2 id hid)⟩, h.bl, fun id b hb => ⟨hA _ (h.hp id b hb).1, (h.hp id b hb).2⟩, h.inj⟩

theorem Rel.congr {w0 : World} {A : Nat → Prop} {ρ : Nat → Nat × Nat × Nat} {N : Nat} {t t' : Slots} {g g' : Blks} {a : Act} {w : World} (h : Rel w0 A ρ N t g a w) (ht : ∀ i, t' i = t i) (hg : ∀ i, g' i = g i) : Rel w0 A ρ N t' g' a w := by
  have e1 : t' = t := funext ht
  have e2 : g' = g := funext hg
  rw [e1, e2]; exact h

section
variable {w0 : World} {A : Nat → Prop} {ρ : Nat → Nat × Nat × Nat} {N : Nat} {t : Slots} {g : Blks} {a : Act} {w : World}

theorem Rel.eval (h : Rel w0 A ρ N t g a w) {x : Operand} {v : Value} (hx : look t x = some v) : a.eval x = ren ρ v ∧ vok v ∧ ∀ id ∈ idOf v, A id := by
  cases x with
  | tmp i => exact h.tm i v hx
  | const c =>
    simp only [look] at hx
    split at hx
    · rename_i hc
      have hx : c = v := Option.some.inj hx
      subst hx
      have ha : adr c = false ∧ vok c := by
        cases c with
        | slice a _ _ => cases a with
          | none => exact ⟨rfl, trivial⟩
          | some _ => cases hc
        | bool _ => exact ⟨rfl, trivial⟩
        | int _ _ => exact ⟨rfl, trivial⟩
        | string _ => exact ⟨rfl, trivial⟩
        | _ => cases hc
      exact ⟨(ren_plain ha.1).symm, ha.2, by rw [idOf_plain ha.1]; simp⟩
    · cases hx
  | global k => cases hx
  | func f =>
    simp only [look] at hx
    cases hx
    exact ⟨rfl, trivial, by simp [idOf]⟩

/-- a slot is written -/
theorem Rel.put (h : Rel w0 A ρ N t g a w) {d : Option Nat} {v : Value} (hv : vok v) (hid : ∀ id ∈ idOf v, A id) : Rel w0 A ρ N (sApp N t d v) g (a.put d (ren ρ v)) w := by
  cases d with
  | none => exact h
  | some d =>
    refine ⟨h.df, by simp [Act.put, h.len], ?_, h.bl, h.hp, h.inj⟩
    intro i u hu
    simp only [sApp] at hu
    simp only [Act.put]
    by_cases hi : i = d ∧ d < N
    · rw [if_pos hi] at hu
      cases hu
      obtain ⟨rfl, hlt⟩ := hi
      refine ⟨?_, hv, hid⟩
      simp [Array.getD_eq_getD_getElem?, h.len, hlt]
    · rw [if_neg hi] at hu
      obtain ⟨h1, h2, h3⟩ := h.tm i u hu
      refine ⟨?_, h2, h3⟩
      by_cases e : i = d
      · subst e
        have hlt : ¬ i < N := fun hl => hi ⟨rfl, hl⟩
        have : a.tmps.size ≤ i := by rw [h.len]; omega
        rw [← h1]
        simp [Array.getD_eq_getD_getElem?, Array.setIfInBounds_eq_of_size_le this]
      · rw [← h1]
        simp [Array.getD_eq_getD_getElem?, Array.getElem?_setIfInBounds_ne (fun x => e x.symm)]

/-- the world goes on, below what stood there nothing has turned -/
theorem Rel.later (h : Rel w0 A ρ N t g a w) {w' : World} (hb : Below w.heap.size w w') : Rel w0 A ρ N t g a w' := by
  refine ⟨h.df, h.len, h.tm, h.bl.trans (hb.mono h.bl.size), ?_, h.inj⟩
  intro id b hgb
  obtain ⟨h1, pre, rest, fr, ty, h2, h3⟩ := h.hp id b hgb
  refine ⟨h1, pre, rest, fr, ty, ?_, h3⟩
  have hlt : (ρ id).1 < w.heap.size := by
    rcases Nat.lt_or_ge (ρ id).1 w.heap.size with hl | hl
    · exact hl
    · rw [Array.getElem?_eq_none hl] at h2; cases h2
  rw [hb.block _ hlt]; exact h2

theorem Rel.lt (h : Rel w0 A ρ N t g a w) {id : Nat} {b : Blk} (hgb : g id = some b) : (ρ id).1 < w.heap.size := by
  obtain ⟨_, _, rest, fr, _, h2, _⟩ := h.hp id b hgb
  rcases Nat.lt_or_ge (ρ id).1 w.heap.size with hl | hl
  · exact hl
  · rw [Array.getElem?_eq_none hl] at h2; cases h2

/-- a new block -/
theorem Rel.new (h : Rel w0 A ρ N t g a w) {id : Nat} (hid : ¬ A id) {cs : List Value} {ty : Nat} (hcs : ∀ c ∈ cs, cok c) (rest : List Value) (cap ap : Nat) (hap : ap ≠ 0 → (cs ++ rest).length = cap * ap) :
    Rel w0 (fun k => A k ∨ k = id) (fun k => if k = id then (w.heap.size, cap, 0) else ρ k) N t (fun k => if k = id then some ⟨cs, ty, true, ap⟩ else g k) a (w.alloc (.cells (cs ++ rest).toArray ty)) := by
  have hne : ∀ k, A k → k ≠ id := fun k hk e => hid (e ▸ hk)
  refine ⟨h.df, h.len, ?_, h.bl.alloc h.bl.size _, ?_, ?_⟩
  · intro i v hv
    obtain ⟨h1, h2, h3⟩ := h.tm i v hv
    refine ⟨?_, h2, fun k hk => Or.inl (h3 k hk)⟩
    rw [h1]
    exact (ren_congr fun k hk => if_neg (hne k (h3 k hk))).symm
  · intro k b hb
    by_cases hk : k = id
    · subst hk
      rw [if_pos rfl] at hb
      cases hb
      refine ⟨Or.inr rfl, BlkOk.of_mine (rest := rest) ?_ (by simp only [if_true]; exact h.bl.size) (by simp only [if_true]) rfl hcs (by simp only [if_true]; exact hap)⟩
      show (w.heap.push _)[(if k = k then (w.heap.size, cap, 0) else ρ k).1]? = _
      rw [if_pos rfl]
      simp
    · rw [if_neg hk] at hb
      obtain ⟨h1, pre, r2, fr, ty2, h2, h2', h3, h4, h5⟩ := h.hp k b hb
      refine ⟨Or.inl h1, pre, r2, fr, ty2, ?_, by simp only [if_neg hk]; exact h2', ?_, h4, by simp only [if_neg hk]; exact h5⟩
      · have hlt := h.lt hb
        simp only [if_neg hk]
        show (w.heap.push _)[(ρ k).1]? = _
        rw [Array.getElem?_push, if_neg (by omega)]
        exact h2
      · simp only [if_neg hk]; exact h3
  · intro i j b c hb hc he
    by_cases hi : i = id
    · by_cases hj : j = id
      · rw [hi, hj]
      · rw [if_neg hj] at hc
        simp only [if_pos hi, if_neg hj] at he
        have := h.lt hc
        omega
    · rw [if_neg hi] at hb
      by_cases hj : j = id
      · simp only [if_neg hi, if_pos hj] at he
        have := h.lt hb
        omega
      · rw [if_neg hj] at hc
        simp only [if_neg hi, if_neg hj] at he
        exact h.inj i j b c hb hc he

theorem put1_eq (cs : List Value) : ∀ (off : Nat) (v : Value), off < cs.length → put1 cs off v = splice cs off [v] := by
  induction cs with
  | nil => intro off v h; simp at h
  | cons c r ih =>
    intro off v h
    cases off with
    | zero => simp [put1, splice]
    | succ n =>
      simp only [List.length_cons] at h
      rw [put1, ih n v (by omega)]
      simp [splice]
theorem getD_eq (cs : List Value) : ∀ off, getD cs off = cs.getD off undef := by
  induction cs with
  | nil => intro off; cases off <;> rfl
  | cons c r ih => intro off; cases off with
    | zero => rfl
    | succ n => rw [getD, ih]; simp [List.getD]

theorem splice_length {cs vs : List Value} {off : Nat} (h : off + vs.length ≤ cs.length) : (splice cs off vs).length = cs.length := by
  simp [splice]; omega
theorem splice_mem {cs vs : List Value} {off : Nat} {c : Value} (h : c ∈ splice cs off vs) : c ∈ cs ∨ c ∈ vs := by
  simp only [splice, List.mem_append] at h
  rcases h with (h | h) | h
  · exact Or.inl (List.mem_of_mem_take h)
  · exact Or.inr h
  · exact Or.inl (List.mem_of_mem_drop h)

/-- a store -/
theorem Rel.store (h : Rel w0 A ρ N t g a w) {id : Nat} {b : Blk} (hgb : g id = some b) (hown : b.own = true) {off : Nat} {vs : List Value} (hl : off + vs.length ≤ b.cs.length) (hvs : ∀ c ∈ vs, cok c) :
    ∃ w', (∀ P, (storeCells ⟨(ρ id).1, off + (ρ id).2.2, none⟩ vs 0).run P w = .ok () w') ∧ Rel w0 A ρ N t (fun k => if k = id then some ⟨splice b.cs off vs, b.ty, true, b.ap⟩ else g k) a w' := by
  obtain ⟨h1, hblk⟩ := h.hp id b hgb
  obtain ⟨rest, h2, hB, hsh, h4, h5⟩ := hblk.mine hown
  rw [hsh, Nat.add_zero]
  refine ⟨w.setRow (ρ id).1 (splice b.cs off vs ++ rest).toArray, ?_, ?_⟩
  · intro P
    have := run_storeCells_at P (ρ id).1 off b.ty vs 0 (b.cs ++ rest).toArray w h2 (by simp; omega) (fun v hv => (hvs v hv).1)
    rw [this]
    have e : (b.cs ++ rest).take off ++ vs ++ (b.cs ++ rest).drop (off + vs.length) = splice b.cs off vs ++ rest := by
      unfold splice
      rw [List.take_append_of_le_length (by omega), List.drop_append_of_le_length (by omega)]
      simp
    simp only [Nat.add_zero]
    rw [e]
  · refine ⟨h.df, h.len, h.tm, below_setRow h.bl hB _, ?_, ?_⟩
    · intro k c hc
      by_cases hk : k = id
      · subst hk
        rw [if_pos rfl] at hc
        cases hc
        refine ⟨h1, BlkOk.of_mine (rest := rest) (setRow_heap w (ρ k).1 _ _ _ _ h2) hB hsh rfl ?_ ?_⟩
        rotate_left
        · intro hne
          rw [← h5 hne]
          simp [splice_length hl]
        intro x hx
        rcases splice_mem hx with hx | hx
        · exact h4 x hx
        · exact hvs x hx
      · rw [if_neg hk] at hc
        obtain ⟨g1, pre2, r2, fr2, ty2, g2, g3⟩ := h.hp k c hc
        refine ⟨g1, pre2, r2, fr2, ty2, ?_, g3⟩
        rw [setRow_other w (ρ id).1 (ρ k).1 _ (fun e => hk (h.inj k id c b hc hgb e))]
        exact g2
    · intro i j x y hx hy he
      by_cases hi : i = id
      · by_cases hj : j = id
        · rw [hi, hj]
        · rw [if_neg hj] at hy
          exact h.inj i j b y (hi ▸ hgb) hy he
      · rw [if_neg hi] at hx
        by_cases hj : j = id
        · exact h.inj i j x b hx (hj ▸ hgb) he
        · rw [if_neg hj] at hy
          exact h.inj i j x y hx hy he

/-- a block's cells, read -/
theorem BlkOk.cell {id : Nat} {b : Blk} (h : BlkOk w0 ρ id b w) {j : Nat} {v : Value} (hv : b.cs[j]? = some v) : w.cell? ⟨(ρ id).1, j + (ρ id).2.2, none⟩ = some v ∧ cok v := by
  obtain ⟨pre, rest, fr, ty, h2, h3, _, h4, _⟩ := h
  refine ⟨?_, h4 v (List.mem_of_getElem? hv)⟩
  have hj : j < b.cs.length := (List.getElem?_eq_some_iff.1 hv).1
  simp only [World.cell?, h2, ← h3]
  have e : (pre ++ b.cs ++ rest)[j + pre.length]? = some v := by
    rw [List.append_assoc, List.getElem?_append_right (by omega), Nat.add_sub_cancel, List.getElem?_append_left hj, hv]
  simpa using e

theorem addr_add (b off n : Nat) : (⟨b, off, none⟩ : Addr).add n = ⟨b, off + n, none⟩ := by
  unfold Addr.add; split <;> simp_all

end

theorem isAgg_run {P : Program} {t : Nat} {d : TypeDesc} (h : P.underlying t = some d) (w : World) : (isAgg t).run P w = .ok (isAggD d) w := by
  unfold isAgg
  rw [Sem.run_bind, run_underlying h w]
  cases d <;> rfl
theorem sizeOf_run {P : Program} {t : Nat} {y : Ty} (h : TyOk P t y) (w : World) : (sizeOf t).run P w = .ok y.size w := by
  obtain ⟨i, z, h1, h2, _⟩ := h.info
  simp [sizeOf, typeInfo, h1, h2]
theorem zero_run {P : Program} {t : Nat} {y : Ty} (h : TyOk P t y) (w : World) : ∃ z, (zeroValue t).run P w = .ok z w ∧ z.cells.toList = y.zero := by
  obtain ⟨i, z, h1, h2, h3, h4, h5⟩ := h.info
  exact ⟨z, by simp [zeroValue, typeInfo, h1, h4], h5⟩
theorem info_run {P : Program} {t : Nat} {y : Ty} (h : TyOk P t y) (w : World) : ∃ i, (typeInfo t).run P w = .ok i w ∧ i.size = y.size ∧ i.bytes = y.bytes := by
  obtain ⟨i, z, h1, h2, h3, h4, h5⟩ := h.info
  exact ⟨i, by simp [typeInfo, h1], h2, h3⟩

/-- a variable, loaded -/
theorem load_run {P : Program} {w0 w : World} {ρ : Nat → Nat × Nat × Nat} {id : Nat} {b : Blk} (hb : BlkOk w0 ρ id b w) {t : Nat} {y : Ty} (hy : TyOk P t y) {off : Nat}
    (hc : (Nat.ble (off + y.size) b.cs.length && (isAggD y.und || Nat.beq y.size 1)) = true) :
    (loadVar t ⟨(ρ id).1, off + (ρ id).2.2, none⟩).run P w = .ok (ldv y b.cs off) w ∧ tok (ldv y b.cs off) := by
  simp only [Bool.and_eq_true, Nat.ble_eq, Bool.or_eq_true] at hc
  obtain ⟨hl, hs⟩ := hc
  unfold loadVar
  simp only [Sem.run_bind, isAgg_run hy.und, Result.andThen_ok]
  unfold ldv
  cases hd : isAggD y.und with
  | true =>
    simp only [↓reduceIte, Sem.run_bind, sizeOf_run hy, Result.andThen_ok]
    have hlen : ((b.cs.drop off).take y.size).length = y.size := by simp; omega
    have hget : ∀ j v, ((b.cs.drop off).take y.size)[j]? = some v → b.cs[off + j]? = some v := by
      intro j v hv
      have hj := (List.getElem?_eq_some_iff.1 hv).1
      rw [List.getElem?_take, List.getElem?_drop] at hv
      split at hv
      · exact hv
      · cases hv
    have := run_loadCells_list (P := P) w ⟨(ρ id).1, off + (ρ id).2.2, none⟩ ((b.cs.drop off).take y.size) (fun j v hv => by rw [addr_add, Nat.add_right_comm]; exact (hb.cell (hget j v hv)).1)
    rw [hlen] at this
    rw [this]
    refine ⟨rfl, ?_⟩
    intro c hc
    obtain ⟨j, hj⟩ := List.mem_iff_getElem?.1 hc
    exact (hb.cell (hget j c hj)).2
  | false =>
    simp only [Bool.false_eq_true, ↓reduceIte]
    rw [hd] at hs
    simp only [Bool.false_eq_true, false_or] at hs
    have hs1 : y.size = 1 := by simpa using hs
    have hlt : off < b.cs.length := by omega
    have hcell := hb.cell (j := off) (v := b.cs[off]) (by simp [hlt])
    rw [getD_eq]
    have e : b.cs.getD off undef = b.cs[off] := by simp [List.getD, hlt]
    rw [e]
    refine ⟨?_, ?_⟩
    · unfold Go.load
      simp [Sem.run, hcell.1]
    · have := hcell.2
      unfold tok
      split
      · rename_i heq
        have h1 := this.1
        rw [heq] at h1
        simp [Value.oneCell'] at h1
      · exact this
end Go.Proofs.YthgefjgbkhkmgaaDoor.Ev
