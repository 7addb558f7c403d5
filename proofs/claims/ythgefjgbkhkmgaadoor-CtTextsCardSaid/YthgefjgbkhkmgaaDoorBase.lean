/-
  The program's facts that the evaluator leans on: types, the order of evaluation; oracles joined one by one.
-/
import Derived.Test.YthgefjgbkhkmgaaDoorEvI
import Derived.Test.YthgefjgbkhkmgaaDoorTab
namespace Go.Proofs.YthgefjgbkhkmgaaDoor.Ev
open Go Go.RowKit

theorem tyOk_of {P : Program} {t : Nat} {y : Ty} {i : TypeInfo} (h1 : P.underlying t = some y.und) (h2 : P.info? t = some i)
    (h3 : i.size = y.size) (h4 : i.bytes = y.bytes) (h5 : i.zero.map (fun z => z.cells.toList) = some y.zero) (h7 : ∀ c ∈ y.zero, cok c) : TyOk P t y := by
  cases hz : i.zero with
  | none => rw [hz] at h5; cases h5
  | some z =>
    rw [hz] at h5
    exact ⟨h1, ⟨i, z, h2, h3, h4, hz, Option.some.inj h5⟩, h7⟩

theorem zrep_ok {n : Nat} {v : Value} (h : cok v) : ∀ c ∈ zrep n v, cok c := by
  induction n with
  | zero => intro c hc; cases hc
  | succ n ih =>
    intro c hc
    rcases List.mem_cons.1 hc with e | e
    · subst e; exact h
    · exact ih c e

theorem one_ok {v : Value} (h : cok v) : ∀ c ∈ [v], cok c := by
  intro c hc
  rw [List.mem_singleton] at hc
  subst hc; exact h

theorem tab_find : ∀ (l : List (Nat × Ty)) (t : Nat) (y : Ty), tabGet l t = some y → (t, y) ∈ l := by
  intro l
  induction l with
  | nil => intro t y h; cases h
  | cons p l ih =>
    intro t y h
    obtain ⟨k, x⟩ := p
    unfold tabGet at h
    split at h
    · rename_i hb
      cases h
      rw [Nat.eq_of_beq_eq_true hb]
      exact List.mem_cons_self
    · exact List.mem_cons_of_mem _ (ih t y h)

theorem mixed : Tryd.prog.follows .mixedOrders = true := by kernel_rfl


theorem tabOk : TabOk Tryd.prog tab := by
  intro t y h
  have h := tab_find _ _ _ h
  unfold tabL at h
  simp only [List.mem_cons, List.not_mem_nil, or_false, Prod.mk.injEq] at h
  rcases h with ⟨rfl, rfl⟩ | ⟨rfl, rfl⟩ | ⟨rfl, rfl⟩ | ⟨rfl, rfl⟩ | ⟨rfl, rfl⟩ | ⟨rfl, rfl⟩ | ⟨rfl, rfl⟩ | ⟨rfl, rfl⟩ | ⟨rfl, rfl⟩ | ⟨rfl, rfl⟩ | ⟨rfl, rfl⟩
  · exact tyOk_of (i := Tryd.t3) Tryd.underlying3 (by kernel_rfl) (by kernel_rfl) (by kernel_rfl) (by kernel_rfl) (one_ok ⟨rfl, rfl⟩)
  · exact tyOk_of (i := Tryd.t2) Tryd.underlying2 (by kernel_rfl) (by kernel_rfl) (by kernel_rfl) (by kernel_rfl) (one_ok ⟨rfl, rfl⟩)
  · exact tyOk_of (i := Tryd.t5) Tryd.underlying5 (by kernel_rfl) (by kernel_rfl) (by kernel_rfl) (by kernel_rfl) (one_ok ⟨rfl, rfl⟩)
  · exact tyOk_of (i := Tryd.t66) Tryd.underlying66 (by kernel_rfl) (by kernel_rfl) (by kernel_rfl) (by kernel_rfl) (one_ok ⟨rfl, rfl⟩)
  · exact tyOk_of (i := Tryd.t63) Tryd.underlying63 (by kernel_rfl) (by kernel_rfl) (by kernel_rfl) (by kernel_rfl) (one_ok ⟨rfl, rfl⟩)
  · exact tyOk_of (i := Tryd.t37) Tryd.underlying37 (by kernel_rfl) (by kernel_rfl) (by kernel_rfl) (by kernel_rfl) (one_ok ⟨rfl, rfl⟩)
  · exact tyOk_of (i := Tryd.t4) Tryd.underlying4 (by kernel_rfl) (by kernel_rfl) (by kernel_rfl) (by kernel_rfl) (one_ok ⟨rfl, rfl⟩)
  · exact tyOk_of (i := Tryd.t9) Tryd.underlying9 (by kernel_rfl) (by kernel_rfl) (by kernel_rfl) (by kernel_rfl) (one_ok ⟨rfl, rfl⟩)
  · exact tyOk_of (i := Tryd.t23) Tryd.underlying23 (by kernel_rfl) (by kernel_rfl) (by kernel_rfl) (by kernel_rfl) (zrep_ok ⟨rfl, rfl⟩)
  · exact tyOk_of (i := Tryd.t22) Tryd.underlying22 (by kernel_rfl) (by kernel_rfl) (by kernel_rfl) (by kernel_rfl) (zrep_ok ⟨rfl, rfl⟩)
  · exact tyOk_of (i := Tryd.t38) Tryd.underlying38 (by kernel_rfl) (by kernel_rfl) (by kernel_rfl) (by kernel_rfl) (one_ok ⟨rfl, rfl⟩)

/-! ## Oracles -/
def orc0 : Orc := fun _ _ _ => none
theorem orc0_ok : OrcOk Tryd.prog orc0 := ⟨fun f args g c v h => (by cases h), fun _ _ _ _ _ => rfl⟩

/-- what a function of plain values answers -/
abbrev Fo := List Value → Option (Bool × Value)

def oadd (orc : Orc) (f : Nat) (F : Fo) : Orc := fun k args g =>
  match Nat.beq k f with
  | true => F args
  | false => orc k args g

/-- a function's contract for plain arguments -/
structure FoOk (f : Nat) (F : Fo) : Prop where
  ent : Enters Tryd.prog f
  ctr : ∀ args c v, F args = some (c, v) → c = true → adr v = false ∧ vok v ∧ ∀ g, Ctr Tryd.prog f args g v

theorem oadd_ok {orc : Orc} {f : Nat} {F : Fo} (h : OrcOk Tryd.prog orc) (hF : FoOk f F) : OrcOk Tryd.prog (oadd orc f F) := by
  refine ⟨fun k args g c v hk hc => ?_, fun k args g g' hg => ?_⟩
  · unfold oadd at hk
    split at hk
    · rename_i hb
      have := Nat.eq_of_beq_eq_true hb
      subst this
      obtain ⟨h1, h2, h3⟩ := hF.ctr args c v hk hc
      exact ⟨Or.inl ⟨hF.ent, h3 g⟩, h1, h2⟩
    · exact h.ctr k args g c v hk hc
  · unfold oadd
    split
    · rfl
    · exact h.loc k args g g' hg

end Go.Proofs.YthgefjgbkhkmgaaDoor.Ev
