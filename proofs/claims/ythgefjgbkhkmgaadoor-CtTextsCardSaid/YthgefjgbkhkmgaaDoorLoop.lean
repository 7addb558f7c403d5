/-
  Small words on rows of numbers; loops counted; what is known of a precondition.
-/
import Derived.Test.YthgefjgbkhkmgaaDoorTri
import Derived.Test.YthgefjgbkhkmgaaDoorAwake
import Derived.Test.YthgefjgbkhkmgaaDoorCtL
namespace Go.Proofs.YthgefjgbkhkmgaaDoor.Ev
open Go Go.RowKit
attribute [local irreducible] evC evBody

def ptr (id : Nat) : Value := .pointer (some ⟨id, 0, none⟩)
def mapL {α : Type} (f : Nat → α) : List Nat → List α
  | [] => []
  | x :: r => f x :: mapL f r
def runN (a : Nat) : Nat → List Nat
  | 0 => []
  | n + 1 => a :: runN (a + 1) n

theorem mapL_eq {α : Type} {f g : Nat → α} : ∀ {l : List Nat}, l.map f = mapL g l → ∀ q ∈ l, f q = g q := by
  intro l
  induction l with
  | nil => intro _ q h; cases h
  | cons x r ih =>
    intro h q hq
    simp only [List.map_cons, mapL, List.cons.injEq] at h
    rcases List.mem_cons.1 hq with e | e
    · subst e; exact h.1
    · exact ih h.2 q e
theorem mem_runN {q : Nat} : ∀ {n a : Nat}, a ≤ q → q < a + n → q ∈ runN a n := by
  intro n
  induction n with
  | zero => intro a h1 h2; omega
  | succ n ih =>
    intro a h1 h2
    rcases Nat.eq_or_lt_of_le h1 with e | e
    · subst e; exact List.mem_cons_self
    · exact List.mem_cons_of_mem _ (ih (by omega) (by omega))

theorem of_eq' {p q : Prop} (h : p = q) (hq : q) : p := h.symm ▸ hq

/-- a loop of so many rounds, each written out -/
theorem lo_count {orc : Orc} {sy : Sy} {br : List Nat} (hO : OrcOk Tryd.prog orc) {id : Nat} {b : Code} (T : Nat → AS) (m : Nat) (hlow : ∀ n, low (T n) = true)
    (round : ∀ n, n < m → ∃ sc fuel, evC tab orc sy br [] fuel b (fun e _ s' => match e with | .normal => leS (T (n + 1)) s' | _ => False) sc (T n))
    (last : ∃ sc fuel, evC tab orc sy br [] fuel b (fun e _ s' => match e with | .exit j => (match Nat.beq j id with | true => leS (T m) s' | false => False) | _ => False) sc (T m)) :
    LoOk Tryd.prog [(id, ⟨.loop b, T 0, .normal, T m⟩)] := by
  intro id' L h
  simp only [loGet] at h
  split at h
  · rename_i hid
    have := Nat.eq_of_beq_eq_true hid
    subst this
    cases h
    refine ⟨hlow _, hlow _, ?_⟩
    let S : {n : Nat // n ≤ m} → AS := fun n => T n.1
    have := lo_of (id := id) (b := b) (ex := .normal) (post := T m) S (fun n => m - n.1) (x := ⟨0, Nat.zero_le _⟩) (fun _ => hlow _) ?_
    · exact this
    · rintro ⟨n, hn⟩
      rcases Nat.lt_or_ge n m with hlt | hge
      · obtain ⟨sc, fuel, hr⟩ := round n hlt
        refine (tri_ev hO loOk_nil hr).mono ?_
        intro e s' h
        cases e with
        | normal => exact ⟨⟨n + 1, hlt⟩, by show m - (n + 1) < m - n; omega, h⟩
        | _ => exact h.elim
      · have hn' : n = m := by omega
        subst hn'
        obtain ⟨sc, fuel, hl⟩ := last
        refine (tri_ev hO loOk_nil hl).mono ?_
        intro e s' h
        cases e with
        | exit j =>
          simp only at h ⊢
          split at h
          · rename_i hj
            have := Nat.eq_of_beq_eq_true hj
            subst this
            exact ⟨by simp, h⟩
          · exact h.elim
        | _ => exact h.elim
  · cases h
theorem leS_refl' {s : AS} (h : leH s.h s.h) : leS s s := ⟨leT_refl _, h⟩


noncomputable def ifP (p : Prop) : Bool := @decide p (Classical.propDecidable p)
theorem ifP_of {p : Prop} (h : p) : ifP p = true := by unfold ifP; exact @decide_eq_true p (Classical.propDecidable p) h
theorem of_ifP {p : Prop} (h : ifP p = true) : p := by unfold ifP at h; exact @of_decide_eq_true p (Classical.propDecidable p) h


/-- how a loop ends behind m rounds that are known, in whatever way -/
theorem lo_ex {orc : Orc} {sy sy' : Sy} {br br' : List Nat} {id : Nat} {b : Code} (hO : OrcOk Tryd.prog orc) (T : Nat → AS) (m : Nat) (post : AS) (hlow : ∀ n, low (T n) = true) (hpost : low post = true)
    (round : ∀ n, n < m → ∃ sc fuel, evC tab orc sy br [] fuel b (fun e _ s' => match e with | .normal => leS (T (n + 1)) s' | _ => False) sc (T n))
    (last : ∃ sc fuel, evC tab orc sy' br' [] fuel b (fun e _ s' => match e with | .ret => leS post s' | _ => False) sc (T m)) :
    LoOk Tryd.prog [(id, ⟨.loop b, T 0, .ret, post⟩)] := by
  intro id' L h
  simp only [loGet] at h
  split at h
  · rename_i hid
    have := Nat.eq_of_beq_eq_true hid
    subst this
    cases h
    refine ⟨hlow _, hpost, ?_⟩
    let S : {n : Nat // n ≤ m} → AS := fun n => T n.1
    have := lo_of (id := id) (b := b) (ex := .ret) (post := post) S (fun n => m - n.1) (x := ⟨0, Nat.zero_le _⟩) (fun _ => hlow _) ?_
    · exact this
    · rintro ⟨n, hn⟩
      rcases Nat.lt_or_ge n m with hlt | hge
      · obtain ⟨sc, fuel, hr⟩ := round n hlt
        refine (tri_ev hO loOk_nil hr).mono ?_
        intro e s' h
        cases e with
        | normal => exact ⟨⟨n + 1, hlt⟩, by show m - (n + 1) < m - n; omega, h⟩
        | _ => exact h.elim
      · have hn' : n = m := by omega
        subst hn'
        obtain ⟨sc, fuel, hl⟩ := last
        refine (tri_ev hO loOk_nil hl).mono ?_
        intro e s' h
        cases e with
        | ret => exact ⟨rfl, h⟩
        | _ => exact h.elim
  · cases h

def okE1 (b : Bool) : Prop := b = true
theorem okE1_of {p : Prop} (h : p) : okE1 (ifP p) := ifP_of h

def okE (b : Bool) : Prop := (true && b) = true
theorem okE_of {p : Prop} (h : p) : okE (ifP p) := by unfold okE; rw [ifP_of h]; rfl
end Go.Proofs.YthgefjgbkhkmgaaDoor.Ev