/-
  Layer 2 walked: Key; its loop over the bits round by round.
-/
import Derived.Test.YthgefjgbkhkmgaaLimb
namespace Go.Proofs.Ythgefjgbkhkmgaa.Ev
open Go Go.RowKit
attribute [local irreducible] evC evBody

def ptr (id : Nat) : Value := .pointer (some ⟨id, 0, none⟩)
/-- the bytes when i bits have been laid -/
def bytesAt (r : Value) (i : Nat) : Nat → Nat → List Value
  | 0, _ => []
  | n + 1, j => .int .u8 (byteN r j (min (i - 8 * j) 8)) :: bytesAt r i n (j + 1)
def keyPre (r : Value) (i : Nat) : AS := ⟨tmps [(1, ptr 0), (2, ptr 1), (6, ptr 165), (55, .int .i64 (.ofNat i))] 78 0,
  [(0, ⟨cellsV r, 36, true, 0⟩), (1, ⟨zrep 32 (.int .u8 0), 23, true, 0⟩), (165, ⟨bytesAt r i 32 0, 23, true, 0⟩)], 200⟩
noncomputable def f35l : Code := inB (blockIn 4 (bodyOf Try.f35))
def lims (f : Nat → Int) : Value := ints [f 0, f 1, f 2, f 3, f 4]
def mapL {α : Type} (f : Nat → α) : List Nat → List α
  | [] => []
  | x :: r => f x :: mapL f r
def runN (a : Nat) : Nat → List Nat
  | 0 => []
  | n + 1 => a :: runN (a + 1) n
def keyRound (f : Nat → Int) (i : Nat) : Prop := evC tab orc0 [] [] [] 100 f35l (fun e _ s' => match e with | .normal => leS (keyPre (lims f) (i + 1)) s' | _ => False) [] (keyPre (lims f) i)
theorem key_round0 (f : Nat → Int) : List.map (keyRound f) (runN 0 32) = mapL (fun i => leS (keyPre (lims f) (i + 1)) (keyPre (lims f) (i + 1))) (runN 0 32) := by kernel_rfl
theorem key_round1 (f : Nat → Int) : List.map (keyRound f) (runN 32 32) = mapL (fun i => leS (keyPre (lims f) (i + 1)) (keyPre (lims f) (i + 1))) (runN 32 32) := by kernel_rfl
theorem key_round2 (f : Nat → Int) : List.map (keyRound f) (runN 64 32) = mapL (fun i => leS (keyPre (lims f) (i + 1)) (keyPre (lims f) (i + 1))) (runN 64 32) := by kernel_rfl
theorem key_round3 (f : Nat → Int) : List.map (keyRound f) (runN 96 32) = mapL (fun i => leS (keyPre (lims f) (i + 1)) (keyPre (lims f) (i + 1))) (runN 96 32) := by kernel_rfl
theorem key_round4 (f : Nat → Int) : List.map (keyRound f) (runN 128 32) = mapL (fun i => leS (keyPre (lims f) (i + 1)) (keyPre (lims f) (i + 1))) (runN 128 32) := by kernel_rfl
theorem key_round5 (f : Nat → Int) : List.map (keyRound f) (runN 160 32) = mapL (fun i => leS (keyPre (lims f) (i + 1)) (keyPre (lims f) (i + 1))) (runN 160 32) := by kernel_rfl
theorem key_round6 (f : Nat → Int) : List.map (keyRound f) (runN 192 32) = mapL (fun i => leS (keyPre (lims f) (i + 1)) (keyPre (lims f) (i + 1))) (runN 192 32) := by kernel_rfl
theorem key_round7 (f : Nat → Int) : List.map (keyRound f) (runN 224 31) = mapL (fun i => leS (keyPre (lims f) (i + 1)) (keyPre (lims f) (i + 1))) (runN 224 31) := by kernel_rfl
theorem key_last (f : Nat → Int) : evC tab orc0 [] [] [] 100 f35l (fun e _ s' => match e with | .exit 4 => leS (keyPre (lims f) 255) s' | _ => False) [] (keyPre (lims f) 255) = leS (keyPre (lims f) 255) (keyPre (lims f) 255) := by kernel_rfl

theorem mapL_eq {α : Type} {f g : Nat → α} : ∀ {l : List Nat}, l.map f = mapL g l → ∀ q ∈ l, f q = g q := by
  intro l
  induction l with
  | nil => intro _ q h; cases h
  | cons x r ih =>
    intro h q hq
    simp only [List.map_cons, mapL, List.cons.injEq] at h
    rcases List.mem_cons.1 hq with e | e
    · subst e; exact h.1
    · exact ih h.2 q e
theorem mem_runN {q : Nat} : ∀ {n a : Nat}, a ≤ q → q < a + n → q ∈ runN a n := by
  intro n
  induction n with
  | zero => intro a h1 h2; omega
  | succ n ih =>
    intro a h1 h2
    rcases Nat.eq_or_lt_of_le h1 with e | e
    · subst e; exact List.mem_cons_self
    · exact List.mem_cons_of_mem _ (ih (by omega) (by omega))
theorem keyPre_refl (r : Value) (i : Nat) : leS (keyPre r i) (keyPre r i) := ⟨leT_refl _, rfl, rfl, rfl, trivial⟩
theorem keyPre_low (r : Value) (i : Nat) : low (keyPre r i) = true := by kernel_rfl

theorem key_round (f : Nat → Int) (i : Nat) (h : i < 255) : keyRound f i := by
  have key : keyRound f i = leS (keyPre (lims f) (i + 1)) (keyPre (lims f) (i + 1)) := by
    rcases Nat.lt_or_ge i 32 with h1 | h1
    · exact mapL_eq (key_round0 f) i (mem_runN (by omega) (by omega))
    rcases Nat.lt_or_ge i 64 with h1 | h1
    · exact mapL_eq (key_round1 f) i (mem_runN (by omega) (by omega))
    rcases Nat.lt_or_ge i 96 with h1 | h1
    · exact mapL_eq (key_round2 f) i (mem_runN (by omega) (by omega))
    rcases Nat.lt_or_ge i 128 with h1 | h1
    · exact mapL_eq (key_round3 f) i (mem_runN (by omega) (by omega))
    rcases Nat.lt_or_ge i 160 with h1 | h1
    · exact mapL_eq (key_round4 f) i (mem_runN (by omega) (by omega))
    rcases Nat.lt_or_ge i 192 with h1 | h1
    · exact mapL_eq (key_round5 f) i (mem_runN (by omega) (by omega))
    rcases Nat.lt_or_ge i 224 with h1 | h1
    · exact mapL_eq (key_round6 f) i (mem_runN (by omega) (by omega))
    · exact mapL_eq (key_round7 f) i (mem_runN (by omega) (by omega))
  rw [key]
  exact keyPre_refl _ _

noncomputable def keyC (f : Nat → Int) : LoopC := ⟨.loop f35l, keyPre (lims f) 0, .normal, keyPre (lims f) 255⟩
theorem key_lo (f : Nat → Int) : LoOk Try.prog [(4, keyC f)] := by
  intro id L h
  simp only [loGet] at h
  split at h
  · rename_i hid
    have := Nat.eq_of_beq_eq_true hid
    subst this
    cases h
    refine ⟨keyPre_low _ _, keyPre_low _ _, ?_⟩
    let S : {i : Nat // i ≤ 255} → AS := fun i => keyPre (lims f) i.1
    have := lo_of (id := 4) (b := f35l) (ex := .normal) (post := keyPre (lims f) 255) S (fun i => 255 - i.1) (x := ⟨0, Nat.zero_le _⟩) (fun _ => keyPre_low _ _) ?_
    · exact this
    · rintro ⟨i, hi⟩
      rcases Nat.lt_or_ge i 255 with hlt | hge
      · refine (tri_ev orc0_ok loOk_nil (key_round f i hlt)).mono ?_
        intro e s' h
        cases e with
        | normal => exact ⟨⟨i + 1, hlt⟩, by show 255 - (i + 1) < 255 - i; omega, h⟩
        | _ => exact h.elim
      · have hi' : i = 255 := by omega
        subst hi'
        have hl := (key_last f).symm ▸ keyPre_refl (lims f) 255
        refine (tri_ev orc0_ok loOk_nil hl).mono ?_
        intro e s' h
        cases e with
        | exit j =>
          by_cases hj : j = 4
          · subst hj; exact ⟨rfl, h⟩
          · exfalso
            match j, hj, h with
            | 0, _, h => exact h
            | 1, _, h => exact h
            | 2, _, h => exact h
            | 3, _, h => exact h
            | 4, hj, _ => exact hj rfl
            | _ + 5, _, h => exact h
        | _ => exact h.elim
  · cases h

def keyR (x : Value) : Value := redV (carryV (carryV (carryV x)))
def keyFn (x : Value) : Nat → Int := fun i => lim (keyR x) i
theorem key_ev (e : Env) : evBody tab orcC [] [] [(4, keyC (keyFn (getD (mkA elS e 0) 0)))] 1000 Try.f35 (bodyOf Try.f35) (mkA elS e 0) [] 0 [] (fun r => r = (keyF (mkA elS e 0)).2) =
    (Code.loop f35l = Code.loop f35l ∧ leS (keyPre (lims (keyFn (getD (mkA elS e 0) 0))) 0) (keyPre (lims (keyFn (getD (mkA elS e 0) 0))) 0) ∧ (keyF (mkA elS e 0)).2 = (keyF (mkA elS e 0)).2) := by kernel_rfl
theorem of_eq' {p q : Prop} (h : p = q) (hq : q) : p := h.symm ▸ hq
theorem key_ok : FoOk 35 (foOf elS keyF) := fo_of' Try.func35 (c := bodyOf Try.f35) (by kernel_rfl) (by kernel_rfl) (fun e => by kernel_rfl) fun e _ =>
  fo_ctr orcC_ok Try.func35 (by kernel_rfl) ids_mk (of_eq' (key_ev e) ⟨rfl, keyPre_refl _ _, rfl⟩) (key_lo _)

end Go.Proofs.Ythgefjgbkhkmgaa.Ev
