/-
  The law LimbAdds: the rounds of its loop.
-/
import Derived.Test.YthgefjgbkhkmgaaSumW
namespace Go.Proofs.Ythgefjgbkhkmgaa.Ev
open Go Go.RowKit
open Sap (F P toF)
attribute [local irreducible] evC evBody

/-- how a loop ends behind m rounds that are known, in whatever way -/
theorem lo_ex {orc : Orc} {sy sy' : Sy} {br br' : List Nat} {id : Nat} {b : Code} (hO : OrcOk Try.prog orc) (T : Nat → AS) (m : Nat) (post : AS) (hlow : ∀ n, low (T n) = true) (hpost : low post = true)
    (round : ∀ n, n < m → ∃ sc fuel, evC tab orc sy br [] fuel b (fun e _ s' => match e with | .normal => leS (T (n + 1)) s' | _ => False) sc (T n))
    (last : ∃ sc fuel, evC tab orc sy' br' [] fuel b (fun e _ s' => match e with | .ret => leS post s' | _ => False) sc (T m)) :
    LoOk Try.prog [(id, ⟨.loop b, T 0, .ret, post⟩)] := by
  intro id' L h
  simp only [loGet] at h
  split at h
  · rename_i hid
    have := Nat.eq_of_beq_eq_true hid
    subst this
    cases h
    refine ⟨hlow _, hpost, ?_⟩
    let S : {n : Nat // n ≤ m} → AS := fun n => T n.1
    have := lo_of (id := id) (b := b) (ex := .ret) (post := post) S (fun n => m - n.1) (x := ⟨0, Nat.zero_le _⟩) (fun _ => hlow _) ?_
    · exact this
    · rintro ⟨n, hn⟩
      rcases Nat.lt_or_ge n m with hlt | hge
      · obtain ⟨sc, fuel, hr⟩ := round n hlt
        refine (tri_ev hO loOk_nil hr).mono ?_
        intro e s' h
        cases e with
        | normal => exact ⟨⟨n + 1, hlt⟩, by show m - (n + 1) < m - n; omega, h⟩
        | _ => exact h.elim
      · have hn' : n = m := by omega
        subst hn'
        obtain ⟨sc, fuel, hl⟩ := last
        refine (tri_ev hO loOk_nil hl).mono ?_
        intro e s' h
        cases e with
        | ret => exact ⟨rfl, h⟩
        | _ => exact h.elim
  · cases h
def okE1 (b : Bool) : Prop := b = true
theorem okE1_of {p : Prop} (h : p) : okE1 (ifP p) := ifP_of h
noncomputable def orcX10 : Orc := oaddH (oadd (oadd orcS1 51 (foOf numS2 addnF)) 52 (foOf numS2 subnF)) 46 sumO
theorem orcX10_ok : OrcOk Try.prog orcX10 := oaddH_ok (oadd_ok (oadd_ok orcS1_ok addn_ok) subn_ok) sumO_ok
noncomputable def f10l : Code := inB (blockIn 0 (bodyOf Try.f10))
/-- what every round is about -/
structure AD where
  f : Nat → Int
  g : Nat → Int
  φ : Nat → Int
  c : Nat
def adPre (k : AD) (n : Nat) (d : Nat → Int) (i : Int) : AS := ⟨tmps [(2, slE n k.c), (3, ptr 1), (4, ptr 2), (7, ptr 23), (8, ptr 24), (9, ptr 27), (31, slE n k.c), (32, .int .i64 (.ofNat n)), (33, .int .i64 i)] 67 0,
  [(0, ⟨cellsOf .u64 k.φ (5 * n) 0, 36, false, 0⟩), (1, ⟨cellsV (lims k.f), 36, true, 0⟩), (2, ⟨cellsV (lims k.g), 36, true, 0⟩), (23, ⟨cellsV (vNum (FV (lims k.f))), 45, true, 0⟩), (24, ⟨cellsV (vNum (FV (lims k.g))), 45, true, 0⟩), (27, ⟨cellsV (vN d), 45, true, 0⟩)], 300⟩
/-- the sum's digits behind another element -/
noncomputable def adS (d : Nat → Int) (e : Value) : Nat → Int := numD (NF (vN d) + NF (vNum (FV e))).val
def adRound (k : AD) (d : Nat → Int) (n i : Nat) : Prop := evC tab orcX10 [(38, .b true), (42, .ok), (43, .ok)] [] [] 100 f10l (fun e _ s' => match e with | .normal => leS (adPre k n (adS d (eA k.φ i)) (.ofNat (i + 1))) s' | _ => False) [] (adPre k n d (.ofNat i))
def adWant (k : AD) (d : Nat → Int) (n i : Nat) : Prop := emit (looseB (eA k.φ i)) true ∧ okE1 (ifP (inU (eA k.φ i))) ∧ okE1 (ifP (can (vN d) ∧ can (vNum (FV (eA k.φ i))))) ∧ leS (adPre k n (adS d (eA k.φ i)) (.ofNat (i + 1))) (adPre k n (adS d (eA k.φ i)) (.ofNat (i + 1)))
def adEnd : AS := ⟨tmps [(6, .bool true)] 67 0, [], 300⟩
def adOff (k : AD) (d : Nat → Int) (n i : Nat) : Prop := evC tab orcX10 [(38, .b false)] [] [] 100 f10l (fun e _ s' => match e with | .ret => leS adEnd s' | _ => False) [] (adPre k n d (.ofNat i))
def adOffW (k : AD) (i : Nat) : Prop := emit (looseB (eA k.φ i)) false ∧ leS adEnd adEnd
def adLast (k : AD) (d : Nat → Int) (n : Nat) : Prop := evC tab orcX10 [(38, .b true), (42, .ok), (43, .ok)] [] [] 100 f10l (fun e _ s' => match e with | .exit j => (match Nat.beq j 0 with | true => leS (adPre k n d (.ofNat n)) s' | false => False) | _ => False) [] (adPre k n d (.ofNat n))
def adLastW (k : AD) (d : Nat → Int) (n : Nat) : Prop := leS (adPre k n d (.ofNat n)) (adPre k n d (.ofNat n))
end Go.Proofs.Ythgefjgbkhkmgaa.Ev