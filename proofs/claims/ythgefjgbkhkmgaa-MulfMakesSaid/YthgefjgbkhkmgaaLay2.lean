/-
  Layer 2 walked: its functions joined.
-/
import Derived.Test.YthgefjgbkhkmgaaKey
import Derived.Test.YthgefjgbkhkmgaaAll
namespace Go.Proofs.Ythgefjgbkhkmgaa.Ev
open Go Go.RowKit
attribute [local irreducible] evC evBody

def orcO1 : Orc := oadd orcA 34 (foOf zeroS ofF)
theorem orcO1_ok : OrcOk Try.prog orcO1 := oadd_ok orcA_ok of_ok
def orcO2 : Orc := oadd orcO1 37 (foOf smallS smallF)
theorem orcO2_ok : OrcOk Try.prog orcO2 := oadd_ok orcO1_ok small_ok
def orcO3 : Orc := oadd orcO2 36 (foOf elS2 subF)
theorem orcO3_ok : OrcOk Try.prog orcO3 := oadd_ok orcO2_ok sub_ok
def orcO4 : Orc := oadd orcO3 45 (foOf elS2 addF)
theorem orcO4_ok : OrcOk Try.prog orcO4 := oadd_ok orcO3_ok add_ok
def orcO5 : Orc := oadd orcO4 38 (foOf elS tightF)
theorem orcO5_ok : OrcOk Try.prog orcO5 := oadd_ok orcO4_ok tight_ok
def orcO6 : Orc := oadd orcO5 39 (foOf elS looseF)
theorem orcO6_ok : OrcOk Try.prog orcO6 := oadd_ok orcO5_ok loose_ok
def orcO7 : Orc := oadd orcO6 35 (foOf elS keyF)
theorem orcO7_ok : OrcOk Try.prog orcO7 := oadd_ok orcO6_ok key_ok

/-! ## Sum of three -/
/-- a function of one row of three elements -/
def row3 (F : List Value → Value) : List Value → Blks → Option (Bool × Value)
  | [.slice (some ⟨b, 0, none⟩) 3 c], g => match g b with
    | some k => match isA .u64 15 k.cs && Nat.beq k.ty 36 && Nat.beq c 3 with
      | true => some (true, F k.cs)
      | false => none
    | none => none
  | _, _ => none
def oaddH (orc : Orc) (f : Nat) (F : List Value → Blks → Option (Bool × Value)) : Orc := fun k args g =>
  match Nat.beq k f with
  | true => F args g
  | false => orc k args g
structure HoOk (f : Nat) (F : List Value → Blks → Option (Bool × Value)) : Prop where
  ent : Enters Try.prog f
  ctr : ∀ args g c v, F args g = some (c, v) → c = true → adr v = false ∧ vok v ∧ Ctr Try.prog f args g v
  loc : ∀ args g g', (∀ id ∈ idsOf args, g' id = g id) → F args g' = F args g
theorem oaddH_ok {orc : Orc} {f : Nat} {F : List Value → Blks → Option (Bool × Value)} (h : OrcOk Try.prog orc) (hF : HoOk f F) : OrcOk Try.prog (oaddH orc f F) := by
  refine ⟨fun k args g c v hk hc => ?_, fun k args g g' hg => ?_⟩
  · unfold oaddH at hk
    split at hk
    · rename_i hb
      have := Nat.eq_of_beq_eq_true hb
      subst this
      obtain ⟨h1, h2, h3⟩ := hF.ctr args g c v hk hc
      exact ⟨Or.inl ⟨hF.ent, h3⟩, h1, h2⟩
    · exact h.ctr k args g c v hk hc
  · unfold oaddH
    split
    · exact hF.loc args g g' hg
    · exact h.loc k args g g' hg

def sl3 : Value := .slice (some ⟨0, 0, none⟩) 3 3
def hp3 (φ : Nat → Int) : Heap := [(0, ⟨cellsOf .u64 φ 15 0, 36, false, 0⟩)]
theorem row3_ok {orc : Orc} {f : Nat} {fn : Func} {c : Code} {F : List Value → Value} (hO : OrcOk Try.prog orc) (hf : Try.prog.funcs[f]? = some fn) (hb : fn.body = some c) (hn : (fn.name == "runtime.NumGoroutine") = false)
    (hv : ∀ φ, okV (F (cellsOf .u64 φ 15 0)) = true) (hev : ∀ φ, evBody tab orc [] [] [] 1000 fn c [sl3] (hp3 φ) 1 [] (fun r => r = F (cellsOf .u64 φ 15 0))) : HoOk f (row3 F) := by
  refine ⟨⟨fn, hf, by rw [hb]; rfl, hn⟩, fun args g r v h _ => ?_, fun args g g' hg => ?_⟩
  · unfold row3 at h
    split at h
    · rename_i b cap
      split at h
      · rename_i k hk
        split at h
        · rename_i hc
          cases h
          simp only [Bool.and_eq_true] at hc
          obtain ⟨⟨h1, h2⟩, h3⟩ := hc
          have h2 := Nat.eq_of_beq_eq_true h2
          have h3 := Nat.eq_of_beq_eq_true h3
          subst h3
          obtain ⟨φ, hφ⟩ := isA_eq h1
          rw [hφ]
          obtain ⟨q1, q2⟩ := okV_ok (hv φ)
          refine ⟨q1, q2, fun ρ w p1 p2 p3 => ?_⟩
          have key : Ctr Try.prog f [sl3] (fun _ => g b) (F (cellsOf .u64 φ 15 0)) := ctr_of_ev tabOk hO mixed loOk_nil hf hb (hev φ) (by intro i hi; simp [sl3, idsOf, idOf] at hi; omega) (by
            intro i blk hib
            unfold hp3 at hib
            simp only [hget] at hib
            split at hib
            · rename_i hbeq
              have := Nat.eq_of_beq_eq_true hbeq
              subst this
              cases hib
              refine ⟨by simp [sl3, idsOf, idOf], rfl, rfl, k.own, k.ap, ?_⟩
              rw [hk, ← hφ, ← h2]
            · cases hib)
          refine key (fun _ => ρ b) w (fun i hi => ?_) (fun i hi j hj _ => ?_) (fun x hx => ?_)
          · obtain ⟨k', e1, e2⟩ := p1 b (by simp [idsOf, idOf])
            exact ⟨k', e1, e2⟩
          · simp [sl3, idsOf, idOf] at hi hj
            omega
          · rw [List.mem_singleton] at hx
            subst hx
            exact trivial
        · cases h
      · cases h
    · cases h
  · unfold row3
    split
    · rename_i b cap
      rw [hg b (by simp [idsOf, idOf])]
    · rfl
def sum3V (l : List Value) : Value := addV (addV (addV (ints [0, 0, 0, 0, 0]) (.agg (l.take 5).toArray)) (.agg ((l.drop 5).take 5).toArray)) (.agg ((l.drop 10).take 5).toArray)
theorem sum3_ev (φ : Nat → Int) : evBody tab orcO7 [] [] [] 1000 Try.f46 (bodyOf Try.f46) [sl3] (hp3 φ) 1 [] (fun r => r = sum3V (cellsOf .u64 φ 15 0)) = (sum3V (cellsOf .u64 φ 15 0) = sum3V (cellsOf .u64 φ 15 0)) := by kernel_rfl
theorem sum3_ok : HoOk 46 (row3 sum3V) := row3_ok orcO7_ok Try.func46 (c := bodyOf Try.f46) (by kernel_rfl) (by kernel_rfl) (fun φ => by kernel_rfl) fun φ => by rw [sum3_ev]
def orcL2 : Orc := oaddH orcO7 46 (row3 sum3V)
theorem orcL2_ok : OrcOk Try.prog orcL2 := oaddH_ok orcO7_ok sum3_ok
end Go.Proofs.Ythgefjgbkhkmgaa.Ev
