/-
  One digit walked: value, and the document's value.
-/
import Derived.Test.YthgefjgbkhkmgaaDoorLoop
namespace Go.Proofs.YthgefjgbkhkmgaaDoor.Ev
open Go Go.RowKit
attribute [local irreducible] evC evBody

/-! ## One digit -/
def isDig (c : Int) : Bool := decide (48 ≤ c) && decide (c ≤ 57)
def isGreat (c : Int) : Bool := decide (65 ≤ c) && decide (c ≤ 70)
def isSmall (c : Int) : Bool := decide (97 ≤ c) && decide (c ≤ 102)
def hvB (c : Int) : Bool := isDig c || (isGreat c || isSmall c)
def hvI (c : Int) : Int := match isDig c with
  | true => c - 48
  | false => match isGreat c with
    | true => c - 55
    | false => match isSmall c with
      | true => c - 87
      | false => 0
def rvI (c : Int) : Int := match hvB c with
  | true => hvI c
  | false => -1
def valT (c : Int) : Value := .tuple #[.int .u8 (hvI c), .bool (hvB c)]
def byteS : List Sh := [.int .u8]
noncomputable def valF (a : List Value) : Bool × Value := (ifP (isB (intV (getD a 0))), valT (intV (getD a 0)))
theorem val_ev0 : List.map (fun n : Nat => evBody tab orc0 [] [] [] 1000 Tryd.f12 (bodyOf Tryd.f12) [.int .u8 (.ofNat n)] [] 0 [] (fun r => r = valT (.ofNat n))) (runN 0 128) = mapL (fun n : Nat => valT (.ofNat n) = valT (.ofNat n)) (runN 0 128) := by kernel_rfl
theorem val_ev1 : List.map (fun n : Nat => evBody tab orc0 [] [] [] 1000 Tryd.f12 (bodyOf Tryd.f12) [.int .u8 (.ofNat n)] [] 0 [] (fun r => r = valT (.ofNat n))) (runN 128 128) = mapL (fun n : Nat => valT (.ofNat n) = valT (.ofNat n)) (runN 128 128) := by kernel_rfl
theorem byte_nat {c : Int} (h : isB c) : ∃ n : Nat, n < 256 ∧ c = .ofNat n := ⟨c.toNat, by have := h.1; have := h.2; omega, by have := h.1; show c = ((c.toNat : Nat) : Int); omega⟩
theorem val_ok : FoOk 12 (foOf byteS valF) := fo_of' Tryd.func12 (c := bodyOf Tryd.f12) (by kernel_rfl) (by kernel_rfl) (fun e => by rfl) fun e hc => by
  have h : isB (e.i 0 0) := of_ifP hc
  show ∀ g, Ctr Tryd.prog 12 [.int .u8 (e.i 0 0)] g (valT (e.i 0 0))
  obtain ⟨n, hn, hx⟩ := byte_nat h
  rw [hx]
  rcases Nat.lt_or_ge n 128 with h' | h'
  · exact fo_ctr orc0_ok Tryd.func12 (by kernel_rfl) rfl (of_eq' (mapL_eq val_ev0 n (mem_runN (by omega) (by omega))) rfl)
  · exact fo_ctr orc0_ok Tryd.func12 (by kernel_rfl) rfl (of_eq' (mapL_eq val_ev1 n (mem_runN (by omega) (by omega))) rfl)
noncomputable def rvG (a : List Value) : Bool × Value := (ifP (isB (intV (getD a 0))), .int .i64 (rvI (intV (getD a 0))))
def rvRun (n : Nat) : Prop := evBody tab orc0 [] [] [] 1000 Tryd.f20 (bodyOf Tryd.f20) [.int .u8 (.ofNat n)] [] 0 [] (fun r => r = .int .i64 (rvI (.ofNat n)))
def rvWant (n : Nat) : Prop := Value.int .i64 (rvI (.ofNat n)) = .int .i64 (rvI (.ofNat n))
theorem rv_ev0 : List.map rvRun (runN 0 64) = mapL rvWant (runN 0 64) := by kernel_rfl
theorem rv_ev1 : List.map rvRun (runN 64 64) = mapL rvWant (runN 64 64) := by kernel_rfl
theorem rv_ev2 : List.map rvRun (runN 128 64) = mapL rvWant (runN 128 64) := by kernel_rfl
theorem rv_ev3 : List.map rvRun (runN 192 64) = mapL rvWant (runN 192 64) := by kernel_rfl
theorem rv_run {n : Nat} (h : n < 256) : rvRun n := by
  have key : rvRun n = rvWant n := by
    rcases Nat.lt_or_ge n 64 with h1 | h1
    · exact mapL_eq rv_ev0 n (mem_runN (by omega) (by omega))
    rcases Nat.lt_or_ge n 128 with h2 | h2
    · exact mapL_eq rv_ev1 n (mem_runN (by omega) (by omega))
    rcases Nat.lt_or_ge n 192 with h3 | h3
    · exact mapL_eq rv_ev2 n (mem_runN (by omega) (by omega))
    · exact mapL_eq rv_ev3 n (mem_runN (by omega) (by omega))
  rw [key]
  exact rfl
theorem rv_ok : FoOk 20 (foOf byteS rvG) := fo_of' Tryd.func20 (c := bodyOf Tryd.f20) (by kernel_rfl) (by kernel_rfl) (fun e => by rfl) fun e hc => by
  have h : isB (e.i 0 0) := of_ifP hc
  show ∀ g, Ctr Tryd.prog 20 [.int .u8 (e.i 0 0)] g (.int .i64 (rvI (e.i 0 0)))
  obtain ⟨n, hn, hx⟩ := byte_nat h
  rw [hx]
  exact fo_ctr orc0_ok Tryd.func20 (by kernel_rfl) rfl (rv_run hn)
noncomputable def orcP0 : Orc := oadd (oadd orc0 12 (foOf byteS valF)) 20 (foOf byteS rvG)
theorem orcP0_ok : OrcOk Tryd.prog orcP0 := oadd_ok (oadd_ok orc0_ok val_ok) rv_ok

end Go.Proofs.YthgefjgbkhkmgaaDoor.Ev
