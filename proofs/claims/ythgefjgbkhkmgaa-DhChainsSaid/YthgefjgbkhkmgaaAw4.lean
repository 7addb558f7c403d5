/-
  The chapter's examples of layer 4, walked; the keys of small numbers.
-/
import Derived.Test.YthgefjgbkhkmgaaPow
import Derived.Test.YthgefjgbkhkmgaaPowL
import Derived.Test.YthgefjgbkhkmgaaAw3
namespace Go.Proofs.Ythgefjgbkhkmgaa.Ev
open Go Go.RowKit
open Sap (F P toF)
attribute [local irreducible] evC evBody

theorem same_eq {x y : Value} (hx : bnd x LL) (hy : bnd y LL) (h : FV x = FV y) : sameB (keyV x) (keyV y) = true := by
  rw [key_FV hx, key_FV hy, keyN_eq, keyN_eq, sameB_eq (isK_dig _) (isK_dig _), h, eqV_refl]
theorem same_zero' {x : Value} (hx : bnd x LL) : sameB (keyV x) zeroK = decide (FV x = 0) := by
  rw [key_FV hx, zeroK_is, keyN_eq, keyN_eq, sameB_eq (isK_dig _) (isK_dig _), ← keyN_eq, ← keyN_eq, eqV_keyN]
theorem same_zero {x : Value} (hx : bnd x LL) (h : FV x = 0) : sameB (keyV x) zeroK = true := by
  rw [same_zero' hx, decide_eq_true h]

def orcK0 : Orc := oadd orcI5 97 (foOf [] trueF)
theorem orcK0_ok : OrcOk Try.prog orcK0 := oadd_ok orcI5_ok aw3'_ok
def invN (x : Value) : Value := nrm (invV x)
theorem invN_val {a : Value} (ha : bnd a LL) : bnd (invN a) LL ∧ FV (invN a) = Sap.inv (FV a) := by
  obtain ⟨h1, h2⟩ := inv_val ha
  exact ⟨bnd_nrm h1, by rw [invN, FV_nrm, h2]⟩
def two : Value := smallV (.int .u32 2)
def kB (b : Int) : Nat → Int := fun j => match j with
  | 0 => b
  | _ => 0
theorem isK_kB {b : Int} (h : isB b) : isK (kB b) := by
  intro j _
  unfold kB
  split
  · exact h
  · exact ⟨by decide, by decide⟩
theorem numK_kB (b : Int) : numK (kB b) = b := by
  show b + 256 * hn (kB b) 1 31 = b
  have h : hn (kB b) 1 31 = 0 := rfl
  rw [h]; omega
theorem aw4_ev (e : Env) : evBody tab orcK0 [(8, .b true), (16, .b true)] [] [] 1000 Try.f60 (bodyOf Try.f60) (mkA [] e 0) [] 0 [] (fun r => r = .bool true) =
    (emit (eqV (keyV (nrm (powV two (vK (kB 255))))) (vK k19)) true ∧ emit (sameB (keyV (mulV (invN two) two)) (keyV one)) true ∧ Value.bool true = .bool true) := by kernel_rfl
theorem two_val : bnd two LL ∧ FV two = FI 2 := small_lim 2 (by decide) (by decide) .u32
theorem aw4_a : eqV (keyV (nrm (powV two (vK (kB 255))))) (vK k19) = true := by
  obtain ⟨h1, h2⟩ := pow_val two_val.1 (isK_kB (b := 255) ⟨by decide, by decide⟩)
  rw [key_FV (bnd_nrm h1), FV_nrm, h2, two_val.2, numK_kB]
  decide +kernel
theorem aw4_b : sameB (keyV (mulV (invN two) two)) (keyV one) = true := by
  obtain ⟨h1, h2⟩ := invN_val two_val.1
  have m := mul_FV h1 two_val.1
  refine same_eq (bnd_LL m.2) one_val.1 ?_
  rw [m.1, h2, two_val.2, one_val.2, FI_2, Fin.mul_comm]
  exact Sap.mul_inv Sap.two_ne_zero
theorem aw4_ok : FoOk 60 (foOf [] trueF) := fo_of orcK0_ok Try.func60 (by kernel_rfl) (by kernel_rfl) (fun e => by kernel_rfl) fun e _ => ⟨[], of_eq' (aw4_ev e) ⟨emit_of aw4_a, emit_of aw4_b, rfl⟩⟩
def orcK1 : Orc := oadd orcK0 60 (foOf [] trueF)
theorem orcK1_ok : OrcOk Try.prog orcK1 := oadd_ok orcK0_ok aw4_ok
theorem aw4'_ev (e : Env) : evBody tab orcK1 [] [] [] 1000 Try.f101 (bodyOf Try.f101) (mkA [] e 0) [] 0 [] (fun r => r = .bool true) = (Value.bool true = .bool true) := by kernel_rfl
theorem aw4'_ok : FoOk 101 (foOf [] trueF) := fo_of orcK1_ok Try.func101 (by kernel_rfl) (by kernel_rfl) (fun e => by kernel_rfl) fun e _ => ⟨[], of_eq' (aw4'_ev e) rfl⟩

/-! ## The key of a small number -/
def k8 (n : Int) : Nat → Int := fun j => match Nat.ble 8 j with
  | true => 0
  | false => IntKind.u8.wrap (n.fdiv (2 ^ (8 * j)))
def k8S : List Sh := [.int .u64]
def k8F (a : List Value) : Bool × Value := (true, vK (k8 (intV (getD a 0))))
theorem k8a_ev (e : Env) : evBody tab orc0 [] [] [] 1000 Try.f61 (bodyOf Try.f61) (mkA k8S e 0) [] 0 [] (fun r => r = (k8F (mkA k8S e 0)).2) = ((k8F (mkA k8S e 0)).2 = (k8F (mkA k8S e 0)).2) := by kernel_rfl
theorem k8a_ok : FoOk 61 (foOf k8S k8F) := fo_of orc0_ok Try.func61 (by kernel_rfl) (by kernel_rfl) (fun e => by kernel_rfl) fun e _ => ⟨[], by rw [k8a_ev]⟩
theorem k8b_ev (e : Env) : evBody tab orc0 [] [] [] 1000 Try.f70 (bodyOf Try.f70) (mkA k8S e 0) [] 0 [] (fun r => r = (k8F (mkA k8S e 0)).2) = ((k8F (mkA k8S e 0)).2 = (k8F (mkA k8S e 0)).2) := by kernel_rfl
theorem k8b_ok : FoOk 70 (foOf k8S k8F) := fo_of orc0_ok Try.func70 (by kernel_rfl) (by kernel_rfl) (fun e => by kernel_rfl) fun e _ => ⟨[], by rw [k8b_ev]⟩
theorem k8_val {n : Int} (h0 : 0 ≤ n) (h1 : n < 18446744073709551616) : isK (k8 n) ∧ numK (k8 n) = n := by
  obtain ⟨m, rfl⟩ := Int.eq_ofNat_of_zero_le h0
  have key : ∀ j, j < 32 → k8 (m : Int) j = digN m j := by
    intro j _
    unfold k8 digN
    split
    · rename_i hb
      have hj := Nat.le_of_ble_eq_true hb
      have hp : 2 ^ 64 ≤ 2 ^ (8 * j) := Nat.pow_le_pow_right (by decide) (by omega)
      rw [Nat.div_eq_of_lt (by omega)]
      rfl
    · rw [wrap_u8, Int.fdiv_eq_ediv_of_nonneg _ (Int.le_of_lt (Int.pow_pos (by decide)))]
      have : ((2 : Int) ^ (8 * j)) = ((2 ^ (8 * j) : Nat) : Int) := by rw [Int.natCast_pow]; rfl
      rw [this]
      omega
  refine ⟨fun j hj => by rw [key j hj]; exact isK_dig m j hj, ?_⟩
  have e : numK (k8 (m : Int)) = numK (digN m) := hn_congr fun j _ hj => key j (by omega)
  rw [e, numK_dig (by omega)]
def orcK2 : Orc := oadd (oadd orcK1 61 (foOf k8S k8F)) 70 (foOf k8S k8F)
theorem orcK2_ok : OrcOk Try.prog orcK2 := oadd_ok (oadd_ok orcK1_ok k8a_ok) k8b_ok
theorem wrap_u32 {n : Int} (h0 : 0 ≤ n) (h1 : n < 4294967296) : IntKind.u64.wrap n = n := by rw [wrap_u64]; omega
end Go.Proofs.Ythgefjgbkhkmgaa.Ev
