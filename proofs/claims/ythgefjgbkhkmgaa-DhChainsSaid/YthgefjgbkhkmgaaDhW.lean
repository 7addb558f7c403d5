/-
  Layer 6 walked: Clamp, Raw, Base, Shared; the chapter's examples; in plain words.
-/
import Derived.Test.YthgefjgbkhkmgaaAw5
namespace Go.Proofs.Ythgefjgbkhkmgaa.Ev
open Go Go.RowKit
open Sap (F P toF)
attribute [local irreducible] evC evBody

def clF (f : Nat → Int) : Nat → Int := fun j => match j with
  | 0 => band (f 0) 248
  | 31 => bor (band (f 31) 127) 64
  | j => f j
def clV (k : Value) : Value := vK (clF (limF k))
def nrmK (k : Value) : Value := vK (limF k)
def rawV (k p : Value) : Value := nrmK (keyV (ladK k (ofV p)))
def nineK : Value := vK (kB 9)
def baseV (s : Value) : Value := rawV (clV s) nineK
def shK (s p : Value) : Value := rawV (clV s) p
def shOk (s p : Value) : Bool := !(sameB (shK s p) zeroK)
def cl1F (a : List Value) : Bool × Value := (true, clV (getD a 0))
def raw1F (a : List Value) : Bool × Value := (true, rawV (getD a 0) (getD a 1))
def base1F (a : List Value) : Bool × Value := (true, baseV (getD a 0))
def sh1F (a : List Value) : Bool × Value := (true, .tuple #[shK (getD a 0) (getD a 1), .bool (shOk (getD a 0) (getD a 1))])
theorem cl_ev (e : Env) : evBody tab orc0 [] [] [] 1000 Try.f77 (bodyOf Try.f77) (mkA zeroS e 0) [] 0 [] (fun r => r = (cl1F (mkA zeroS e 0)).2) = ((cl1F (mkA zeroS e 0)).2 = (cl1F (mkA zeroS e 0)).2) := by kernel_rfl
theorem cl_ok : FoOk 77 (foOf zeroS cl1F) := fo_of orc0_ok Try.func77 (by kernel_rfl) (by kernel_rfl) (fun e => by kernel_rfl) fun e _ => ⟨[], by rw [cl_ev]⟩
theorem raw_ev (e : Env) : evBody tab orcN1 [] [] [] 1000 Try.f79 (bodyOf Try.f79) (mkA keyS2 e 0) [] 0 [] (fun r => r = (raw1F (mkA keyS2 e 0)).2) = ((raw1F (mkA keyS2 e 0)).2 = (raw1F (mkA keyS2 e 0)).2) := by kernel_rfl
theorem raw_ok : FoOk 79 (foOf keyS2 raw1F) := fo_of orcN1_ok Try.func79 (by kernel_rfl) (by kernel_rfl) (fun e => by kernel_rfl) fun e _ => ⟨[], by rw [raw_ev]⟩
def orcD0 : Orc := oadd (oadd orcN1 77 (foOf zeroS cl1F)) 79 (foOf keyS2 raw1F)
theorem orcD0_ok : OrcOk Try.prog orcD0 := oadd_ok (oadd_ok orcN1_ok cl_ok) raw_ok
theorem base_ev (e : Env) : evBody tab orcD0 [] [] [] 1000 Try.f50 (bodyOf Try.f50) (mkA zeroS e 0) [] 0 [] (fun r => r = (base1F (mkA zeroS e 0)).2) = ((base1F (mkA zeroS e 0)).2 = (base1F (mkA zeroS e 0)).2) := by kernel_rfl
theorem base_ok : FoOk 50 (foOf zeroS base1F) := fo_of orcD0_ok Try.func50 (by kernel_rfl) (by kernel_rfl) (fun e => by kernel_rfl) fun e _ => ⟨[], by rw [base_ev]⟩
theorem sh_ev (e : Env) : evBody tab orcD0 [] [] [] 1000 Try.f76 (bodyOf Try.f76) (mkA keyS2 e 0) [] 0 [] (fun r => r = (sh1F (mkA keyS2 e 0)).2) = ((sh1F (mkA keyS2 e 0)).2 = (sh1F (mkA keyS2 e 0)).2) := by kernel_rfl
theorem sh_ok : FoOk 76 (foOf keyS2 sh1F) := fo_of orcD0_ok Try.func76 (by kernel_rfl) (by kernel_rfl) (fun e => by kernel_rfl) fun e _ => ⟨[], by rw [sh_ev]⟩
def orcD1 : Orc := oadd (oadd orcD0 50 (foOf zeroS base1F)) 76 (foOf keyS2 sh1F)
theorem orcD1_ok : OrcOk Try.prog orcD1 := oadd_ok (oadd_ok orcD0_ok base_ok) sh_ok
def orcD2 : Orc := oadd orcD1 90 (foOf [] trueF)
theorem orcD2_ok : OrcOk Try.prog orcD2 := oadd_ok orcD1_ok aw5'_ok

/-! ## In plain words -/
theorem isK_lim {k : Value} {f : Nat → Int} (h : k = vK f) : limF k = limF (vK f) := by rw [h]
theorem nrmK_vK (f : Nat → Int) : nrmK (vK f) = vK f := rfl
theorem clV_vK (f : Nat → Int) : clV (vK f) = vK (clF f) := rfl
theorem band_248 : ∀ b : Fin 256, band (b.val : Int) 248 % 8 = 0 ∧ 0 ≤ band (b.val : Int) 248 ∧ band (b.val : Int) 248 < 256 ∧ band (band (b.val : Int) 248) 248 = band (b.val : Int) 248 := by decide +kernel
theorem bor_64 : ∀ b : Fin 256, 64 ≤ bor (band (b.val : Int) 127) 64 ∧ bor (band (b.val : Int) 127) 64 < 128 ∧ bor (band (bor (band (b.val : Int) 127) 64) 127) 64 = bor (band (b.val : Int) 127) 64 := by decide +kernel
theorem fin_of {x : Int} (h : isB x) : ∃ b : Fin 256, x = (b.val : Int) := ⟨⟨x.toNat, by have := h.2; have := h.1; omega⟩, by have := h.1; show x = (x.toNat : Int); omega⟩
theorem isK_cl {f : Nat → Int} (hf : isK f) : isK (clF f) := by
  intro j hj
  unfold clF
  split
  · obtain ⟨b, hb⟩ := fin_of (hf 0 (by decide))
    rw [hb]
    have := band_248 b
    exact ⟨this.2.1, this.2.2.1⟩
  · obtain ⟨b, hb⟩ := fin_of (hf 31 (by decide))
    rw [hb]
    have := bor_64 b
    exact ⟨by omega, by omega⟩
  · exact hf j hj
theorem numK_split (f : Nat → Int) : numK f = f 0 + 256 * (hn f 1 30 + 256 ^ 30 * f 31) := by
  have h := hn_add f 30 1 1
  show f 0 + 256 * hn f 1 31 = _
  rw [show (31 : Nat) = 30 + 1 from rfl, h]
  simp [hn]
/-- the number of a clamped key -/
theorem cl_num {f : Nat → Int} (hf : isK f) : (numK (clF f)).toNat % 8 = 0 ∧ 0 < (numK (clF f)).toNat ∧ (numK (clF f)).toNat < 2 ^ 255 := by
  have hk := isK_cl hf
  have hs := numK_split (clF f)
  obtain ⟨r0, r1⟩ := hn_range hk 30 1 (by omega)
  have h0 : clF f 0 = band (f 0) 248 := rfl
  have h31 : clF f 31 = bor (band (f 31) 127) 64 := rfl
  obtain ⟨b, hb⟩ := fin_of (hf 0 (by decide))
  obtain ⟨c, hc⟩ := fin_of (hf 31 (by decide))
  have q0 := band_248 b
  have q1 := bor_64 c
  rw [← hb, ← h0] at q0
  rw [← hc, ← h31] at q1
  have e30 : (256 : Int) ^ 30 = 1766847064778384329583297500742918515827483896875618958121606201292619776 := by decide
  have e255 : (2 : Nat) ^ 255 = 57896044618658097711785492504343953926634992332820282019728792003956564819968 := by decide
  rw [e30] at hs r1
  rw [e255]
  generalize clF f 0 = x at *
  generalize clF f 31 = y at *
  generalize hn (clF f) 1 30 = z at *
  generalize numK (clF f) = n at *
  omega
theorem cl_cl {f : Nat → Int} (hf : isK f) : vK (clF (clF f)) = vK (clF f) := by
  have key : ∀ j, clF (clF f) j = clF f j := by
    intro j
    obtain ⟨b, hb⟩ := fin_of (hf 0 (by decide))
    obtain ⟨c, hc⟩ := fin_of (hf 31 (by decide))
    unfold clF
    split
    · show band (band (f 0) 248) 248 = band (f 0) 248
      rw [hb]; exact (band_248 b).2.2.2
    · show bor (band (bor (band (f 31) 127) 64) 127) 64 = bor (band (f 31) 127) 64
      rw [hc]; exact (bor_64 c).2.2
    · rename_i h1 h2
      split
      · exact absurd rfl h1
      · exact absurd rfl h2
      · rfl
  rw [show clF (clF f) = clF f from funext key]
/-- a number's key, as Raw makes it -/
theorem raw_val {k p : Nat → Int} (hk : isK k) (hp : isK p) : rawV (vK k) (vK p) = vK (digN (Sap.lad 256 (numK k).toNat (numV p)).val) := by
  obtain ⟨o1, o2⟩ := of_FV hp
  obtain ⟨l1, l2⟩ := ladK_val o2 hk
  unfold rawV
  rw [key_FV l1, l2, o1, keyN_eq, nrmK_vK]
def cN (f : Nat → Int) : Nat := (numK (clF f)).toNat
theorem sh_val {k p : Nat → Int} (hk : isK k) (hp : isK p) : shK (vK k) (vK p) = vK (digN (Sap.lad 256 (cN k) (numV p)).val) := by
  unfold shK
  rw [clV_vK, raw_val (isK_cl hk) hp]
  rfl
theorem nineK_num : numV (kB 9) = Sap.nine := by decide +kernel
theorem base_val {k : Nat → Int} (hk : isK k) : baseV (vK k) = vK (digN (Sap.lad 256 (cN k) Sap.nine).val) := by
  unfold baseV nineK
  rw [clV_vK, raw_val (isK_cl hk) (isK_kB ⟨by decide, by decide⟩), nineK_num]
  rfl
theorem shOk_val {k p : Nat → Int} (hk : isK k) (hp : isK p) : shOk (vK k) (vK p) = !decide (Sap.lad 256 (cN k) (numV p) = 0) := by
  unfold shOk
  rw [sh_val hk hp, zeroK_is, keyN_eq, sameB_eq (isK_dig _) (isK_dig _), ← keyN_eq, ← keyN_eq, eqV_keyN]
theorem cN_lt {f : Nat → Int} (hf : isK f) : cN f < 2 ^ 256 := Nat.lt_trans (cl_num hf).2.2 (by decide)
theorem cN_ell {f : Nat → Int} (hf : isK f) : ¬ Sap.ell ∣ cN f := Sap.clamped_not (cl_num hf).1 (cl_num hf).2.1 (cl_num hf).2.2

/-! ## The chapter's examples -/
theorem aw6_ev (e : Env) : evBody tab orcD2 [(7, .b true), (13, .b true)] [] [] 1000 Try.f47 (bodyOf Try.f47) (mkA [] e 0) [] 0 [] (fun r => r = .bool true) =
    (emit (eqV (rawV (vK (kB 1)) nineK) nineK) true ∧ emit (eqV (clV zeroK) (vK k64)) true ∧ Value.bool true = .bool true) := by kernel_rfl
theorem aw6_a : eqV (rawV (vK (kB 1)) nineK) nineK = true := by
  have h9 : isK (kB 9) := isK_kB ⟨by decide, by decide⟩
  unfold nineK
  rw [raw_val isK_one h9, numK_kB]
  have e : Sap.lad 256 (1 : Int).toNat (numV (kB 9)) = numV (kB 9) := Sap.lad_1 (by decide) _
  rw [e]
  decide +kernel
theorem aw6_b : eqV (clV zeroK) (vK k64) = true := by decide +kernel
theorem aw6_ok : FoOk 47 (foOf [] trueF) := fo_of orcD2_ok Try.func47 (by kernel_rfl) (by kernel_rfl) (fun e => by kernel_rfl) fun e _ => ⟨[], of_eq' (aw6_ev e) ⟨emit_of aw6_a, emit_of aw6_b, rfl⟩⟩
def orcD3 : Orc := oadd orcD2 47 (foOf [] trueF)
theorem orcD3_ok : OrcOk Try.prog orcD3 := oadd_ok orcD2_ok aw6_ok
end Go.Proofs.Ythgefjgbkhkmgaa.Ev
