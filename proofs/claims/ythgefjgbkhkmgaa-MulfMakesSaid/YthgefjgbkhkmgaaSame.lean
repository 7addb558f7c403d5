/-
  Layer 1 walked: Same, Zero; what they answer in plain words.
-/
import Derived.Test.YthgefjgbkhkmgaaEqual
namespace Go.Proofs.Ythgefjgbkhkmgaa.Ev
open Go Go.RowKit

def orcE : Orc := oadd orc8 30 (foOf [.str, .str] equalF)
theorem orcE_ok : OrcOk Try.prog orcE := oadd_ok orc8_ok equal_ok

/-- the bytes of a row as a text -/
def txtOf (x : Value) : ByteArray := ⟨((cellsV x).map byteOf).toArray⟩
def sameB (x y : Value) : Bool := txtEq (txtOf x) (txtOf y)
def keyS2 : List Sh := [.arr .u8 32, .arr .u8 32]
def sameF (v : List Value) : Bool × Value := (true, .bool (sameB (getD v 0) (getD v 1)))
theorem same_ev (e : Env) : evBody tab orcE [] [] [] 1000 Try.f31 (bodyOf Try.f31) (mkA keyS2 e 0) [] 0 [] (fun r => r = (sameF (mkA keyS2 e 0)).2) = ((sameF (mkA keyS2 e 0)).2 = (sameF (mkA keyS2 e 0)).2) := by kernel_rfl
theorem same_ok : FoOk 31 (foOf keyS2 sameF) := fo_of orcE_ok Try.func31 (by kernel_rfl) (by kernel_rfl) (fun e => by kernel_rfl) fun e _ => ⟨[], by rw [same_ev]⟩
def orcS : Orc := oadd orcE 31 (foOf keyS2 sameF)
theorem orcS_ok : OrcOk Try.prog orcS := oadd_ok orcE_ok same_ok

def zeroK : Value := vK (fun _ => 0)
def zeroS : List Sh := [.arr .u8 32]
def zeroF (v : List Value) : Bool × Value := (true, .bool (sameB (getD v 0) zeroK))
theorem zero_ev (e : Env) : evBody tab orcS [] [] [] 1000 Try.f32 (bodyOf Try.f32) (mkA zeroS e 0) [] 0 [] (fun r => r = (zeroF (mkA zeroS e 0)).2) = ((zeroF (mkA zeroS e 0)).2 = (zeroF (mkA zeroS e 0)).2) := by kernel_rfl
theorem zero_ok : FoOk 32 (foOf zeroS zeroF) := fo_of orcS_ok Try.func32 (by kernel_rfl) (by kernel_rfl) (fun e => by kernel_rfl) fun e _ => ⟨[], by rw [zero_ev]⟩
def orcZ : Orc := oadd orcS 32 (foOf zeroS zeroF)
theorem orcZ_ok : OrcOk Try.prog orcZ := oadd_ok orcS_ok zero_ok

/-! ## Plain words -/
theorem byteOf_inj {k k' : IntKind} {x y : Int} (hx : isB x) (hy : isB y) : byteOf (.int k x) = byteOf (.int k' y) ↔ x = y := by
  unfold byteOf
  constructor
  · intro h
    have h2 : (UInt8.ofNat x.toNat).toNat = (UInt8.ofNat y.toNat).toNat := congrArg UInt8.toNat h
    simp only [UInt8.toNat_ofNat'] at h2
    have := hx.1; have := hx.2; have := hy.1; have := hy.2
    omega
  · rintro rfl; rfl
theorem bytes_eq {f g : Nat → Int} : ∀ {n i : Nat}, (∀ j, i ≤ j → j < i + n → isB (f j) ∧ isB (g j)) →
    ((cellsOf .u8 f n i).map byteOf == (cellsOf .u8 g n i).map byteOf) = eqL (cellsOf .u8 f n i) (cellsOf .u8 g n i) := by
  intro n
  induction n with
  | zero => intros; rfl
  | succ n ih =>
    intro i h
    have := ih (i := i + 1) fun j h1 h2 => h j (by omega) (by omega)
    obtain ⟨hf, hg⟩ := h i (by omega) (by omega)
    simp only [cellsOf, List.map_cons, eqL]
    rw [List.cons_beq_cons, this]
    congr 1
    rw [Bool.eq_iff_iff, beq_iff_eq, beq_iff_eq]
    exact byteOf_inj hf hg
/-- two keys are the same where their bytes are -/
theorem sameB_eq {f g : Nat → Int} (hf : ∀ j, j < 32 → isB (f j)) (hg : ∀ j, j < 32 → isB (g j)) : sameB (vK f) (vK g) = eqV (vK f) (vK g) :=
  bytes_eq fun j _ h => ⟨hf j (by omega), hg j (by omega)⟩
theorem txtEq_refl (a : ByteArray) : txtEq a a = true := by simp [txtEq]
theorem txtEq_list (a b : ByteArray) : txtEq a b = (a.toList == b.toList) := by
  unfold txtEq
  rw [ByteArray.toList_eq, ByteArray.toList_eq]
end Go.Proofs.Ythgefjgbkhkmgaa.Ev
