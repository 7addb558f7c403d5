/-
  Layer 3 walked: wide.add, cut, tight, Mul, Square, Times, to the letter of what they reckon.
-/
import Derived.Test.YthgefjgbkhkmgaaLay2
import Derived.Test.YthgefjgbkhkmgaaLimbL
import Derived.Laws.Externs
namespace Go.Proofs.Ythgefjgbkhkmgaa.Ev
open Go Go.RowKit
attribute [local irreducible] evC evBody

/-! ## bits.Add64 -/
def sLo (x y c : Int) : Int := Int.ofNat ((x.toNat + y.toNat + c.toNat) % 18446744073709551616)
def sHi (x y c : Int) : Int := Int.ofNat ((x.toNat + y.toNat + c.toNat) / 18446744073709551616)
def add64O : Fo
  | [.int .u64 x, .int .u64 y, .int .u64 c] => some (decide (c.toNat ≤ 1), .tuple #[.int .u64 (sLo x y c), .int .u64 (sHi x y c)])
  | _ => none
theorem add64_find : Extern.find Try.f111 = some add64Entry := by kernel_rfl
theorem add64_next : Extern.findNext Try.f111 = none := by kernel_rfl
theorem add64_run (x y c : Int) (hc : c.toNat ≤ 1) (w : World) : (add64Entry #[.int .u64 x, .int .u64 y, .int .u64 c]).run Try.prog w = .ok (.tuple #[.int .u64 (sLo x y c), .int .u64 (sHi x y c)]) w := by
  rcases c with c | c
  · have : c = 0 ∨ c = 1 := by
      have : (Int.ofNat c).toNat = c := rfl
      omega
    rcases this with rfl | rfl <;> rfl
  · rfl
theorem oadd_ext {orc : Orc} {f : Nat} {F : Fo} (h : OrcOk Try.prog orc) (hF : ∀ args c v, F args = some (c, v) → c = true → adr v = false ∧ vok v ∧ Ext Try.prog f args v) : OrcOk Try.prog (oadd orc f F) := by
  refine ⟨fun k args g c v hk hc => ?_, fun k args g g' hg => ?_⟩
  · unfold oadd at hk
    split at hk
    · rename_i hb
      have := Nat.eq_of_beq_eq_true hb
      subst this
      obtain ⟨h1, h2, h3⟩ := hF args c v hk hc
      exact ⟨Or.inr h3, h1, h2⟩
    · exact h.ctr k args g c v hk hc
  · unfold oadd
    split
    · rfl
    · exact h.loc k args g g' hg
def orcM0 : Orc := oadd orcL2 111 add64O
theorem orcM0_ok : OrcOk Try.prog orcM0 := oadd_ext orcL2_ok fun args c v h hc => by
  unfold add64O at h
  split at h
  · cases h
    have hc := of_decide_eq_true hc
    refine ⟨rfl, (okV_ok (by rfl)).2, fun x hx => ?_, fun w => ?_⟩
    · simp only [List.mem_cons, List.not_mem_nil, or_false] at hx
      rcases hx with rfl | rfl | rfl <;> rfl
    · rw [run_callFunc_extern Try.func111 (by kernel_rfl) (by kernel_rfl) add64_next add64_find]
      show ((add64Entry #[.int .u64 _, .int .u64 _, .int .u64 _]).run Try.prog w).andThen _ = _
      rw [add64_run _ _ _ hc]
      rfl
  · cases h

/-! ## wide.add, cut, tight -/
def waL (w : Value) (a b : Int) : Int := sLo (w64 (a * b)) (lim w 1) 0
def waC (w : Value) (a b : Int) : Int := sHi (w64 (a * b)) (lim w 1) 0
def waH (w : Value) (a b : Int) : Int := sLo (mulHi a b) (lim w 0) (waC w a b)
def wadd (w : Value) (a b : Int) : Value := .agg #[.int .u64 (waH w a b), .int .u64 (waL w a b)]
def waOk (w : Value) (a b : Int) : Bool := decide ((waC w a b).toNat ≤ 1)
def waddS : List Sh := [.arr .u64 2, .int .u64, .int .u64]
def waddF (a : List Value) : Bool × Value := (waOk (getD a 0) (intV (getD a 1)) (intV (getD a 2)), wadd (getD a 0) (intV (getD a 1)) (intV (getD a 2)))
theorem wadd_ev (e : Env) : evBody tab orcM0 [(28, .ok)] [] [] 1000 Try.f95 (bodyOf Try.f95) (mkA waddS e 0) [] 0 [] (fun r => r = (waddF (mkA waddS e 0)).2) = ((waddF (mkA waddS e 0)).1 = true ∧ (waddF (mkA waddS e 0)).2 = (waddF (mkA waddS e 0)).2) := by kernel_rfl
theorem wadd_ok : FoOk 95 (foOf waddS waddF) := fo_of orcM0_ok Try.func95 (by kernel_rfl) (by kernel_rfl) (fun e => by kernel_rfl) fun e h => ⟨[], by rw [wadd_ev]; exact ⟨h, rfl⟩⟩
def orcM1 : Orc := oadd orcM0 95 (foOf waddS waddF)
theorem orcM1_ok : OrcOk Try.prog orcM1 := oadd_ok orcM0_ok wadd_ok

def cutL (l : Int) : Int := and64 l M51
def cutH (h l : Int) : Int := or64 (w64 (h * 2 ^ 13)) (sh l 51)
def cutS : List Sh := [.arr .u64 2]
def cutF (a : List Value) : Bool × Value := (true, .tuple #[.int .u64 (cutL (lim (getD a 0) 1)), .int .u64 (cutH (lim (getD a 0) 0) (lim (getD a 0) 1))])
theorem cut_ev (e : Env) : evBody tab orcM1 [] [] [] 1000 Try.f112 (bodyOf Try.f112) (mkA cutS e 0) [] 0 [] (fun r => r = (cutF (mkA cutS e 0)).2) = ((cutF (mkA cutS e 0)).2 = (cutF (mkA cutS e 0)).2) := by kernel_rfl
theorem cut_ok : FoOk 112 (foOf cutS cutF) := fo_of orcM1_ok Try.func112 (by kernel_rfl) (by kernel_rfl) (fun e => by kernel_rfl) fun e _ => ⟨[], by rw [cut_ev]⟩
def orcM2 : Orc := oadd orcM1 112 (foOf cutS cutF)
theorem orcM2_ok : OrcOk Try.prog orcM2 := oadd_ok orcM1_ok cut_ok

def lowI (w : Value) (i : Nat) : Int := cutL (lim w (2 * i + 1))
def abvI (w : Value) (i : Nat) : Int := cutH (lim w (2 * i)) (lim w (2 * i + 1))
def tghV (w : Value) : Value := carryV (ints [w64 (lowI w 0 + w64 (19 * abvI w 4)), w64 (lowI w 1 + abvI w 0), w64 (lowI w 2 + abvI w 1), w64 (lowI w 3 + abvI w 2), w64 (lowI w 4 + abvI w 3)])
def tghS : List Sh := [.arr .u64 10]
def tghF (a : List Value) : Bool × Value := (true, tghV (getD a 0))
theorem tgh_ev (e : Env) : evBody tab orcM2 [] [] [] 1000 Try.f96 (bodyOf Try.f96) (mkA tghS e 0) [] 0 [] (fun r => r = (tghF (mkA tghS e 0)).2) = ((tghF (mkA tghS e 0)).2 = (tghF (mkA tghS e 0)).2) := by kernel_rfl
theorem tgh_ok : FoOk 96 (foOf tghS tghF) := fo_of orcM2_ok Try.func96 (by kernel_rfl) (by kernel_rfl) (fun e => by kernel_rfl) fun e _ => ⟨[], by rw [tgh_ev]⟩
def orcM3 : Orc := oadd orcM2 96 (foOf tghS tghF)
theorem orcM3_ok : OrcOk Try.prog orcM3 := oadd_ok orcM2_ok tgh_ok

/-! ## Mul, Square, Times -/
def zE : Value := ints [0, 0, 0, 0, 0]
def wz : Value := .agg #[.int .u64 0, .int .u64 0]
/-- five wide numbers in a row -/
def five (a b c d e : Value) : Value := .agg #[.int .u64 (lim a 0), .int .u64 (lim a 1), .int .u64 (lim b 0), .int .u64 (lim b 1), .int .u64 (lim c 0), .int .u64 (lim c 1), .int .u64 (lim d 0), .int .u64 (lim d 1), .int .u64 (lim e 0), .int .u64 (lim e 1)]
def x19 (x : Value) (i : Nat) : Int := w64 (19 * lim x i)
def x2 (x : Value) (i : Nat) : Int := w64 (lim x i * 2)
def mW01 (x y : Value) : Value := wadd wz (lim x 0) (lim y 0)
def mW02 (x y : Value) : Value := wadd (mW01 x y) (x19 x 1) (lim y 4)
def mW03 (x y : Value) : Value := wadd (mW02 x y) (x19 x 2) (lim y 3)
def mW04 (x y : Value) : Value := wadd (mW03 x y) (x19 x 3) (lim y 2)
def mW05 (x y : Value) : Value := wadd (mW04 x y) (x19 x 4) (lim y 1)
def mW11 (x y : Value) : Value := wadd wz (lim x 0) (lim y 1)
def mW12 (x y : Value) : Value := wadd (mW11 x y) (lim x 1) (lim y 0)
def mW13 (x y : Value) : Value := wadd (mW12 x y) (x19 x 2) (lim y 4)
def mW14 (x y : Value) : Value := wadd (mW13 x y) (x19 x 3) (lim y 3)
def mW15 (x y : Value) : Value := wadd (mW14 x y) (x19 x 4) (lim y 2)
def mW21 (x y : Value) : Value := wadd wz (lim x 0) (lim y 2)
def mW22 (x y : Value) : Value := wadd (mW21 x y) (lim x 1) (lim y 1)
def mW23 (x y : Value) : Value := wadd (mW22 x y) (lim x 2) (lim y 0)
def mW24 (x y : Value) : Value := wadd (mW23 x y) (x19 x 3) (lim y 4)
def mW25 (x y : Value) : Value := wadd (mW24 x y) (x19 x 4) (lim y 3)
def mW31 (x y : Value) : Value := wadd wz (lim x 0) (lim y 3)
def mW32 (x y : Value) : Value := wadd (mW31 x y) (lim x 1) (lim y 2)
def mW33 (x y : Value) : Value := wadd (mW32 x y) (lim x 2) (lim y 1)
def mW34 (x y : Value) : Value := wadd (mW33 x y) (lim x 3) (lim y 0)
def mW35 (x y : Value) : Value := wadd (mW34 x y) (x19 x 4) (lim y 4)
def mW41 (x y : Value) : Value := wadd wz (lim x 0) (lim y 4)
def mW42 (x y : Value) : Value := wadd (mW41 x y) (lim x 1) (lim y 3)
def mW43 (x y : Value) : Value := wadd (mW42 x y) (lim x 2) (lim y 2)
def mW44 (x y : Value) : Value := wadd (mW43 x y) (lim x 3) (lim y 1)
def mW45 (x y : Value) : Value := wadd (mW44 x y) (lim x 4) (lim y 0)
def mOk (x y : Value) (p : Prop) : Prop := waOk wz (lim x 0) (lim y 0) = true ∧ waOk wz (lim x 0) (lim y 1) = true ∧ waOk wz (lim x 0) (lim y 2) = true ∧ waOk wz (lim x 0) (lim y 3) = true ∧ waOk wz (lim x 0) (lim y 4) = true ∧ waOk (mW11 x y) (lim x 1) (lim y 0) = true ∧ waOk (mW21 x y) (lim x 1) (lim y 1) = true ∧ waOk (mW31 x y) (lim x 1) (lim y 2) = true ∧ waOk (mW41 x y) (lim x 1) (lim y 3) = true ∧ waOk (mW01 x y) (x19 x 1) (lim y 4) = true ∧ waOk (mW22 x y) (lim x 2) (lim y 0) = true ∧ waOk (mW32 x y) (lim x 2) (lim y 1) = true ∧ waOk (mW42 x y) (lim x 2) (lim y 2) = true ∧ waOk (mW02 x y) (x19 x 2) (lim y 3) = true ∧ waOk (mW12 x y) (x19 x 2) (lim y 4) = true ∧ waOk (mW33 x y) (lim x 3) (lim y 0) = true ∧ waOk (mW43 x y) (lim x 3) (lim y 1) = true ∧ waOk (mW03 x y) (x19 x 3) (lim y 2) = true ∧ waOk (mW13 x y) (x19 x 3) (lim y 3) = true ∧ waOk (mW23 x y) (x19 x 3) (lim y 4) = true ∧ waOk (mW44 x y) (lim x 4) (lim y 0) = true ∧ waOk (mW04 x y) (x19 x 4) (lim y 1) = true ∧ waOk (mW14 x y) (x19 x 4) (lim y 2) = true ∧ waOk (mW24 x y) (x19 x 4) (lim y 3) = true ∧ waOk (mW34 x y) (x19 x 4) (lim y 4) = true ∧ p
def mW (x y : Value) : Value := five (mW05 x y) (mW15 x y) (mW25 x y) (mW35 x y) (mW45 x y)
def sW01 (x : Value) : Value := wadd wz (lim x 0) (lim x 0)
def sW02 (x : Value) : Value := wadd (sW01 x) (x19 x 1) (x2 x 4)
def sW03 (x : Value) : Value := wadd (sW02 x) (x19 x 2) (x2 x 3)
def sW11 (x : Value) : Value := wadd wz (lim x 0) (x2 x 1)
def sW12 (x : Value) : Value := wadd (sW11 x) (x19 x 2) (x2 x 4)
def sW13 (x : Value) : Value := wadd (sW12 x) (x19 x 3) (lim x 3)
def sW21 (x : Value) : Value := wadd wz (lim x 0) (x2 x 2)
def sW22 (x : Value) : Value := wadd (sW21 x) (lim x 1) (lim x 1)
def sW23 (x : Value) : Value := wadd (sW22 x) (x19 x 3) (x2 x 4)
def sW31 (x : Value) : Value := wadd wz (lim x 0) (x2 x 3)
def sW32 (x : Value) : Value := wadd (sW31 x) (lim x 1) (x2 x 2)
def sW33 (x : Value) : Value := wadd (sW32 x) (x19 x 4) (lim x 4)
def sW41 (x : Value) : Value := wadd wz (lim x 0) (x2 x 4)
def sW42 (x : Value) : Value := wadd (sW41 x) (lim x 1) (x2 x 3)
def sW43 (x : Value) : Value := wadd (sW42 x) (lim x 2) (lim x 2)
def sOk (x : Value) (p : Prop) : Prop := waOk wz (lim x 0) (lim x 0) = true ∧ waOk wz (lim x 0) (x2 x 1) = true ∧ waOk wz (lim x 0) (x2 x 2) = true ∧ waOk wz (lim x 0) (x2 x 3) = true ∧ waOk wz (lim x 0) (x2 x 4) = true ∧ waOk (sW21 x) (lim x 1) (lim x 1) = true ∧ waOk (sW31 x) (lim x 1) (x2 x 2) = true ∧ waOk (sW41 x) (lim x 1) (x2 x 3) = true ∧ waOk (sW01 x) (x19 x 1) (x2 x 4) = true ∧ waOk (sW42 x) (lim x 2) (lim x 2) = true ∧ waOk (sW02 x) (x19 x 2) (x2 x 3) = true ∧ waOk (sW11 x) (x19 x 2) (x2 x 4) = true ∧ waOk (sW12 x) (x19 x 3) (lim x 3) = true ∧ waOk (sW22 x) (x19 x 3) (x2 x 4) = true ∧ waOk (sW32 x) (x19 x 4) (lim x 4) = true ∧ p
def sW (x : Value) : Value := five (sW03 x) (sW13 x) (sW23 x) (sW33 x) (sW43 x)
def tW (x : Value) (n : Int) : Value := five (wadd wz (lim x 0) n) (wadd wz (lim x 1) n) (wadd wz (lim x 2) n) (wadd wz (lim x 3) n) (wadd wz (lim x 4) n)
def tOk (x : Value) (n : Int) (p : Prop) : Prop := waOk wz (lim x 0) n = true ∧ waOk wz (lim x 1) n = true ∧ waOk wz (lim x 2) n = true ∧ waOk wz (lim x 3) n = true ∧ waOk wz (lim x 4) n = true ∧ p
def mulV (x y : Value) : Value := tghV (mW (addV x zE) (addV y zE))
def sqV (x : Value) : Value := tghV (sW (addV x zE))
def timesV (x n : Value) : Value := tghV (tW x (w64 (intV n)))
/-- what the operations ask: no wide number runs over -/
def allOk (l : List Bool) : Bool := l.all id
def mulF (a : List Value) : Bool × Value := (true, mulV (getD a 0) (getD a 1))
def sqF (a : List Value) : Bool × Value := (true, sqV (getD a 0))
def timesS : List Sh := [.arr .u64 5, .int .u32]
def timesF (a : List Value) : Bool × Value := (true, timesV (getD a 0) (getD a 1))
theorem mulx_ev (e : Env) : evBody tab orcM3 [(40, .ok), (55, .ok)] [] [] 1000 Try.f54 (bodyOf Try.f54) (mkA elS2 e 0) [] 0 [] (fun r => r = (mulF (mkA elS2 e 0)).2) = mOk (addV (a0 e elS2 0) zE) (addV (a0 e elS2 1) zE) ((mulF (mkA elS2 e 0)).2 = (mulF (mkA elS2 e 0)).2) := by kernel_rfl
theorem sq_ev (e : Env) : evBody tab orcM3 [(43, .ok), (58, .ok)] [] [] 1000 Try.f55 (bodyOf Try.f55) (mkA elS e 0) [] 0 [] (fun r => r = (sqF (mkA elS e 0)).2) = sOk (addV (a0 e elS 0) zE) ((sqF (mkA elS e 0)).2 = (sqF (mkA elS e 0)).2) := by kernel_rfl
theorem times_ev (e : Env) : evBody tab orcM3 [(18, .ok)] [] [] 1000 Try.f56 (bodyOf Try.f56) (mkA timesS e 0) [] 0 [] (fun r => r = (timesF (mkA timesS e 0)).2) = tOk (a0 e timesS 0) (w64 (intV (a0 e timesS 1))) ((timesF (mkA timesS e 0)).2 = (timesF (mkA timesS e 0)).2) := by kernel_rfl

/-! ## No wide number runs over -/
theorem sLo_range (x y c : Int) : 0 ≤ sLo x y c ∧ sLo x y c < 18446744073709551616 := by
  show 0 ≤ (((x.toNat + y.toNat + c.toNat) % 18446744073709551616 : Nat) : Int) ∧ (((x.toNat + y.toNat + c.toNat) % 18446744073709551616 : Nat) : Int) < _
  omega
theorem waOk_of {w : Value} (h : lim w 1 < 18446744073709551616) (a b : Int) : waOk w a b = true := by
  have h1 := w64_range (a * b)
  unfold waOk waC sHi
  generalize w64 (a * b) = z at *
  refine decide_eq_true ?_
  show (z.toNat + (lim w 1).toNat + (0 : Int).toNat) / 18446744073709551616 ≤ 1
  have e : (0 : Int).toNat = 0 := rfl
  omega
theorem waOk_wz (a b : Int) : waOk wz a b = true := waOk_of (w := wz) (by show (0 : Int) < 18446744073709551616; decide) a b
theorem waOk_add (w : Value) (c d a b : Int) : waOk (wadd w c d) a b = true := by
  have h : lim (wadd w c d) 1 = sLo (w64 (c * d)) (lim w 1) 0 := rfl
  exact waOk_of (by rw [h]; exact (sLo_range _ _ _).2) a b
theorem mOk_all (x y : Value) {p : Prop} (h : p) : mOk x y p := ⟨waOk_wz _ _, waOk_wz _ _, waOk_wz _ _, waOk_wz _ _, waOk_wz _ _, waOk_add _ _ _ _ _, waOk_add _ _ _ _ _, waOk_add _ _ _ _ _, waOk_add _ _ _ _ _, waOk_add _ _ _ _ _, waOk_add _ _ _ _ _, waOk_add _ _ _ _ _, waOk_add _ _ _ _ _, waOk_add _ _ _ _ _, waOk_add _ _ _ _ _, waOk_add _ _ _ _ _, waOk_add _ _ _ _ _, waOk_add _ _ _ _ _, waOk_add _ _ _ _ _, waOk_add _ _ _ _ _, waOk_add _ _ _ _ _, waOk_add _ _ _ _ _, waOk_add _ _ _ _ _, waOk_add _ _ _ _ _, waOk_add _ _ _ _ _, h⟩
theorem sOk_all (x : Value) {p : Prop} (h : p) : sOk x p := ⟨waOk_wz _ _, waOk_wz _ _, waOk_wz _ _, waOk_wz _ _, waOk_wz _ _, waOk_add _ _ _ _ _, waOk_add _ _ _ _ _, waOk_add _ _ _ _ _, waOk_add _ _ _ _ _, waOk_add _ _ _ _ _, waOk_add _ _ _ _ _, waOk_add _ _ _ _ _, waOk_add _ _ _ _ _, waOk_add _ _ _ _ _, waOk_add _ _ _ _ _, h⟩
theorem tOk_all (x : Value) (n : Int) {p : Prop} (h : p) : tOk x n p := ⟨waOk_wz _ _, waOk_wz _ _, waOk_wz _ _, waOk_wz _ _, waOk_wz _ _, h⟩
theorem mulx_ok : FoOk 54 (foOf elS2 mulF) := fo_of orcM3_ok Try.func54 (by kernel_rfl) (by kernel_rfl) (fun e => by kernel_rfl) fun e _ => ⟨[], by rw [mulx_ev]; exact mOk_all _ _ rfl⟩
theorem sq_ok : FoOk 55 (foOf elS sqF) := fo_of orcM3_ok Try.func55 (by kernel_rfl) (by kernel_rfl) (fun e => by kernel_rfl) fun e _ => ⟨[], by rw [sq_ev]; exact sOk_all _ rfl⟩
theorem times_ok : FoOk 56 (foOf timesS timesF) := fo_of orcM3_ok Try.func56 (by kernel_rfl) (by kernel_rfl) (fun e => by kernel_rfl) fun e _ => ⟨[], by rw [times_ev]; exact tOk_all _ _ rfl⟩
def orcM4 : Orc := oadd orcM3 54 (foOf elS2 mulF)
theorem orcM4_ok : OrcOk Try.prog orcM4 := oadd_ok orcM3_ok mulx_ok
def orcM5 : Orc := oadd orcM4 55 (foOf elS sqF)
theorem orcM5_ok : OrcOk Try.prog orcM5 := oadd_ok orcM4_ok sq_ok
def orcM6 : Orc := oadd orcM5 56 (foOf timesS timesF)
theorem orcM6_ok : OrcOk Try.prog orcM6 := oadd_ok orcM5_ok times_ok
end Go.Proofs.Ythgefjgbkhkmgaa.Ev
