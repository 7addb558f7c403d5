/-
  The chapter's examples of layer 1, walked: what they call is run at these very arguments.
-/
import Derived.Test.YthgefjgbkhkmgaaDoorCt
namespace Go.Proofs.YthgefjgbkhkmgaaDoor.Ev
open Go Go.RowKit

/-! ## digit, Hex -/
def digC (n : Int) : Int := IntKind.i64.wrap (IntKind.i64.wrap n - 10)
def digI (n : Int) : Int := IntKind.u8.wrap (IntKind.i64.wrap (IntKind.i64.wrap (97 + digC n) - IntKind.i64.wrap ((BitVec.ofInt 64 ((digC n).fdiv (2 ^ 8)) &&& BitVec.ofInt 64 39).toNat : Int)))
def digS : List Sh := [.int .u8]
def digF (a : List Value) : Bool × Value := (true, .int .u8 (digI (intV (getD a 0))))
theorem dig_ev (e : Env) : evBody tab orc0 [] [] [] 1000 Tryd.f13 (bodyOf Tryd.f13) (mkA digS e 0) [] 0 [] (fun r => r = (digF (mkA digS e 0)).2) = ((digF (mkA digS e 0)).2 = (digF (mkA digS e 0)).2) := by kernel_rfl
theorem dig_ok : FoOk 13 (foOf digS digF) := fo_of orc0_ok Tryd.func13 (by kernel_rfl) (by kernel_rfl) (fun e => by kernel_rfl) fun e _ => ⟨[], by rw [dig_ev]⟩
def orcH : Orc := oadd orc1 13 (foOf digS digF)
theorem orcH_ok : OrcOk Tryd.prog orcH := oadd_ok orc1_ok dig_ok

def hexL : List Value → List Value
  | .int _ x :: r => .int .u8 (digI (x.fdiv (2 ^ 4))) :: .int .u8 (digI (band x 15)) :: hexL r
  | _ => []
def hexS : List Sh := [.arr .u8 32]
def hexF (a : List Value) : Bool × Value := (true, .string ⟨((hexL (cellsV (getD a 0))).map byteOf).toArray⟩)
theorem hex_ev (e : Env) : evBody tab orcH [] [] [] 1000 Tryd.f6 (bodyOf Tryd.f6) (mkA hexS e 0) [] 0 [] (fun r => r = (hexF (mkA hexS e 0)).2) = ((hexF (mkA hexS e 0)).2 = (hexF (mkA hexS e 0)).2) := by kernel_rfl
theorem hex_ok : FoOk 6 (foOf hexS hexF) := fo_of orcH_ok Tryd.func6 (by kernel_rfl) (by kernel_rfl) (fun e => by kernel_rfl) fun e _ => ⟨[], by rw [hex_ev]⟩
def orc3 : Orc := oadd orcH 6 (foOf hexS hexF)
theorem orc3_ok : OrcOk Tryd.prog orc3 := oadd_ok orcH_ok hex_ok

/-! ## bits.Mul64, bits.Mul -/
def and64 (x y : Int) : Int := IntKind.u64.wrap ((BitVec.ofInt 64 x &&& BitVec.ofInt 64 y).toNat : Int)
def w64 (x : Int) : Int := IntKind.u64.wrap x
def mulHi (x y : Int) : Int :=
  let x0 := and64 x 4294967295
  let x1 := x.fdiv (2 ^ 32)
  let y0 := and64 y 4294967295
  let y1 := y.fdiv (2 ^ 32)
  let w0 := w64 (x0 * y0)
  let t := w64 (w64 (x1 * y0) + w0.fdiv (2 ^ 32))
  let w1 := w64 (and64 t 4294967295 + w64 (x0 * y1))
  w64 (w64 (w64 (x1 * y1) + t.fdiv (2 ^ 32)) + w1.fdiv (2 ^ 32))
def mul64S : List Sh := [.int .u64, .int .u64]
def mul64F (a : List Value) : Bool × Value := (true, .tuple #[.int .u64 (mulHi (intV (getD a 0)) (intV (getD a 1))), .int .u64 (w64 (intV (getD a 0) * intV (getD a 1)))])
theorem mul64_ev (e : Env) : evBody tab orc0 [] [] [] 1000 Tryd.f32 (bodyOf Tryd.f32) (mkA mul64S e 0) [] 0 [] (fun r => r = (mul64F (mkA mul64S e 0)).2) = ((mul64F (mkA mul64S e 0)).2 = (mul64F (mkA mul64S e 0)).2) := by kernel_rfl
theorem mul64_ok : FoOk 32 (foOf mul64S mul64F) := fo_of orc0_ok Tryd.func32 (by kernel_rfl) (by kernel_rfl) (fun e => by kernel_rfl) fun e _ => ⟨[], by rw [mul64_ev]⟩
def orcB : Orc := oadd orc3 32 (foOf mul64S mul64F)
theorem orcB_ok : OrcOk Tryd.prog orcB := oadd_ok orc3_ok mul64_ok
theorem mul_ev (e : Env) : evBody tab orcB [] [] [] 1000 Tryd.f21 (bodyOf Tryd.f21) (mkA mul64S e 0) [] 0 [] (fun r => r = (mul64F (mkA mul64S e 0)).2) = ((mul64F (mkA mul64S e 0)).2 = (mul64F (mkA mul64S e 0)).2) := by kernel_rfl
theorem mul_ok : FoOk 21 (foOf mul64S mul64F) := fo_of orcB_ok Tryd.func21 (by kernel_rfl) (by kernel_rfl) (fun e => by kernel_rfl) fun e _ => ⟨[], by rw [mul_ev]⟩
def orc4 : Orc := oadd orcB 21 (foOf mul64S mul64F)
theorem orc4_ok : OrcOk Tryd.prog orc4 := oadd_ok orcB_ok mul_ok

/-! ## Calls at one closed row of arguments -/
def strIs (v : Value) (l : List UInt8) : Bool := match v with
  | .string s => s.data.toList == l
  | _ => false
def i64Is (v : Value) (n : Int) : Bool := match v with
  | .int .i64 x => x == n
  | _ => false
theorem strIs_eq {v : Value} {l : List UInt8} (h : strIs v l = true) : v = .string ⟨l.toArray⟩ := by
  cases v with
  | string s =>
    simp only [strIs, beq_iff_eq] at h
    subst h
    rfl
  | _ => cases h
theorem i64Is_eq {v : Value} {n : Int} (h : i64Is v n = true) : v = .int .i64 n := by
  unfold i64Is at h
  split at h
  · rw [beq_iff_eq] at h; subst h; rfl
  · cases h

def reps (n : Nat) (b : UInt8) : List UInt8 := match n with
  | 0 => []
  | n + 1 => b :: reps n b
def s0 : Value := .string ⟨(reps 1 48).toArray⟩
def s64 : Value := .string ⟨(reps 64 48).toArray⟩

def sR (n : Nat) (b : UInt8) : Value := .string ⟨(reps n b).toArray⟩
def hpO : Fo
  | [x, y] => match strIs y (reps 1 48) with
    | true => match strIs x (reps 64 48) with
      | true => some (true, .bool true)
      | false => match strIs x (reps 128 32) with
        | true => some (true, .bool false)
        | false => match strIs x (reps 128 45) with
          | true => some (true, .bool false)
          | false => none
    | false => none
  | _ => none
theorem hpO_inv {args : List Value} {c : Bool} {v : Value} (h : hpO args = some (c, v)) : (args = [sR 64 48, s0] ∧ v = .bool true) ∨ (args = [sR 128 32, s0] ∧ v = .bool false) ∨ (args = [sR 128 45, s0] ∧ v = .bool false) := by
  unfold hpO at h
  split at h
  · split at h
    · rename_i hy
      rw [strIs_eq hy]
      split at h
      · rename_i hx
        cases h
        rw [strIs_eq hx]
        exact Or.inl ⟨rfl, rfl⟩
      · split at h
        · rename_i hx
          cases h
          rw [strIs_eq hx]
          exact Or.inr (Or.inl ⟨rfl, rfl⟩)
        · split at h
          · rename_i hx
            cases h
            rw [strIs_eq hx]
            exact Or.inr (Or.inr ⟨rfl, rfl⟩)
          · cases h
    · cases h
  · cases h
theorem hp114_ev1 : evBody tab orc0 [] [] [] 1000 Tryd.f33 (bodyOf Tryd.f33) [sR 64 48, s0] [] 0 [] (fun r => r = .bool true) = (Value.bool true = .bool true) := by kernel_rfl
theorem hp114_ev2 : evBody tab orc0 [] [] [] 1000 Tryd.f33 (bodyOf Tryd.f33) [sR 128 32, s0] [] 0 [] (fun r => r = .bool false) = (Value.bool false = .bool false) := by kernel_rfl
theorem hp114_ev3 : evBody tab orc0 [] [] [] 1000 Tryd.f33 (bodyOf Tryd.f33) [sR 128 45, s0] [] 0 [] (fun r => r = .bool false) = (Value.bool false = .bool false) := by kernel_rfl
theorem hp114_ok : FoOk 33 hpO := ⟨⟨Tryd.f33, Tryd.func33, by kernel_rfl, by kernel_rfl⟩, fun args c v h _ => by
  rcases hpO_inv h with ⟨rfl, rfl⟩ | ⟨rfl, rfl⟩ | ⟨rfl, rfl⟩
  · exact ⟨rfl, trivial, fo_ctr orc0_ok Tryd.func33 (c := bodyOf Tryd.f33) (by kernel_rfl) rfl (by rw [hp114_ev1])⟩
  · exact ⟨rfl, trivial, fo_ctr orc0_ok Tryd.func33 (c := bodyOf Tryd.f33) (by kernel_rfl) rfl (by rw [hp114_ev2])⟩
  · exact ⟨rfl, trivial, fo_ctr orc0_ok Tryd.func33 (c := bodyOf Tryd.f33) (by kernel_rfl) rfl (by rw [hp114_ev3])⟩⟩
def orcP : Orc := oadd orc4 33 hpO
theorem orcP_ok : OrcOk Tryd.prog orcP := oadd_ok orc4_ok hp114_ok
theorem hp105_ev1 : evBody tab orcP [] [] [] 1000 Tryd.f22 (bodyOf Tryd.f22) [sR 64 48, s0] [] 0 [] (fun r => r = .bool true) = (Value.bool true = .bool true) := by kernel_rfl
theorem hp105_ev2 : evBody tab orcP [] [] [] 1000 Tryd.f22 (bodyOf Tryd.f22) [sR 128 32, s0] [] 0 [] (fun r => r = .bool false) = (Value.bool false = .bool false) := by kernel_rfl
theorem hp105_ev3 : evBody tab orcP [] [] [] 1000 Tryd.f22 (bodyOf Tryd.f22) [sR 128 45, s0] [] 0 [] (fun r => r = .bool false) = (Value.bool false = .bool false) := by kernel_rfl
theorem hp105_ok : FoOk 22 hpO := ⟨⟨Tryd.f22, Tryd.func22, by kernel_rfl, by kernel_rfl⟩, fun args c v h _ => by
  rcases hpO_inv h with ⟨rfl, rfl⟩ | ⟨rfl, rfl⟩ | ⟨rfl, rfl⟩
  · exact ⟨rfl, trivial, fo_ctr orcP_ok Tryd.func22 (c := bodyOf Tryd.f22) (by kernel_rfl) rfl (by rw [hp105_ev1])⟩
  · exact ⟨rfl, trivial, fo_ctr orcP_ok Tryd.func22 (c := bodyOf Tryd.f22) (by kernel_rfl) rfl (by rw [hp105_ev2])⟩
  · exact ⟨rfl, trivial, fo_ctr orcP_ok Tryd.func22 (c := bodyOf Tryd.f22) (by kernel_rfl) rfl (by rw [hp105_ev3])⟩⟩
def orc5 : Orc := oadd orcP 22 hpO
theorem orc5_ok : OrcOk Tryd.prog orc5 := oadd_ok orcP_ok hp105_ok

def repO : Fo
  | [x, y] => match strIs x (reps 1 48) && i64Is y 64 with
    | true => some (true, s64)
    | false => none
  | _ => none
theorem rep_ev : evBody tab orc5 [] [] [] 1000 Tryd.f11 (bodyOf Tryd.f11) [s0, .int .i64 64] [] 0 [] (fun r => r = s64) = (s64 = s64) := by kernel_rfl
theorem rep_ok : FoOk 11 repO := ⟨⟨Tryd.f11, Tryd.func11, by kernel_rfl, by kernel_rfl⟩, fun args c v h _ => by
  unfold repO at h
  split at h
  · split at h
    · rename_i hb
      rw [Bool.and_eq_true] at hb
      cases h
      rw [strIs_eq hb.1, i64Is_eq hb.2]
      exact ⟨rfl, trivial, fo_ctr orc5_ok Tryd.func11 (c := bodyOf Tryd.f11) (by kernel_rfl) rfl (by rw [show (Value.string ⟨(reps 1 48).toArray⟩) = s0 from rfl, rep_ev])⟩
    · cases h
  · cases h⟩
def orc6 : Orc := oadd orc5 11 repO
theorem orc6_ok : OrcOk Tryd.prog orc6 := oadd_ok orc5_ok rep_ok

/-- what answers true -/
def trueF (_ : List Value) : Bool × Value := (true, .bool true)
theorem awake1_ev (e : Env) : evBody tab orc6 [] [] [] 1000 Tryd.f4 (bodyOf Tryd.f4) (mkA [] e 0) [] 0 [] (fun r => r = (trueF (mkA [] e 0)).2) = (Value.bool true = .bool true) := by kernel_rfl
theorem awake1_ok : FoOk 4 (foOf [] trueF) := fo_of orc6_ok Tryd.func4 (by kernel_rfl) (by kernel_rfl) (fun e => by kernel_rfl) fun e _ => ⟨[], by rw [awake1_ev]⟩
def orc7 : Orc := oadd orc6 4 (foOf [] trueF)
theorem orc7_ok : OrcOk Tryd.prog orc7 := oadd_ok orc6_ok awake1_ok
end Go.Proofs.YthgefjgbkhkmgaaDoor.Ev
