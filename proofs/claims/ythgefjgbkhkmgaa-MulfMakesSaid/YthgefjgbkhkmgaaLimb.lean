/-
  Layer 2 walked: word, Of, Small, carry, Add, Sub, Key, to the letter of what they reckon.
-/
import Derived.Test.YthgefjgbkhkmgaaSame
namespace Go.Proofs.Ythgefjgbkhkmgaa.Ev
open Go Go.RowKit
attribute [local irreducible] evC evBody

/-- a cell's number -/
def lim (x : Value) (i : Nat) : Int := intV (getD (cellsV x) i)
def or64 (x y : Int) : Int := IntKind.u64.wrap ((BitVec.ofInt 64 x ||| BitVec.ofInt 64 y).toNat : Int)
def M51 : Int := 2251799813685247
def sh (x : Int) (n : Nat) : Int := x.fdiv (2 ^ n)

/-! ## word -/
def wordI (x : Value) (at' : Nat) : Nat → Int
  | 0 => 0
  | i + 1 => or64 (wordI x at' i) (IntKind.u64.wrap (IntKind.u64.wrap (lim x (at' + i)) * 2 ^ (8 * i)))
def wordAt (x : Value) (at' : Nat) : Value := .int .u64 (wordI x at' 8)
def isIn (n : Nat) : List Nat → Bool
  | [] => false
  | k :: r => match Nat.beq k n with | true => true | false => isIn n r
def wordO : Fo
  | [x, .int .i64 (.ofNat n)] => match fits1 (.arr .u8 32) x && isIn n [0, 6, 12, 19, 24] with
    | true => some (true, wordAt x n)
    | false => none
  | _ => none
theorem word_ev (f : Nat → Int) : List.map (fun n => evBody tab orc0 [] [] [] 1000 Try.f85 (bodyOf Try.f85) [vK f, .int .i64 (.ofNat n)] [] 0 [] (fun r => r = wordAt (vK f) n)) [0, 6, 12, 19, 24] =
    [wordAt (vK f) 0 = wordAt (vK f) 0, wordAt (vK f) 6 = wordAt (vK f) 6, wordAt (vK f) 12 = wordAt (vK f) 12, wordAt (vK f) 19 = wordAt (vK f) 19, wordAt (vK f) 24 = wordAt (vK f) 24] := by kernel_rfl
theorem isIn_mem {n : Nat} : ∀ {l : List Nat}, isIn n l = true → n ∈ l := by
  intro l
  induction l with
  | nil => intro h; cases h
  | cons k r ih =>
    intro h
    unfold isIn at h
    split at h
    · rename_i hb
      rw [Nat.eq_of_beq_eq_true hb]; exact List.mem_cons_self
    · exact List.mem_cons_of_mem _ (ih h)
theorem word_ok : FoOk 85 wordO := ⟨⟨Try.f85, Try.func85, by kernel_rfl, by kernel_rfl⟩, fun args c v h _ => by
  unfold wordO at h
  split at h
  · rename_i x n
    split at h
    · rename_i hb
      rw [Bool.and_eq_true] at hb
      cases h
      obtain ⟨f, b, t, hx⟩ := fits1_mk hb.1
      have hx := hx ⟨fun _ => f, fun _ => b, fun _ => t⟩ 0 rfl rfl rfl
      have hx : x = vK f := hx
      subst hx
      refine ⟨rfl, trivial, fo_ctr (orc := orc0) (sy := []) (br := []) (lo := []) (fuel := 1000) (sc := []) orc0_ok Try.func85 (c := bodyOf Try.f85) (by kernel_rfl) rfl ?_⟩
      have key := word_ev f
      simp only [List.map_cons, List.map_nil, List.cons.injEq, and_true] at key
      obtain ⟨k0, k1, k2, k3, k4⟩ := key
      have hm := isIn_mem hb.2
      simp only [List.mem_cons, List.not_mem_nil, or_false] at hm
      rcases hm with rfl | rfl | rfl | rfl | rfl
      · exact k0.symm ▸ trivial
      · exact k1.symm ▸ trivial
      · exact k2.symm ▸ trivial
      · exact k3.symm ▸ trivial
      · exact k4.symm ▸ trivial
    · cases h
  · cases h⟩
def orc9 : Orc := oadd orcZ 85 wordO
theorem orc9_ok : OrcOk Try.prog orc9 := oadd_ok orcZ_ok word_ok

/-! ## Of, Small -/
def ints (l : List Int) : Value := .agg (l.map fun x => .int .u64 x).toArray
def ofV (k : Value) : Value := ints [and64 (wordI k 0 8) M51, and64 (sh (wordI k 6 8) 3) M51, and64 (sh (wordI k 12 8) 6) M51, and64 (sh (wordI k 19 8) 1) M51, and64 (sh (wordI k 24 8) 12) M51]
def ofF (a : List Value) : Bool × Value := (true, ofV (getD a 0))
theorem of_ev (e : Env) : evBody tab orc9 [] [] [] 1000 Try.f34 (bodyOf Try.f34) (mkA zeroS e 0) [] 0 [] (fun r => r = (ofF (mkA zeroS e 0)).2) = ((ofF (mkA zeroS e 0)).2 = (ofF (mkA zeroS e 0)).2) := by kernel_rfl
theorem of_ok : FoOk 34 (foOf zeroS ofF) := fo_of orc9_ok Try.func34 (by kernel_rfl) (by kernel_rfl) (fun e => by kernel_rfl) fun e _ => ⟨[], by rw [of_ev]⟩
def smallV (n : Value) : Value := ints [IntKind.u64.wrap (intV n), 0, 0, 0, 0]
def smallS : List Sh := [.int .u32]
def smallF (a : List Value) : Bool × Value := (true, smallV (getD a 0))
theorem small_ev (e : Env) : evBody tab orc0 [] [] [] 1000 Try.f37 (bodyOf Try.f37) (mkA smallS e 0) [] 0 [] (fun r => r = (smallF (mkA smallS e 0)).2) = ((smallF (mkA smallS e 0)).2 = (smallF (mkA smallS e 0)).2) := by kernel_rfl
theorem small_ok : FoOk 37 (foOf smallS smallF) := fo_of orc0_ok Try.func37 (by kernel_rfl) (by kernel_rfl) (fun e => by kernel_rfl) fun e _ => ⟨[], by rw [small_ev]⟩

/-! ## carry, Add, Sub -/
def carryL (a b c d e : Int) : List Int := [w64 (and64 a M51 + w64 (19 * sh e 51)), w64 (and64 b M51 + sh a 51), w64 (and64 c M51 + sh b 51), w64 (and64 d M51 + sh c 51), w64 (and64 e M51 + sh d 51)]
def carryV (x : Value) : Value := ints (carryL (lim x 0) (lim x 1) (lim x 2) (lim x 3) (lim x 4))
def elS : List Sh := [.arr .u64 5]
def elS2 : List Sh := [.arr .u64 5, .arr .u64 5]
def carryF (a : List Value) : Bool × Value := (true, carryV (getD a 0))
theorem carry_ev (e : Env) : evBody tab orc0 [] [] [] 1000 Try.f86 (bodyOf Try.f86) (mkA elS e 0) [] 0 [] (fun r => r = (carryF (mkA elS e 0)).2) = ((carryF (mkA elS e 0)).2 = (carryF (mkA elS e 0)).2) := by kernel_rfl
theorem carry_ok : FoOk 86 (foOf elS carryF) := fo_of orc0_ok Try.func86 (by kernel_rfl) (by kernel_rfl) (fun e => by kernel_rfl) fun e _ => ⟨[], by rw [carry_ev]⟩
def orcC : Orc := oadd orc9 86 (foOf elS carryF)
theorem orcC_ok : OrcOk Try.prog orcC := oadd_ok orc9_ok carry_ok

def addV (x y : Value) : Value := carryV (ints [w64 (lim x 0 + lim y 0), w64 (lim x 1 + lim y 1), w64 (lim x 2 + lim y 2), w64 (lim x 3 + lim y 3), w64 (lim x 4 + lim y 4)])
def addF (a : List Value) : Bool × Value := (true, addV (getD a 0) (getD a 1))
theorem add_ev (e : Env) : evBody tab orcC [] [] [] 1000 Try.f45 (bodyOf Try.f45) (mkA elS2 e 0) [] 0 [] (fun r => r = (addF (mkA elS2 e 0)).2) = ((addF (mkA elS2 e 0)).2 = (addF (mkA elS2 e 0)).2) := by kernel_rfl
theorem add_ok : FoOk 45 (foOf elS2 addF) := fo_of orcC_ok Try.func45 (by kernel_rfl) (by kernel_rfl) (fun e => by kernel_rfl) fun e _ => ⟨[], by rw [add_ev]⟩
def subV (x y : Value) : Value := carryV (ints [w64 (lim x 0 + w64 (36028797018963664 - lim y 0)), w64 (lim x 1 + w64 (36028797018963952 - lim y 1)), w64 (lim x 2 + w64 (36028797018963952 - lim y 2)), w64 (lim x 3 + w64 (36028797018963952 - lim y 3)), w64 (lim x 4 + w64 (36028797018963952 - lim y 4))])
def subF (a : List Value) : Bool × Value := (true, subV (getD a 0) (getD a 1))
theorem sub_ev (e : Env) : evBody tab orcC [] [] [] 1000 Try.f36 (bodyOf Try.f36) (mkA elS2 e 0) [] 0 [] (fun r => r = (subF (mkA elS2 e 0)).2) = ((subF (mkA elS2 e 0)).2 = (subF (mkA elS2 e 0)).2) := by kernel_rfl
theorem sub_ok : FoOk 36 (foOf elS2 subF) := fo_of orcC_ok Try.func36 (by kernel_rfl) (by kernel_rfl) (fun e => by kernel_rfl) fun e _ => ⟨[], by rw [sub_ev]⟩

/-! ## Key -/
def redL (a b c d e : Int) : List Int :=
  let q := sh (w64 (e + sh (w64 (d + sh (w64 (c + sh (w64 (b + sh (w64 (a + 19)) 51)) 51)) 51)) 51)) 51
  let e0 := w64 (a + w64 (19 * q))
  let e1 := w64 (b + sh e0 51)
  let e2 := w64 (c + sh e1 51)
  let e3 := w64 (d + sh e2 51)
  let e4 := w64 (e + sh e3 51)
  [and64 e0 M51, and64 e1 M51, and64 e2 M51, and64 e3 M51, and64 e4 M51]
def redV (x : Value) : Value := ints (redL (lim x 0) (lim x 1) (lim x 2) (lim x 3) (lim x 4))
def bitC (r : Value) (i : Nat) : Int := IntKind.u8.wrap (and64 (sh (lim r (i / 51)) (i % 51)) 1)
def byteN (r : Value) (j : Nat) : Nat → Int
  | 0 => 0
  | b + 1 => bor (byteN r j b) (IntKind.u8.wrap (bitC r (8 * j + b) * 2 ^ b))
def bytesN (r : Value) : Nat → Nat → List Value
  | 0, _ => [.int .u8 (byteN r 31 7)]
  | n + 1, j => .int .u8 (byteN r j 8) :: bytesN r n (j + 1)
def keyV (x : Value) : Value := .agg (bytesN (redV (carryV (carryV (carryV x)))) 31 0).toArray
def keyF (a : List Value) : Bool × Value := (true, keyV (getD a 0))

end Go.Proofs.Ythgefjgbkhkmgaa.Ev
