/-
  Layer 4 walked: Swap, Equal, Zero, repeat, Invert, Power.
-/
import Derived.Test.YthgefjgbkhkmgaaDefs
namespace Go.Proofs.Ythgefjgbkhkmgaa.Ev
open Go Go.RowKit
attribute [local irreducible] evC evBody

/-- a loop of so many rounds, each written out -/
theorem lo_count {orc : Orc} {sy : Sy} {br : List Nat} (hO : OrcOk Try.prog orc) {id : Nat} {b : Code} (T : Nat → AS) (m : Nat) (hlow : ∀ n, low (T n) = true)
    (round : ∀ n, n < m → ∃ sc fuel, evC tab orc sy br [] fuel b (fun e _ s' => match e with | .normal => leS (T (n + 1)) s' | _ => False) sc (T n))
    (last : ∃ sc fuel, evC tab orc sy br [] fuel b (fun e _ s' => match e with | .exit j => (match Nat.beq j id with | true => leS (T m) s' | false => False) | _ => False) sc (T m)) :
    LoOk Try.prog [(id, ⟨.loop b, T 0, .normal, T m⟩)] := by
  intro id' L h
  simp only [loGet] at h
  split at h
  · rename_i hid
    have := Nat.eq_of_beq_eq_true hid
    subst this
    cases h
    refine ⟨hlow _, hlow _, ?_⟩
    let S : {n : Nat // n ≤ m} → AS := fun n => T n.1
    have := lo_of (id := id) (b := b) (ex := .normal) (post := T m) S (fun n => m - n.1) (x := ⟨0, Nat.zero_le _⟩) (fun _ => hlow _) ?_
    · exact this
    · rintro ⟨n, hn⟩
      rcases Nat.lt_or_ge n m with hlt | hge
      · obtain ⟨sc, fuel, hr⟩ := round n hlt
        refine (tri_ev hO loOk_nil hr).mono ?_
        intro e s' h
        cases e with
        | normal => exact ⟨⟨n + 1, hlt⟩, by show m - (n + 1) < m - n; omega, h⟩
        | _ => exact h.elim
      · have hn' : n = m := by omega
        subst hn'
        obtain ⟨sc, fuel, hl⟩ := last
        refine (tri_ev hO loOk_nil hl).mono ?_
        intro e s' h
        cases e with
        | exit j =>
          simp only at h ⊢
          split at h
          · rename_i hj
            have := Nat.eq_of_beq_eq_true hj
            subst this
            exact ⟨by simp, h⟩
          · exact h.elim
        | _ => exact h.elim
  · cases h
theorem leS_refl' {s : AS} (h : leH s.h s.h) : leS s s := ⟨leT_refl _, h⟩

/-! ## Swap, Equal, Zero -/
def swS : List Sh := [.int .i64, .arr .u64 5, .arr .u64 5]
def swF (a : List Value) : Bool × Value := (true, .tuple #[swA (maskI (intV (getD a 0))) (getD a 1) (getD a 2), swB (maskI (intV (getD a 0))) (getD a 1) (getD a 2)])
theorem sw_ev (e : Env) : evBody tab orc0 [] [] [] 1000 Try.f66 (bodyOf Try.f66) (mkA swS e 0) [] 0 [] (fun r => r = (swF (mkA swS e 0)).2) = ((swF (mkA swS e 0)).2 = (swF (mkA swS e 0)).2) := by kernel_rfl
theorem sw_ok : FoOk 66 (foOf swS swF) := fo_of orc0_ok Try.func66 (by kernel_rfl) (by kernel_rfl) (fun e => by kernel_rfl) fun e _ => ⟨[], by rw [sw_ev]⟩
def orcI0 : Orc := oadd orcM6 66 (foOf swS swF)
theorem orcI0_ok : OrcOk Try.prog orcI0 := oadd_ok orcM6_ok sw_ok
def eqF (a : List Value) : Bool × Value := (true, .bool (sameB (keyV (getD a 0)) (keyV (getD a 1))))
theorem eq63_ev (e : Env) : evBody tab orcI0 [] [] [] 1000 Try.f63 (bodyOf Try.f63) (mkA elS2 e 0) [] 0 [] (fun r => r = (eqF (mkA elS2 e 0)).2) = ((eqF (mkA elS2 e 0)).2 = (eqF (mkA elS2 e 0)).2) := by kernel_rfl
theorem eq63_ok : FoOk 63 (foOf elS2 eqF) := fo_of orcI0_ok Try.func63 (by kernel_rfl) (by kernel_rfl) (fun e => by kernel_rfl) fun e _ => ⟨[], by rw [eq63_ev]⟩
def orcI1 : Orc := oadd orcI0 63 (foOf elS2 eqF)
theorem orcI1_ok : OrcOk Try.prog orcI1 := oadd_ok orcI0_ok eq63_ok
def zF (a : List Value) : Bool × Value := (true, .bool (sameB (keyV (getD a 0)) zeroK))
theorem z65_ev (e : Env) : evBody tab orcI1 [] [] [] 1000 Try.f65 (bodyOf Try.f65) (mkA elS e 0) [] 0 [] (fun r => r = (zF (mkA elS e 0)).2) = ((zF (mkA elS e 0)).2 = (zF (mkA elS e 0)).2) := by kernel_rfl
theorem z65_ok : FoOk 65 (foOf elS zF) := fo_of orcI1_ok Try.func65 (by kernel_rfl) (by kernel_rfl) (fun e => by kernel_rfl) fun e _ => ⟨[], by rw [z65_ev]⟩
def orcI2 : Orc := oadd orcI1 65 (foOf elS zF)
theorem orcI2_ok : OrcOk Try.prog orcI2 := oadd_ok orcI1_ok z65_ok

/-! ## repeat -/
noncomputable def f98l : Code := inB (blockIn 0 (bodyOf Try.f98))
def repPre (n : Int) (o : Value) (c : Int) : AS := ⟨tmps [(2, ptr 0), (4, ptr 1), (5, .int .i64 n), (6, .int .i64 c)] 12 0,
  [(0, ⟨cellsV o, 36, true, 0⟩), (1, ⟨zrep 5 (.int .u64 0), 36, true, 0⟩)], 200⟩
theorem rep_round (n c : Int) (f : Nat → Int) : evC tab orcI2 [] [7] [] 100 f98l (fun e _ s' => match e with | .normal => leS (repPre n (sqV (lims f)) (IntKind.i64.wrap (c + 1))) s' | _ => False) [true] (repPre n (lims f) c) =
    (decide (c < n) = true ∧ leS (repPre n (sqV (lims f)) (IntKind.i64.wrap (c + 1))) (repPre n (sqV (lims f)) (IntKind.i64.wrap (c + 1)))) := by kernel_rfl
theorem rep_last (n c : Int) (f : Nat → Int) : evC tab orcI2 [] [7] [] 100 f98l (fun e _ s' => match e with | .exit j => (match Nat.beq j 0 with | true => leS (repPre n (lims f) c) s' | false => False) | _ => False) [false] (repPre n (lims f) c) =
    (decide (c < n) = false ∧ leS (repPre n (lims f) c) (repPre n (lims f) c)) := by kernel_rfl
theorem repPre_refl (n : Int) (o : Value) (c : Int) : leS (repPre n o c) (repPre n o c) := ⟨leT_refl _, rfl, rfl, trivial⟩
theorem repPre_low (n : Int) (o : Value) (c : Int) : low (repPre n o c) = true := by kernel_rfl
def limF (x : Value) : Nat → Int := fun j => lim x j
def repT (x : Value) (n k : Nat) : AS := repPre (Int.ofNat n) (lims (limF (sqN x k))) (Int.ofNat k)
noncomputable def repC (x : Value) (n : Nat) : LoopC := ⟨.loop f98l, repT x n 0, .normal, repT x n n⟩
theorem sqV_lims (x : Value) : sqV (lims (limF x)) = lims (limF (sqV x)) := rfl
theorem wrap_i64_nat {k : Nat} (h : k < 1000000) : IntKind.i64.wrap (Int.ofNat k + 1) = Int.ofNat (k + 1) := by
  show IntKind.i64.wrap ((k : Int) + 1) = ((k + 1 : Nat) : Int)
  simp [IntKind.wrap, IntKind.bits, IntKind.signed]
  omega
theorem rep_lo (x : Value) (n : Nat) (hn : n < 1000000) : LoOk Try.prog [(0, repC x n)] := by
  refine lo_count (sy := []) (br := [7]) orcI2_ok (repT x n) n (fun k => repPre_low _ _ _) (fun k hk => ⟨[true], 100, ?_⟩) ⟨[false], 100, ?_⟩
  · have h := rep_round (Int.ofNat n) (Int.ofNat k) (limF (sqN x k))
    rw [sqV_lims, wrap_i64_nat (by omega)] at h
    have e : repT x n (k + 1) = repPre (Int.ofNat n) (lims (limF (sqV (sqN x k)))) (Int.ofNat (k + 1)) := rfl
    rw [e]
    exact of_eq' h ⟨decide_eq_true (by show ((k : Int)) < n; omega), repPre_refl _ _ _⟩
  · exact of_eq' (rep_last (Int.ofNat n) (Int.ofNat n) (limF (sqN x n))) ⟨decide_eq_false (by omega), repPre_refl _ _ _⟩
def rep98O : Fo
  | [x, .int .i64 (.ofNat n)] => match fits1 (.arr .u64 5) x && isIn n [2, 5, 10, 20, 50, 100] with
    | true => some (true, rN x n)
    | false => none
  | _ => none
def rep98R (x : Value) (n : Nat) : Prop := Code.loop f98l = Code.loop f98l ∧ leS (repT x n 0) (repT x n 0) ∧ rN x n = rN x n
theorem rep98_ev (f : Nat → Int) : List.map (fun n => evBody tab orcI2 [] [] [(0, repC (lims f) n)] 1000 Try.f98 (bodyOf Try.f98) [lims f, .int .i64 (.ofNat n)] [] 0 [] (fun r => r = rN (lims f) n)) [2, 5, 10, 20, 50, 100] =
    mapL (rep98R (lims f)) [2, 5, 10, 20, 50, 100] := by kernel_rfl
theorem arr_lims (f : Nat → Int) : arrOf .u64 5 f = lims f := rfl
theorem rep98_ok : FoOk 98 rep98O := ⟨⟨Try.f98, Try.func98, by kernel_rfl, by kernel_rfl⟩, fun args c v h _ => by
  unfold rep98O at h
  split at h
  · rename_i x n
    split at h
    · rename_i hb
      rw [Bool.and_eq_true] at hb
      cases h
      obtain ⟨f, b, t, hx⟩ := fits1_mk hb.1
      have hx := hx ⟨fun _ => f, fun _ => b, fun _ => t⟩ 0 rfl rfl rfl
      have hx : x = lims f := hx
      subst hx
      have hm := isIn_mem hb.2
      have hn : n < 1000000 := by
        simp only [List.mem_cons, List.not_mem_nil, or_false] at hm
        omega
      refine ⟨rfl, (okV_ok (v := rN (lims f) n) (by rfl)).2, fo_ctr (orc := orcI2) (sy := []) (br := []) (lo := [(0, repC (lims f) n)]) (fuel := 1000) (sc := []) orcI2_ok Try.func98 (c := bodyOf Try.f98) (by kernel_rfl) rfl ?_ (rep_lo _ n hn)⟩
      exact of_eq' (mapL_eq (rep98_ev f) n hm) ⟨rfl, repPre_refl _ _ _, rfl⟩
    · cases h
  · cases h⟩
def orcI3 : Orc := oadd orcI2 98 rep98O
theorem orcI3_ok : OrcOk Try.prog orcI3 := oadd_ok orcI2_ok rep98_ok

/-! ## Invert -/
theorem nrm_ints (a b c d e : Int) : nrm (ints [a, b, c, d, e]) = ints [a, b, c, d, e] := rfl
theorem nrm_carry (z : Value) : nrm (carryV z) = carryV z := by unfold carryV carryL; exact nrm_ints _ _ _ _ _
theorem nrm_mul (x y : Value) : nrm (mulV x y) = mulV x y := by unfold mulV tghV; exact nrm_carry _
def inv0F (a : List Value) : Bool × Value := (true, invV (getD a 0))
theorem inv_ev (e : Env) : evBody tab orcI3 [] [] [] 1000 Try.f64 (bodyOf Try.f64) (mkA elS e 0) [] 0 [] (fun r => r = (inv0F (mkA elS e 0)).2) = ((inv0F (mkA elS e 0)).2 = (inv0F (mkA elS e 0)).2) := by kernel_rfl
theorem inv0_ok : FoOk 64 (foOf elS inv0F) := fo_of orcI3_ok Try.func64 (by kernel_rfl) (by kernel_rfl) (fun e => by kernel_rfl) fun e _ => ⟨[], by rw [inv_ev]⟩
def invF (a : List Value) : Bool × Value := (true, nrm (invV (getD a 0)))
theorem invF_eq : invF = inv0F := by
  funext a
  unfold invF inv0F invV
  rw [nrm_mul]
theorem inv_ok : FoOk 64 (foOf elS invF) := by rw [invF_eq]; exact inv0_ok
def orcI4 : Orc := oadd orcI3 64 (foOf elS invF)
theorem orcI4_ok : OrcOk Try.prog orcI4 := oadd_ok orcI3_ok inv_ok
end Go.Proofs.Ythgefjgbkhkmgaa.Ev
