/-
  The document's ladder walked: Step, Times; its keys: Clamp, Raw, Base, Shared, Chain.
-/
import Derived.Test.YthgefjgbkhkmgaaRef3
import Derived.Test.YthgefjgbkhkmgaaDhW
namespace Go.Proofs.Ythgefjgbkhkmgaa.Ev
open Go Go.RowKit
open Sap (F P toF pw)
attribute [local irreducible] evC evBody

/-! ## Step -/
noncomputable def orcU0 : Orc := oadd (oadd (oadd orcT1 51 (foOf numS2 addnF)) 52 (foOf numS2 subnF)) 68 (foOf numS1 invnF)
theorem orcU0_ok : OrcOk Try.prog orcU0 := oadd_ok (oadd_ok (oadd_ok orcT1_ok addn_ok) subn_ok) invn_ok
noncomputable def adN (x y : Value) : Value := vNum (NF x + NF y)
noncomputable def sbN (x y : Value) : Value := vNum (NF x - NF y)
noncomputable def muN (x y : Value) : Value := vNum (NF x * NF y)
def s5S : List Sh := [.arr .i64 16, .arr .i64 16, .arr .i64 16, .arr .i64 16, .arr .i64 16]
noncomputable def s5a (_x x2 z2 _x3 _z3 : Value) : Value := adN x2 z2
noncomputable def s5b (_x x2 z2 _x3 _z3 : Value) : Value := sbN x2 z2
noncomputable def s5c (_x _x2 _z2 x3 z3 : Value) : Value := adN x3 z3
noncomputable def s5d (_x _x2 _z2 x3 z3 : Value) : Value := sbN x3 z3
noncomputable def s5da (x x2 z2 x3 z3 : Value) : Value := muN (s5d x x2 z2 x3 z3) (s5a x x2 z2 x3 z3)
noncomputable def s5cb (x x2 z2 x3 z3 : Value) : Value := muN (s5c x x2 z2 x3 z3) (s5b x x2 z2 x3 z3)
noncomputable def s5aa (x x2 z2 x3 z3 : Value) : Value := muN (s5a x x2 z2 x3 z3) (s5a x x2 z2 x3 z3)
noncomputable def s5bb (x x2 z2 x3 z3 : Value) : Value := muN (s5b x x2 z2 x3 z3) (s5b x x2 z2 x3 z3)
noncomputable def s5e (x x2 z2 x3 z3 : Value) : Value := sbN (s5aa x x2 z2 x3 z3) (s5bb x x2 z2 x3 z3)
noncomputable def s5sum (x x2 z2 x3 z3 : Value) : Value := adN (s5da x x2 z2 x3 z3) (s5cb x x2 z2 x3 z3)
noncomputable def s5dif (x x2 z2 x3 z3 : Value) : Value := sbN (s5da x x2 z2 x3 z3) (s5cb x x2 z2 x3 z3)
noncomputable def s5r1 (x x2 z2 x3 z3 : Value) : Value := muN (s5aa x x2 z2 x3 z3) (s5bb x x2 z2 x3 z3)
noncomputable def s5k (_x _x2 _z2 _x3 _z3 : Value) : Value := vNum (FI 121665)
noncomputable def s5t (x x2 z2 x3 z3 : Value) : Value := muN (s5k x x2 z2 x3 z3) (s5e x x2 z2 x3 z3)
noncomputable def s5u (x x2 z2 x3 z3 : Value) : Value := adN (s5aa x x2 z2 x3 z3) (s5t x x2 z2 x3 z3)
noncomputable def s5r2 (x x2 z2 x3 z3 : Value) : Value := muN (s5e x x2 z2 x3 z3) (s5u x x2 z2 x3 z3)
noncomputable def s5r3 (x x2 z2 x3 z3 : Value) : Value := muN (s5sum x x2 z2 x3 z3) (s5sum x x2 z2 x3 z3)
noncomputable def s5dd (x x2 z2 x3 z3 : Value) : Value := muN (s5dif x x2 z2 x3 z3) (s5dif x x2 z2 x3 z3)
noncomputable def s5r4 (x x2 z2 x3 z3 : Value) : Value := muN x (s5dd x x2 z2 x3 z3)
noncomputable def s5All (x x2 z2 x3 z3 : Value) (p : Prop) : Prop :=
    ifP (can x2 ∧ can z2) = true ∧
    ifP (can x2 ∧ can z2) = true ∧
    ifP (can x3 ∧ can z3) = true ∧
    ifP (can x3 ∧ can z3) = true ∧
    ifP (can (s5d x x2 z2 x3 z3) ∧ can (s5a x x2 z2 x3 z3)) = true ∧
    ifP (can (s5c x x2 z2 x3 z3) ∧ can (s5b x x2 z2 x3 z3)) = true ∧
    ifP (can (s5a x x2 z2 x3 z3) ∧ can (s5a x x2 z2 x3 z3)) = true ∧
    ifP (can (s5b x x2 z2 x3 z3) ∧ can (s5b x x2 z2 x3 z3)) = true ∧
    ifP (can (s5aa x x2 z2 x3 z3) ∧ can (s5bb x x2 z2 x3 z3)) = true ∧
    ifP (can (s5da x x2 z2 x3 z3) ∧ can (s5cb x x2 z2 x3 z3)) = true ∧
    ifP (can (s5da x x2 z2 x3 z3) ∧ can (s5cb x x2 z2 x3 z3)) = true ∧
    ifP (can (s5aa x x2 z2 x3 z3) ∧ can (s5bb x x2 z2 x3 z3)) = true ∧
    ifP ((0 : Int) ≤ 121665 ∧ (121665 : Int) < 4294967296) = true ∧
    ifP (can (s5k x x2 z2 x3 z3) ∧ can (s5e x x2 z2 x3 z3)) = true ∧
    ifP (can (s5aa x x2 z2 x3 z3) ∧ can (s5t x x2 z2 x3 z3)) = true ∧
    ifP (can (s5e x x2 z2 x3 z3) ∧ can (s5u x x2 z2 x3 z3)) = true ∧
    ifP (can (s5sum x x2 z2 x3 z3) ∧ can (s5sum x x2 z2 x3 z3)) = true ∧
    ifP (can (s5dif x x2 z2 x3 z3) ∧ can (s5dif x x2 z2 x3 z3)) = true ∧
    ifP (can x ∧ can (s5dd x x2 z2 x3 z3)) = true ∧ p
noncomputable def s5V (x x2 z2 x3 z3 : Value) : Value := .tuple #[s5r1 x x2 z2 x3 z3, s5r2 x x2 z2 x3 z3, s5r3 x x2 z2 x3 z3, s5r4 x x2 z2 x3 z3]
theorem s5_ev (e : Env) : evBody tab orcU0 [(27, .ok), (30, .ok), (33, .ok), (36, .ok), (39, .ok), (42, .ok), (45, .ok), (48, .ok), (51, .ok), (54, .ok), (57, .ok), (60, .ok), (63, .ok), (65, .ok), (66, .ok), (67, .ok), (70, .ok), (74, .ok), (75, .ok)] [] [] 1000 Try.f74 (bodyOf Try.f74) (mkA s5S e 0) [] 0 [] (fun r => r = s5V (a0 e s5S 0) (a0 e s5S 1) (a0 e s5S 2) (a0 e s5S 3) (a0 e s5S 4)) = s5All (a0 e s5S 0) (a0 e s5S 1) (a0 e s5S 2) (a0 e s5S 3) (a0 e s5S 4) (s5V (a0 e s5S 0) (a0 e s5S 1) (a0 e s5S 2) (a0 e s5S 3) (a0 e s5S 4) = s5V (a0 e s5S 0) (a0 e s5S 1) (a0 e s5S 2) (a0 e s5S 3) (a0 e s5S 4)) := by kernel_rfl
noncomputable def s5L (x x2 z2 x3 z3 : F) : Value := .tuple #[vNum (Sap.lstep x x2 z2 x3 z3).x2, vNum (Sap.lstep x x2 z2 x3 z3).z2, vNum (Sap.lstep x x2 z2 x3 z3).x3, vNum (Sap.lstep x x2 z2 x3 z3).z3]
theorem s5_val (x x2 z2 x3 z3 : Value) : s5V x x2 z2 x3 z3 = s5L (NF x) (NF x2) (NF z2) (NF x3) (NF z3) := by
  have h24 : FI 121665 = Sap.a24 := FI_nat 121665
  have ha : NF (s5a x x2 z2 x3 z3) = NF x2 + NF z2 := NF_vNum _
  have hb : NF (s5b x x2 z2 x3 z3) = NF x2 - NF z2 := NF_vNum _
  have hc : NF (s5c x x2 z2 x3 z3) = NF x3 + NF z3 := NF_vNum _
  have hd : NF (s5d x x2 z2 x3 z3) = NF x3 - NF z3 := NF_vNum _
  have hda : NF (s5da x x2 z2 x3 z3) = NF (s5d x x2 z2 x3 z3) * NF (s5a x x2 z2 x3 z3) := NF_vNum _
  have hcb : NF (s5cb x x2 z2 x3 z3) = NF (s5c x x2 z2 x3 z3) * NF (s5b x x2 z2 x3 z3) := NF_vNum _
  have haa : NF (s5aa x x2 z2 x3 z3) = NF (s5a x x2 z2 x3 z3) * NF (s5a x x2 z2 x3 z3) := NF_vNum _
  have hbb : NF (s5bb x x2 z2 x3 z3) = NF (s5b x x2 z2 x3 z3) * NF (s5b x x2 z2 x3 z3) := NF_vNum _
  have he : NF (s5e x x2 z2 x3 z3) = NF (s5aa x x2 z2 x3 z3) - NF (s5bb x x2 z2 x3 z3) := NF_vNum _
  have hs : NF (s5sum x x2 z2 x3 z3) = NF (s5da x x2 z2 x3 z3) + NF (s5cb x x2 z2 x3 z3) := NF_vNum _
  have hf : NF (s5dif x x2 z2 x3 z3) = NF (s5da x x2 z2 x3 z3) - NF (s5cb x x2 z2 x3 z3) := NF_vNum _
  have hk : NF (s5k x x2 z2 x3 z3) = FI 121665 := NF_vNum _
  have ht : NF (s5t x x2 z2 x3 z3) = NF (s5k x x2 z2 x3 z3) * NF (s5e x x2 z2 x3 z3) := NF_vNum _
  have hu : NF (s5u x x2 z2 x3 z3) = NF (s5aa x x2 z2 x3 z3) + NF (s5t x x2 z2 x3 z3) := NF_vNum _
  have hdd : NF (s5dd x x2 z2 x3 z3) = NF (s5dif x x2 z2 x3 z3) * NF (s5dif x x2 z2 x3 z3) := NF_vNum _
  have r1 : s5r1 x x2 z2 x3 z3 = vNum (Sap.lstep (NF x) (NF x2) (NF z2) (NF x3) (NF z3)).x2 := by
    unfold s5r1 muN
    rw [haa, hbb, ha, hb]; rfl
  have r2 : s5r2 x x2 z2 x3 z3 = vNum (Sap.lstep (NF x) (NF x2) (NF z2) (NF x3) (NF z3)).z2 := by
    unfold s5r2 muN
    rw [hu, ht, hk, he, haa, hbb, ha, hb, h24]; rfl
  have r3 : s5r3 x x2 z2 x3 z3 = vNum (Sap.lstep (NF x) (NF x2) (NF z2) (NF x3) (NF z3)).x3 := by
    unfold s5r3 muN
    rw [hs, hda, hcb, ha, hb, hc, hd]; rfl
  have r4 : s5r4 x x2 z2 x3 z3 = vNum (Sap.lstep (NF x) (NF x2) (NF z2) (NF x3) (NF z3)).z3 := by
    unfold s5r4 muN
    rw [hdd, hf, hda, hcb, ha, hb, hc, hd]; rfl
  unfold s5V s5L
  rw [r1, r2, r3, r4]
noncomputable def s5F (a : List Value) : Bool × Value := (ifP (can (getD a 0) ∧ can (getD a 1) ∧ can (getD a 2) ∧ can (getD a 3) ∧ can (getD a 4)), s5L (NF (getD a 0)) (NF (getD a 1)) (NF (getD a 2)) (NF (getD a 3)) (NF (getD a 4)))
theorem s5_ok : FoOk 74 (foOf s5S s5F) := fo_of' Try.func74 (c := bodyOf Try.f74) (by kernel_rfl) (by kernel_rfl) (fun e => by rfl) fun e hc => by
  have h : can (a0 e s5S 0) ∧ can (a0 e s5S 1) ∧ can (a0 e s5S 2) ∧ can (a0 e s5S 3) ∧ can (a0 e s5S 4) := of_ifP hc
  show ∀ g, Ctr Try.prog 74 (mkA s5S e 0) g (s5L (NF (a0 e s5S 0)) (NF (a0 e s5S 1)) (NF (a0 e s5S 2)) (NF (a0 e s5S 3)) (NF (a0 e s5S 4)))
  rw [← s5_val]
  obtain ⟨c0, c1, c2, c3, c4⟩ := h
  exact fo_ctr orcU0_ok Try.func74 (by kernel_rfl) ids_mk (of_eq' (s5_ev e) ⟨ifP_of ⟨c1, c2⟩, ifP_of ⟨c1, c2⟩, ifP_of ⟨c3, c4⟩, ifP_of ⟨c3, c4⟩, ifP_of ⟨can_vNum _, can_vNum _⟩, ifP_of ⟨can_vNum _, can_vNum _⟩, ifP_of ⟨can_vNum _, can_vNum _⟩, ifP_of ⟨can_vNum _, can_vNum _⟩, ifP_of ⟨can_vNum _, can_vNum _⟩, ifP_of ⟨can_vNum _, can_vNum _⟩, ifP_of ⟨can_vNum _, can_vNum _⟩, ifP_of ⟨can_vNum _, can_vNum _⟩, ifP_of ⟨by decide, by decide⟩, ifP_of ⟨can_vNum _, can_vNum _⟩, ifP_of ⟨can_vNum _, can_vNum _⟩, ifP_of ⟨can_vNum _, can_vNum _⟩, ifP_of ⟨can_vNum _, can_vNum _⟩, ifP_of ⟨can_vNum _, can_vNum _⟩, ifP_of ⟨c0, can_vNum _⟩, rfl⟩)

/-! ## Times -/
noncomputable def orcU1 : Orc := oadd orcU0 74 (foOf s5S s5F)
theorem orcU1_ok : OrcOk Try.prog orcU1 := oadd_ok orcU0_ok s5_ok
noncomputable def f72l : Code := inB (blockIn 0 (bodyOf Try.f72))
def lpPre (k : Value) (x : F) (s : Sap.St) (c : Int) : AS := ⟨tmps [(2, ptr 0), (3, ptr 1), (4, ptr 2), (5, ptr 7), (6, ptr 8), (7, ptr 9), (8, ptr 10), (9, .int .i64 c)] 48 0,
  [(0, ⟨cellsV k, 22, true, 0⟩), (1, ⟨cellsV (vNum x), 45, true, 0⟩), (2, ⟨zrep 16 (.int .i64 0), 45, true, 0⟩), (7, ⟨cellsV (vNum s.x2), 45, true, 0⟩), (8, ⟨cellsV (vNum s.z2), 45, true, 0⟩), (9, ⟨cellsV (vNum s.x3), 45, true, 0⟩), (10, ⟨cellsV (vNum s.z3), 45, true, 0⟩)], 200⟩
def lpA (x x2 z2 x3 z3 : F) : Sap.St := Sap.lstep (NF (vNum x)) (NF (vNum x2)) (NF (vNum z2)) (NF (vNum x3)) (NF (vNum z3))
def lpSt (a b c d : F) : Sap.St := ⟨a, b, c, d⟩
theorem lp_zero (φ : Nat → Int) (x a b c d : F) (i : Int) : evC tab orcU1 [(20, .ok), (28, .ok), (39, .ok)] [15, 21] [] 100 f72l (fun x' _ s' => match x' with | .normal => leS (lpPre (vK φ) x (lpSt (lpA x a b c d).x2 (lpA x a b c d).z2 (lpA x a b c d).x3 (lpA x a b c d).z3) (i64w (i - 1))) s' | _ => False) [true, true] (lpPre (vK φ) x (lpSt a b c d) i) =
    (decide (i ≥ 0) = true ∧ ifP (isK (dOf (vK φ)) ∧ 0 ≤ i ∧ i < 256) = true ∧ (bitV (vK φ) i == 0) = true ∧ ifP (can (vNum x) ∧ can (vNum a) ∧ can (vNum b) ∧ can (vNum c) ∧ can (vNum d)) = true ∧
      leS (lpPre (vK φ) x (lpSt (lpA x a b c d).x2 (lpA x a b c d).z2 (lpA x a b c d).x3 (lpA x a b c d).z3) (i64w (i - 1))) (lpPre (vK φ) x (lpSt (lpA x a b c d).x2 (lpA x a b c d).z2 (lpA x a b c d).x3 (lpA x a b c d).z3) (i64w (i - 1)))) := by kernel_rfl
theorem lp_one (φ : Nat → Int) (x a b c d : F) (i : Int) : evC tab orcU1 [(20, .ok), (28, .ok), (39, .ok)] [15, 21] [] 100 f72l (fun x' _ s' => match x' with | .normal => leS (lpPre (vK φ) x (lpSt (lpA x c d a b).x3 (lpA x c d a b).z3 (lpA x c d a b).x2 (lpA x c d a b).z2) (i64w (i - 1))) s' | _ => False) [true, false] (lpPre (vK φ) x (lpSt a b c d) i) =
    (decide (i ≥ 0) = true ∧ ifP (isK (dOf (vK φ)) ∧ 0 ≤ i ∧ i < 256) = true ∧ (bitV (vK φ) i == 0) = false ∧ ifP (can (vNum x) ∧ can (vNum c) ∧ can (vNum d) ∧ can (vNum a) ∧ can (vNum b)) = true ∧
      leS (lpPre (vK φ) x (lpSt (lpA x c d a b).x3 (lpA x c d a b).z3 (lpA x c d a b).x2 (lpA x c d a b).z2) (i64w (i - 1))) (lpPre (vK φ) x (lpSt (lpA x c d a b).x3 (lpA x c d a b).z3 (lpA x c d a b).x2 (lpA x c d a b).z2) (i64w (i - 1)))) := by kernel_rfl
theorem lp_last (φ : Nat → Int) (x a b c d : F) (i : Int) : evC tab orcU1 [(20, .ok), (28, .ok), (39, .ok)] [15, 21] [] 100 f72l (fun x' _ s' => match x' with | .exit j => (match Nat.beq j 0 with | true => leS (lpPre (vK φ) x (lpSt a b c d) i) s' | false => False) | _ => False) [false] (lpPre (vK φ) x (lpSt a b c d) i) =
    (decide (i ≥ 0) = false ∧ leS (lpPre (vK φ) x (lpSt a b c d) i) (lpPre (vK φ) x (lpSt a b c d) i)) := by kernel_rfl
theorem lpPre_refl (k : Value) (x : F) (s : Sap.St) (c : Int) : leS (lpPre k x s c) (lpPre k x s c) := ⟨leT_refl _, rfl, rfl, rfl, rfl, rfl, rfl, rfl, trivial⟩
theorem lpPre_low (k : Value) (x : F) (s : Sap.St) (c : Int) : low (lpPre k x s c) = true := by kernel_rfl
noncomputable def lpN (φ : Nat → Int) (x : F) : Nat → Sap.St
  | 0 => ⟨FI 1, FI 0, x, FI 1⟩
  | n + 1 => if bitV (vK φ) (255 - (n : Int)) = 0 then Sap.lstep x (lpN φ x n).x2 (lpN φ x n).z2 (lpN φ x n).x3 (lpN φ x n).z3 else (Sap.lstep x (lpN φ x n).x3 (lpN φ x n).z3 (lpN φ x n).x2 (lpN φ x n).z2).turn
noncomputable def lpT (φ : Nat → Int) (x : F) (n : Nat) : AS := lpPre (vK φ) x (lpN φ x n) (255 - (n : Int))
noncomputable def lpC (φ : Nat → Int) (x : F) : LoopC := ⟨.loop f72l, lpT φ x 0, .normal, lpT φ x 256⟩
theorem lp_lo {φ : Nat → Int} (hφ : isK (dOf (vK φ))) (x : F) : LoOk Try.prog [(0, lpC φ x)] := by
  refine lo_cnt (sy := [(20, .ok), (28, .ok), (39, .ok)]) (br := [15, 21]) orcU1_ok loOk_nil (lpT φ x) 256 (fun _ => lpPre_low _ _ _ _) (fun n hn => ?_) ⟨[false], 100, of_eq' (lp_last φ x _ _ _ _ _) ⟨decide_eq_false (by omega), lpPre_refl _ _ _ _⟩⟩
  have hc : decide ((255 - (n : Int)) ≥ 0) = true := decide_eq_true (by omega)
  have hr : isK (dOf (vK φ)) ∧ 0 ≤ 255 - (n : Int) ∧ 255 - (n : Int) < 256 := ⟨hφ, by omega, by omega⟩
  have hw : i64w (255 - (n : Int) - 1) = 255 - ((n + 1 : Nat) : Int) := by rw [i64w_id (by omega) (by omega)]; omega
  have hall : ∀ a b c d : F, can (vNum x) ∧ can (vNum a) ∧ can (vNum b) ∧ can (vNum c) ∧ can (vNum d) := fun a b c d => ⟨can_vNum _, can_vNum _, can_vNum _, can_vNum _, can_vNum _⟩
  by_cases hb : bitV (vK φ) (255 - (n : Int)) = 0
  · refine ⟨[true, true], 100, ?_⟩
    have h := lp_zero φ x (lpN φ x n).x2 (lpN φ x n).z2 (lpN φ x n).x3 (lpN φ x n).z3 (255 - (n : Int))
    unfold lpA at h
    simp only [NF_vNum, hw] at h
    have e : lpN φ x (n + 1) = Sap.lstep x (lpN φ x n).x2 (lpN φ x n).z2 (lpN φ x n).x3 (lpN φ x n).z3 := if_pos hb
    unfold lpT
    rw [e]
    exact of_eq' h ⟨hc, ifP_of hr, beq_iff_eq.2 hb, ifP_of (hall _ _ _ _), lpPre_refl _ _ _ _⟩
  · refine ⟨[true, false], 100, ?_⟩
    have h := lp_one φ x (lpN φ x n).x2 (lpN φ x n).z2 (lpN φ x n).x3 (lpN φ x n).z3 (255 - (n : Int))
    unfold lpA at h
    simp only [NF_vNum, hw] at h
    have e : lpN φ x (n + 1) = (Sap.lstep x (lpN φ x n).x3 (lpN φ x n).z3 (lpN φ x n).x2 (lpN φ x n).z2).turn := if_neg hb
    unfold lpT
    rw [e]
    exact of_eq' h ⟨hc, ifP_of hr, by rw [beq_eq_false_iff_ne]; exact hb, ifP_of (hall _ _ _ _), lpPre_refl _ _ _ _⟩
theorem lpN_val {φ : Nat → Int} (hφ : isK φ) (x : F) : ∀ n, n ≤ 256 → lpN φ x n = Sap.lst x (numK φ).toNat 256 n := by
  obtain ⟨k0, k1⟩ := numK_nonneg hφ
  have hN : numK (dOf (vK φ)) = numK φ := hn_congr fun j _ hj => lim_vK (by omega)
  intro n
  induction n with
  | zero => intro _; rfl
  | succ n ih =>
    intro hn
    have hb : bitV (vK φ) (255 - (n : Int)) = (((numK φ).toNat / 2 ^ (256 - 1 - n) % 2 : Nat) : Int) := by
      unfold bitV
      rw [hN, show (255 - (n : Int)).toNat = 256 - 1 - n by omega, toNat_div k0]
      have : 0 ≤ numK φ / 2 ^ (256 - 1 - n) % 2 := Int.emod_nonneg _ (by decide)
      omega
    show (if bitV (vK φ) (255 - (n : Int)) = 0 then _ else _) = Sap.lbit x ((numK φ).toNat / 2 ^ (256 - 1 - n) % 2) (Sap.lst x (numK φ).toNat 256 n)
    rw [hb, ih (by omega)]
    unfold Sap.lbit
    generalize (numK φ).toNat / 2 ^ (256 - 1 - n) % 2 = b
    by_cases h0 : b = 0
    · rw [if_pos (by omega), if_pos h0]
    · rw [if_neg (by omega), if_neg h0]
def lpS : List Sh := [.arr .u8 32, .arr .i64 16]
noncomputable def lpF (a : List Value) : Bool × Value := (ifP (isK (dOf (getD a 0)) ∧ can (getD a 1)), vNum (Sap.lad 256 (numK (dOf (getD a 0))).toNat (NF (getD a 1))))
noncomputable def lpR (s : Sap.St) : Value := vNum (NF (vNum s.x2) * NF (vNum (Sap.inv (NF (vNum s.z2)))))
theorem lp_ev (φ : Nat → Int) (x : F) : evBody tab orcU1 [(10, .ok), (11, .ok), (13, .ok), (46, .ok), (47, .ok)] [] [(0, lpC φ x)] 1000 Try.f72 (bodyOf Try.f72) [vK φ, vNum x] [] 0 [] (fun r => r = lpR (lpN φ x 256)) =
    (ifP ((0 : Int) ≤ 1 ∧ (1 : Int) < 4294967296) = true ∧ ifP ((0 : Int) ≤ 0 ∧ (0 : Int) < 4294967296) = true ∧ ifP ((0 : Int) ≤ 1 ∧ (1 : Int) < 4294967296) = true ∧
      Code.loop f72l = Code.loop f72l ∧ leS (lpT φ x 0) (lpT φ x 0) ∧ ifP (can (vNum (lpN φ x 256).z2)) = true ∧ ifP (can (vNum (lpN φ x 256).x2) ∧ can (vNum (Sap.inv (NF (vNum (lpN φ x 256).z2))))) = true ∧
      lpR (lpN φ x 256) = lpR (lpN φ x 256)) := by kernel_rfl
theorem lpr_ok : FoOk 72 (foOf lpS lpF) := fo_of' Try.func72 (c := bodyOf Try.f72) (by kernel_rfl) (by kernel_rfl) (fun e => okV_vNum _) fun e hc => by
  have h : isK (dOf (vK (e.i 0))) ∧ can (vN (e.i 1)) := of_ifP hc
  show ∀ g, Ctr Try.prog 72 [vK (e.i 0), vN (e.i 1)] g (vNum (Sap.lad 256 (numK (dOf (vK (e.i 0)))).toNat (NF (vN (e.i 1)))))
  generalize e.i 0 = φ at *
  generalize vN (e.i 1) = x at *
  obtain ⟨hk, hx⟩ := h
  have hφ : isK φ := fun j hj => by
    have := hk j hj
    rw [show dOf (vK φ) j = φ j from lim_vK hj] at this; exact this
  have hN : numK (dOf (vK φ)) = numK φ := hn_congr fun j _ hj => lim_vK (by omega)
  have key : ∀ n, n = 256 → lpR (lpN φ (NF x) n) = vNum ((Sap.lst (NF x) (numK φ).toNat 256 n).x2 * Sap.inv (Sap.lst (NF x) (numK φ).toNat 256 n).z2) := by
    intro n hn
    rw [lpN_val hφ _ n (by omega)]
    unfold lpR
    rw [NF_vNum, NF_vNum, NF_vNum]
  have hv : lpR (lpN φ (NF x) 256) = vNum (Sap.lad 256 (numK (dOf (vK φ))).toNat (NF x)) := by
    rw [hN]
    unfold Sap.lad
    exact key 256 rfl
  rw [← hv]
  have e1 : [vK φ, x] = [vK φ, vNum (NF x)] := by rw [← hx]
  rw [e1]
  exact fo_ctr orcU1_ok Try.func72 (by kernel_rfl) rfl (of_eq' (lp_ev φ (NF x)) ⟨ifP_of ⟨by decide, by decide⟩, ifP_of ⟨by decide, by decide⟩, ifP_of ⟨by decide, by decide⟩, rfl, lpPre_refl _ _ _ _, ifP_of (can_vNum _), ifP_of ⟨can_vNum _, can_vNum _⟩, rfl⟩) (lp_lo hk _)

/-! ## Keys -/
def clR (f : Nat → Int) : Nat → Int := fun j => match j with
  | 0 => IntKind.u8.wrap (f 0 - (f 0).tmod 8)
  | 31 => IntKind.u8.wrap ((f 31).tmod 64 + 64)
  | j => f j
theorem clr_ev (e : Env) : evBody tab orc0 [] [] [] 1000 Try.f78 (bodyOf Try.f78) (mkA zeroS e 0) [] 0 [] (fun r => r = vK (clR (dOf (a0 e zeroS 0)))) = (vK (clR (dOf (a0 e zeroS 0))) = vK (clR (dOf (a0 e zeroS 0)))) := by kernel_rfl
noncomputable def clrF (a : List Value) : Bool × Value := (ifP (isK (dOf (getD a 0))), clV (getD a 0))
theorem clr_0 : ∀ b : Fin 256, IntKind.u8.wrap ((b.val : Int) - (b.val : Int).tmod 8) = band (b.val : Int) 248 := by decide +kernel
theorem clr_31 : ∀ b : Fin 256, IntKind.u8.wrap ((b.val : Int).tmod 64 + 64) = bor (band (b.val : Int) 127) 64 := by decide +kernel
theorem clr_val {k : Value} (hk : isK (dOf k)) : vK (clR (dOf k)) = clV k := by
  have e : clR (dOf k) = clF (dOf k) := by
    funext j
    unfold clR clF
    split
    · obtain ⟨b, hb⟩ := fin_of (hk 0 (by decide))
      rw [hb]; exact clr_0 b
    · obtain ⟨b, hb⟩ := fin_of (hk 31 (by decide))
      rw [hb]; exact clr_31 b
    · rename_i h1 h2
      split
      · exact absurd rfl h1
      · exact absurd rfl h2
      · rfl
  rw [e]; rfl
theorem clr_ok : FoOk 78 (foOf zeroS clrF) := fo_of' Try.func78 (c := bodyOf Try.f78) (by kernel_rfl) (by kernel_rfl) (fun e => by rfl) fun e hc => by
  have h : isK (dOf (a0 e zeroS 0)) := of_ifP hc
  show ∀ g, Ctr Try.prog 78 (mkA zeroS e 0) g (clV (a0 e zeroS 0))
  rw [← clr_val h]
  exact fo_ctr orc0_ok Try.func78 (by kernel_rfl) ids_mk (of_eq' (clr_ev e) rfl)
noncomputable def orcU2 : Orc := oadd (oadd (oadd (oadd orc0 41 (foOf zeroS ofnF)) 72 (foOf lpS lpF)) 43 (foOf numS1 keynF)) 78 (foOf zeroS clrF)
theorem orcU2_ok : OrcOk Try.prog orcU2 := oadd_ok (oadd_ok (oadd_ok (oadd_ok orc0_ok ofn_ok) lpr_ok) keyn_ok) clr_ok
noncomputable def rwV (k p : Value) : Value := vK (digN (NF (vNum (Sap.lad 256 (numK (dOf k)).toNat (NF (vNum (numV (dOf p))))))).val)
theorem rwr_ev (e : Env) : evBody tab orcU2 [(7, .ok), (8, .ok), (9, .ok)] [] [] 1000 Try.f80 (bodyOf Try.f80) (mkA keyS2 e 0) [] 0 [] (fun r => r = rwV (a0 e keyS2 0) (a0 e keyS2 1)) =
    (ifP (isK (dOf (a0 e keyS2 1))) = true ∧ ifP (isK (dOf (a0 e keyS2 0)) ∧ can (vNum (numV (dOf (a0 e keyS2 1))))) = true ∧
      ifP (can (vNum (Sap.lad 256 (numK (dOf (a0 e keyS2 0))).toNat (NF (vNum (numV (dOf (a0 e keyS2 1)))))))) = true ∧ rwV (a0 e keyS2 0) (a0 e keyS2 1) = rwV (a0 e keyS2 0) (a0 e keyS2 1)) := by kernel_rfl
noncomputable def rwF (a : List Value) : Bool × Value := (ifP (isK (dOf (getD a 0)) ∧ isK (dOf (getD a 1))), rawV (getD a 0) (getD a 1))
theorem isK_vK {f : Nat → Int} (h : isK (dOf (vK f))) : isK f := fun j hj => by
  have := h j hj
  rw [show dOf (vK f) j = f j from lim_vK hj] at this; exact this
theorem numK_dOf {f : Nat → Int} : numK (dOf (vK f)) = numK f := hn_congr fun j _ hj => lim_vK (by omega)
theorem numV_dOf' {f : Nat → Int} : numV (dOf (vK f)) = numV f := by
  unfold numV
  rw [numK_dOf]
theorem rwr_ok : FoOk 80 (foOf keyS2 rwF) := fo_of' Try.func80 (c := bodyOf Try.f80) (by kernel_rfl) (by kernel_rfl) (fun e => by rfl) fun e hc => by
  have h : isK (dOf (vK (e.i 0))) ∧ isK (dOf (vK (e.i 1))) := of_ifP hc
  have hev := rwr_ev e
  have e0 : a0 e keyS2 0 = vK (e.i 0) := rfl
  have e1 : a0 e keyS2 1 = vK (e.i 1) := rfl
  rw [e0, e1] at hev
  show ∀ g, Ctr Try.prog 80 (mkA keyS2 e 0) g (rawV (vK (e.i 0)) (vK (e.i 1)))
  have hv : rwV (vK (e.i 0)) (vK (e.i 1)) = rawV (vK (e.i 0)) (vK (e.i 1)) := by
    rw [raw_val (isK_vK h.1) (isK_vK h.2)]
    unfold rwV
    rw [NF_vNum, NF_vNum, numK_dOf, numV_dOf']
  rw [← hv]
  exact fo_ctr orcU2_ok Try.func80 (by kernel_rfl) ids_mk (of_eq' hev ⟨ifP_of h.2, ifP_of ⟨h.1, can_vNum _⟩, ifP_of (can_vNum _), rfl⟩)
noncomputable def orcU3 : Orc := oadd orcU2 80 (foOf keyS2 rwF)
theorem orcU3_ok : OrcOk Try.prog orcU3 := oadd_ok orcU2_ok rwr_ok
theorem isK_clV {f : Nat → Int} (h : isK f) : isK (dOf (clV (vK f))) := by
  rw [clV_vK]
  exact fun j hj => by
    show isB (lim (vK (clF f)) j)
    rw [lim_vK hj]; exact isK_cl h j hj
theorem isK_nine : isK (dOf nineK) := fun j hj => by
  show isB (lim (vK (kB 9)) j)
  rw [lim_vK hj]; exact isK_kB (b := 9) ⟨by decide, by decide⟩ j hj
noncomputable def bsF (a : List Value) : Bool × Value := (ifP (isK (dOf (getD a 0))), baseV (getD a 0))
theorem bsr_ev (e : Env) : evBody tab orcU3 [(4, .ok), (6, .ok)] [] [] 1000 Try.f81 (bodyOf Try.f81) (mkA zeroS e 0) [] 0 [] (fun r => r = baseV (a0 e zeroS 0)) =
    (ifP (isK (dOf (a0 e zeroS 0))) = true ∧ ifP (isK (dOf (clV (a0 e zeroS 0))) ∧ isK (dOf nineK)) = true ∧ baseV (a0 e zeroS 0) = baseV (a0 e zeroS 0)) := by kernel_rfl
theorem bsr_ok : FoOk 81 (foOf zeroS bsF) := fo_of' Try.func81 (c := bodyOf Try.f81) (by kernel_rfl) (by kernel_rfl) (fun e => by rfl) fun e hc => by
  have h : isK (dOf (vK (e.i 0))) := of_ifP hc
  show ∀ g, Ctr Try.prog 81 (mkA zeroS e 0) g (baseV (a0 e zeroS 0))
  exact fo_ctr orcU3_ok Try.func81 (by kernel_rfl) ids_mk (of_eq' (bsr_ev e) ⟨ifP_of h, ifP_of ⟨isK_clV (isK_vK h), isK_nine⟩, rfl⟩)
def shE (s p : Value) : Bool := !(eqV (shK s p) zeroK)
noncomputable def shrF (a : List Value) : Bool × Value := (ifP (isK (dOf (getD a 0)) ∧ isK (dOf (getD a 1))), .tuple #[shK (getD a 0) (getD a 1), .bool (shE (getD a 0) (getD a 1))])
theorem shr_ev (e : Env) : evBody tab orcU3 [(8, .ok), (10, .ok)] [] [] 1000 Try.f48 (bodyOf Try.f48) (mkA keyS2 e 0) [] 0 [] (fun r => r = .tuple #[shK (a0 e keyS2 0) (a0 e keyS2 1), .bool (shE (a0 e keyS2 0) (a0 e keyS2 1))]) =
    (ifP (isK (dOf (a0 e keyS2 0))) = true ∧ ifP (isK (dOf (clV (a0 e keyS2 0))) ∧ isK (dOf (a0 e keyS2 1))) = true ∧ Value.tuple #[shK (a0 e keyS2 0) (a0 e keyS2 1), .bool (shE (a0 e keyS2 0) (a0 e keyS2 1))] = .tuple #[shK (a0 e keyS2 0) (a0 e keyS2 1), .bool (shE (a0 e keyS2 0) (a0 e keyS2 1))]) := by kernel_rfl
theorem shr_ok : FoOk 48 (foOf keyS2 shrF) := fo_of' Try.func48 (c := bodyOf Try.f48) (by kernel_rfl) (by kernel_rfl) (fun e => by rfl) fun e hc => by
  have h : isK (dOf (vK (e.i 0))) ∧ isK (dOf (vK (e.i 1))) := of_ifP hc
  show ∀ g, Ctr Try.prog 48 (mkA keyS2 e 0) g (.tuple #[shK (a0 e keyS2 0) (a0 e keyS2 1), .bool (shE (a0 e keyS2 0) (a0 e keyS2 1))])
  exact fo_ctr orcU3_ok Try.func48 (by kernel_rfl) ids_mk (of_eq' (shr_ev e) ⟨ifP_of h.1, ifP_of ⟨isK_clV (isK_vK h.1), h.2⟩, rfl⟩)

def kA (φ : Nat → Int) (i : Nat) : Value := vK (fun j => φ (32 * i + j))
/-- what is left behind the keys, and whether each was well -/
def chG (ok : Value → Value → Bool) (sh : Value → Value → Value) : Value → List Value → Value × Bool
  | p, [] => (p, true)
  | p, k :: r => match ok k p with
    | true => chG ok sh (sh k p) r
    | false => (zeroK, false)
theorem chG_ok {ok : Value → Value → Bool} {sh : Value → Value → Value} {p k : Value} {r : List Value} (h : ok k p = true) : chG ok sh p (k :: r) = chG ok sh (sh k p) r := by
  rw [chG, h]
theorem chG_no {ok : Value → Value → Bool} {sh : Value → Value → Value} {p k : Value} {r : List Value} (h : ok k p = false) : chG ok sh p (k :: r) = (zeroK, false) := by
  rw [chG, h]
def chR : Value → List Value → Value × Bool := chG shOk shK
theorem chR_ok {p k : Value} {r : List Value} (h : shOk k p = true) : chR p (k :: r) = chR (shK k p) r := chG_ok h
theorem chR_no {p k : Value} {r : List Value} (h : shOk k p = false) : chR p (k :: r) = (zeroK, false) := chG_no h
theorem chR_nil (p : Value) : chR p [] = (p, true) := rfl
theorem tup_of {c : Value × Bool} {x : Value} {b : Bool} (h : c = (x, b)) : Value.tuple #[nrmK c.1, .bool c.2] = .tuple #[nrmK x, .bool b] := by rw [h]
theorem fst_of {c : Value × Bool} {x : Value} {b : Bool} (h : c = (x, b)) : nrmK c.1 = nrmK x := by rw [h]
theorem snd_of {c : Value × Bool} {x : Value} {b : Bool} (h : c = (x, b)) : c.2 = b := by rw [h]
def keyAt (cs : List Value) (i : Nat) : Value := .agg ((cs.drop (32 * i)).take 32).toArray
def keysL (cs : List Value) (n : Nat) : List Value := (runN 0 n).map (keyAt cs)
def chT (p : Value) (cs : List Value) (n : Nat) : Value := .tuple #[nrmK (chR p (keysL cs n)).1, .bool (chR p (keysL cs n)).2]
def slK (n c : Nat) : Value := .slice (some ⟨0, 0, none⟩) n c
def hpK (φ : Nat → Int) (m : Nat) : Heap := [(0, ⟨cellsOf .u8 φ m 0, 23, false, 0⟩)]
theorem cells_at {k : IntKind} {f : Nat → Int} : ∀ (n i j : Nat), j < n → (cellsOf k f n i)[j]? = some (.int k (f (i + j))) := by
  intro n
  induction n with
  | zero => intro i j h; omega
  | succ n ih =>
    intro i j h
    cases j with
    | zero => simp [cellsOf]
    | succ j =>
      simp only [cellsOf, List.getElem?_cons_succ]
      rw [ih (i + 1) j (by omega)]
      congr 3; omega
theorem cells_len {k : IntKind} {f : Nat → Int} : ∀ (n i : Nat), (cellsOf k f n i).length = n := by
  intro n
  induction n with
  | zero => intro i; rfl
  | succ n ih => intro i; simp [cellsOf, ih]
theorem ch_1_0 (f φ : Nat → Int) (c : Nat) : evBody tab orcD1 [] [23] [] 1000 Try.f49 (bodyOf Try.f49) [vK f, slK 1 c] (hpK φ 32) 1 [true] (fun r => r = .tuple #[zeroK, .bool false]) =
    ((!shOk (kA φ 0) (vK f)) = true ∧ (Value.tuple #[zeroK, .bool false] : Value) = .tuple #[zeroK, .bool false]) := by kernel_rfl
theorem ch_1_1 (f φ : Nat → Int) (c : Nat) : evBody tab orcD1 [] [23] [] 1000 Try.f49 (bodyOf Try.f49) [vK f, slK 1 c] (hpK φ 32) 1 [false] (fun r => r = .tuple #[(shK (kA φ 0) (vK f)), .bool true]) =
    ((!shOk (kA φ 0) (vK f)) = false ∧ (Value.tuple #[(shK (kA φ 0) (vK f)), .bool true] : Value) = .tuple #[(shK (kA φ 0) (vK f)), .bool true]) := by kernel_rfl
theorem ch_2_0 (f φ : Nat → Int) (c : Nat) : evBody tab orcD1 [] [23] [] 1000 Try.f49 (bodyOf Try.f49) [vK f, slK 2 c] (hpK φ 64) 1 [true] (fun r => r = .tuple #[zeroK, .bool false]) =
    ((!shOk (kA φ 0) (vK f)) = true ∧ (Value.tuple #[zeroK, .bool false] : Value) = .tuple #[zeroK, .bool false]) := by kernel_rfl
theorem ch_2_1 (f φ : Nat → Int) (c : Nat) : evBody tab orcD1 [] [23] [] 1000 Try.f49 (bodyOf Try.f49) [vK f, slK 2 c] (hpK φ 64) 1 [false, true] (fun r => r = .tuple #[zeroK, .bool false]) =
    ((!shOk (kA φ 0) (vK f)) = false ∧ (!shOk (kA φ 1) (shK (kA φ 0) (vK f))) = true ∧ (Value.tuple #[zeroK, .bool false] : Value) = .tuple #[zeroK, .bool false]) := by kernel_rfl
theorem ch_2_2 (f φ : Nat → Int) (c : Nat) : evBody tab orcD1 [] [23] [] 1000 Try.f49 (bodyOf Try.f49) [vK f, slK 2 c] (hpK φ 64) 1 [false, false] (fun r => r = .tuple #[(shK (kA φ 1) (shK (kA φ 0) (vK f))), .bool true]) =
    ((!shOk (kA φ 0) (vK f)) = false ∧ (!shOk (kA φ 1) (shK (kA φ 0) (vK f))) = false ∧ (Value.tuple #[(shK (kA φ 1) (shK (kA φ 0) (vK f))), .bool true] : Value) = .tuple #[(shK (kA φ 1) (shK (kA φ 0) (vK f))), .bool true]) := by kernel_rfl
theorem ch_3_0 (f φ : Nat → Int) (c : Nat) : evBody tab orcD1 [] [23] [] 1000 Try.f49 (bodyOf Try.f49) [vK f, slK 3 c] (hpK φ 96) 1 [true] (fun r => r = .tuple #[zeroK, .bool false]) =
    ((!shOk (kA φ 0) (vK f)) = true ∧ (Value.tuple #[zeroK, .bool false] : Value) = .tuple #[zeroK, .bool false]) := by kernel_rfl
theorem ch_3_1 (f φ : Nat → Int) (c : Nat) : evBody tab orcD1 [] [23] [] 1000 Try.f49 (bodyOf Try.f49) [vK f, slK 3 c] (hpK φ 96) 1 [false, true] (fun r => r = .tuple #[zeroK, .bool false]) =
    ((!shOk (kA φ 0) (vK f)) = false ∧ (!shOk (kA φ 1) (shK (kA φ 0) (vK f))) = true ∧ (Value.tuple #[zeroK, .bool false] : Value) = .tuple #[zeroK, .bool false]) := by kernel_rfl
theorem ch_3_2 (f φ : Nat → Int) (c : Nat) : evBody tab orcD1 [] [23] [] 1000 Try.f49 (bodyOf Try.f49) [vK f, slK 3 c] (hpK φ 96) 1 [false, false, true] (fun r => r = .tuple #[zeroK, .bool false]) =
    ((!shOk (kA φ 0) (vK f)) = false ∧ (!shOk (kA φ 1) (shK (kA φ 0) (vK f))) = false ∧ (!shOk (kA φ 2) (shK (kA φ 1) (shK (kA φ 0) (vK f)))) = true ∧ (Value.tuple #[zeroK, .bool false] : Value) = .tuple #[zeroK, .bool false]) := by kernel_rfl
theorem ch_3_3 (f φ : Nat → Int) (c : Nat) : evBody tab orcD1 [] [23] [] 1000 Try.f49 (bodyOf Try.f49) [vK f, slK 3 c] (hpK φ 96) 1 [false, false, false] (fun r => r = .tuple #[(shK (kA φ 2) (shK (kA φ 1) (shK (kA φ 0) (vK f)))), .bool true]) =
    ((!shOk (kA φ 0) (vK f)) = false ∧ (!shOk (kA φ 1) (shK (kA φ 0) (vK f))) = false ∧ (!shOk (kA φ 2) (shK (kA φ 1) (shK (kA φ 0) (vK f)))) = false ∧ (Value.tuple #[(shK (kA φ 2) (shK (kA φ 1) (shK (kA φ 0) (vK f)))), .bool true] : Value) = .tuple #[(shK (kA φ 2) (shK (kA φ 1) (shK (kA φ 0) (vK f)))), .bool true]) := by kernel_rfl
theorem ch_4_0 (f φ : Nat → Int) (c : Nat) : evBody tab orcD1 [] [23] [] 1000 Try.f49 (bodyOf Try.f49) [vK f, slK 4 c] (hpK φ 128) 1 [true] (fun r => r = .tuple #[zeroK, .bool false]) =
    ((!shOk (kA φ 0) (vK f)) = true ∧ (Value.tuple #[zeroK, .bool false] : Value) = .tuple #[zeroK, .bool false]) := by kernel_rfl
theorem ch_4_1 (f φ : Nat → Int) (c : Nat) : evBody tab orcD1 [] [23] [] 1000 Try.f49 (bodyOf Try.f49) [vK f, slK 4 c] (hpK φ 128) 1 [false, true] (fun r => r = .tuple #[zeroK, .bool false]) =
    ((!shOk (kA φ 0) (vK f)) = false ∧ (!shOk (kA φ 1) (shK (kA φ 0) (vK f))) = true ∧ (Value.tuple #[zeroK, .bool false] : Value) = .tuple #[zeroK, .bool false]) := by kernel_rfl
theorem ch_4_2 (f φ : Nat → Int) (c : Nat) : evBody tab orcD1 [] [23] [] 1000 Try.f49 (bodyOf Try.f49) [vK f, slK 4 c] (hpK φ 128) 1 [false, false, true] (fun r => r = .tuple #[zeroK, .bool false]) =
    ((!shOk (kA φ 0) (vK f)) = false ∧ (!shOk (kA φ 1) (shK (kA φ 0) (vK f))) = false ∧ (!shOk (kA φ 2) (shK (kA φ 1) (shK (kA φ 0) (vK f)))) = true ∧ (Value.tuple #[zeroK, .bool false] : Value) = .tuple #[zeroK, .bool false]) := by kernel_rfl
theorem ch_4_3 (f φ : Nat → Int) (c : Nat) : evBody tab orcD1 [] [23] [] 1000 Try.f49 (bodyOf Try.f49) [vK f, slK 4 c] (hpK φ 128) 1 [false, false, false, true] (fun r => r = .tuple #[zeroK, .bool false]) =
    ((!shOk (kA φ 0) (vK f)) = false ∧ (!shOk (kA φ 1) (shK (kA φ 0) (vK f))) = false ∧ (!shOk (kA φ 2) (shK (kA φ 1) (shK (kA φ 0) (vK f)))) = false ∧ (!shOk (kA φ 3) (shK (kA φ 2) (shK (kA φ 1) (shK (kA φ 0) (vK f))))) = true ∧ (Value.tuple #[zeroK, .bool false] : Value) = .tuple #[zeroK, .bool false]) := by kernel_rfl
theorem ch_4_4 (f φ : Nat → Int) (c : Nat) : evBody tab orcD1 [] [23] [] 1000 Try.f49 (bodyOf Try.f49) [vK f, slK 4 c] (hpK φ 128) 1 [false, false, false, false] (fun r => r = .tuple #[(shK (kA φ 3) (shK (kA φ 2) (shK (kA φ 1) (shK (kA φ 0) (vK f))))), .bool true]) =
    ((!shOk (kA φ 0) (vK f)) = false ∧ (!shOk (kA φ 1) (shK (kA φ 0) (vK f))) = false ∧ (!shOk (kA φ 2) (shK (kA φ 1) (shK (kA φ 0) (vK f)))) = false ∧ (!shOk (kA φ 3) (shK (kA φ 2) (shK (kA φ 1) (shK (kA φ 0) (vK f))))) = false ∧ (Value.tuple #[(shK (kA φ 3) (shK (kA φ 2) (shK (kA φ 1) (shK (kA φ 0) (vK f))))), .bool true] : Value) = .tuple #[(shK (kA φ 3) (shK (kA φ 2) (shK (kA φ 1) (shK (kA φ 0) (vK f))))), .bool true]) := by kernel_rfl
theorem ch_0 (f : Nat → Int) (c : Nat) (o : Nat) : evBody tab orcD1 [] [23] [] 1000 Try.f49 (bodyOf Try.f49) [vK f, .slice (some ⟨0, o, none⟩) 0 c] [] 1 [] (fun r => r = .tuple #[vK f, .bool true]) = (Value.tuple #[vK f, .bool true] = .tuple #[vK f, .bool true]) := by kernel_rfl
theorem ch_nil (f : Nat → Int) : evBody tab orcD1 [] [23] [] 1000 Try.f49 (bodyOf Try.f49) [vK f, .slice none 0 0] [] 0 [] (fun r => r = .tuple #[vK f, .bool true]) = (Value.tuple #[vK f, .bool true] = .tuple #[vK f, .bool true]) := by kernel_rfl
theorem keyAt_cells (φ : Nat → Int) (n i : Nat) (h : i < n) : keyAt (cellsOf .u8 φ (32 * n) 0) i = kA φ i := by
  have key : ∀ m a, 32 * i + 32 ≤ a + m → a ≤ 32 * i → ((cellsOf .u8 φ m a).drop (32 * i - a)).take 32 = cellsOf .u8 (fun j => φ (32 * i + j)) 32 0 := by
    intro m
    induction m with
    | zero => intro a h1 h2; omega
    | succ m ih =>
      intro a h1 h2
      rcases Nat.lt_or_ge a (32 * i) with h3 | h3
      · rw [show 32 * i - a = (32 * i - (a + 1)) + 1 by omega]
        exact ih (a + 1) (by omega) (by omega)
      · have : a = 32 * i := by omega
        subst this
        rw [Nat.sub_self, List.drop_zero]
        apply List.ext_getElem?
        intro j
        rcases Nat.lt_or_ge j 32 with hj | hj
        · rw [List.getElem?_take, if_pos hj, cells_at (m + 1) (32 * i) j (by omega), cells_at 32 0 j hj, Nat.zero_add]
        · rw [List.getElem?_eq_none (by rw [List.length_take]; omega), List.getElem?_eq_none (by rw [cells_len]; omega)]
  have := key (32 * n) 0 (by omega) (by omega)
  unfold keyAt
  rw [show 32 * i = 32 * i - 0 by omega, this]
  rfl

theorem keysL_eq (φ : Nat → Int) (n : Nat) : keysL (cellsOf .u8 φ (32 * n) 0) n = (runN 0 n).map (kA φ) := by
  unfold keysL
  refine List.map_congr_left fun i hi => keyAt_cells φ n i ?_
  have key : ∀ m a, i ∈ runN a m → i < a + m := by
    intro m
    induction m with
    | zero => intro a h; cases h
    | succ m ih =>
      intro a h
      rcases List.mem_cons.1 h with e | e
      · omega
      · have := ih (a + 1) e; omega
  have := key n 0 hi
  omega
theorem nrm_sh (k p : Value) : nrmK (shK k p) = shK k p := nrmK_vK _
theorem nrm_zeroK : nrmK zeroK = zeroK := nrmK_vK _
theorem ch_ok_1 (f φ : Nat → Int) (c : Nat) : ∃ sc, evBody tab orcD1 [] [23] [] 1000 Try.f49 (bodyOf Try.f49) [vK f, slK 1 c] (hpK φ 32) 1 sc (fun r => r = chT (vK f) (cellsOf .u8 φ 32 0) 1) := by
  have hk : keysL (cellsOf .u8 φ 32 0) 1 = [kA φ 0] := keysL_eq φ 1
  have hT : chT (vK f) (cellsOf .u8 φ 32 0) 1 = .tuple #[nrmK (chR (vK f) [kA φ 0]).1, .bool (chR (vK f) [kA φ 0]).2] := by rw [chT, hk]
  cases g0 : shOk (kA φ 0) (vK f) with
  | false =>
    have hv : chT (vK f) (cellsOf .u8 φ 32 0) 1 = .tuple #[zeroK, .bool false] := by
      rw [hT, tup_of (chR_no g0), nrm_zeroK]
    exact ⟨[true], by rw [hv]; exact of_eq' (ch_1_0 f φ c) ⟨by rw [g0]; rfl, rfl⟩⟩
  | true =>
    have hv : chT (vK f) (cellsOf .u8 φ 32 0) 1 = .tuple #[(shK (kA φ 0) (vK f)), .bool true] := by
      rw [hT, tup_of ((chR_ok g0).trans (chR_nil _)), nrm_sh]
    exact ⟨[false], by rw [hv]; exact of_eq' (ch_1_1 f φ c) ⟨by rw [g0]; rfl, rfl⟩⟩
theorem ch_ok_2 (f φ : Nat → Int) (c : Nat) : ∃ sc, evBody tab orcD1 [] [23] [] 1000 Try.f49 (bodyOf Try.f49) [vK f, slK 2 c] (hpK φ 64) 1 sc (fun r => r = chT (vK f) (cellsOf .u8 φ 64 0) 2) := by
  have hk : keysL (cellsOf .u8 φ 64 0) 2 = [kA φ 0, kA φ 1] := keysL_eq φ 2
  have hT : chT (vK f) (cellsOf .u8 φ 64 0) 2 = .tuple #[nrmK (chR (vK f) [kA φ 0, kA φ 1]).1, .bool (chR (vK f) [kA φ 0, kA φ 1]).2] := by rw [chT, hk]
  cases g0 : shOk (kA φ 0) (vK f) with
  | false =>
    have hv : chT (vK f) (cellsOf .u8 φ 64 0) 2 = .tuple #[zeroK, .bool false] := by
      rw [hT, tup_of (chR_no g0), nrm_zeroK]
    exact ⟨[true], by rw [hv]; exact of_eq' (ch_2_0 f φ c) ⟨by rw [g0]; rfl, rfl⟩⟩
  | true =>
    cases g1 : shOk (kA φ 1) (shK (kA φ 0) (vK f)) with
    | false =>
      have hv : chT (vK f) (cellsOf .u8 φ 64 0) 2 = .tuple #[zeroK, .bool false] := by
        rw [hT, tup_of ((chR_ok g0).trans (chR_no g1)), nrm_zeroK]
      exact ⟨[false, true], by rw [hv]; exact of_eq' (ch_2_1 f φ c) ⟨by rw [g0]; rfl, by rw [g1]; rfl, rfl⟩⟩
    | true =>
      have hv : chT (vK f) (cellsOf .u8 φ 64 0) 2 = .tuple #[(shK (kA φ 1) (shK (kA φ 0) (vK f))), .bool true] := by
        rw [hT, tup_of ((chR_ok g0).trans ((chR_ok g1).trans (chR_nil _))), nrm_sh]
      exact ⟨[false, false], by rw [hv]; exact of_eq' (ch_2_2 f φ c) ⟨by rw [g0]; rfl, by rw [g1]; rfl, rfl⟩⟩
theorem ch_ok_3 (f φ : Nat → Int) (c : Nat) : ∃ sc, evBody tab orcD1 [] [23] [] 1000 Try.f49 (bodyOf Try.f49) [vK f, slK 3 c] (hpK φ 96) 1 sc (fun r => r = chT (vK f) (cellsOf .u8 φ 96 0) 3) := by
  have hk : keysL (cellsOf .u8 φ 96 0) 3 = [kA φ 0, kA φ 1, kA φ 2] := keysL_eq φ 3
  have hT : chT (vK f) (cellsOf .u8 φ 96 0) 3 = .tuple #[nrmK (chR (vK f) [kA φ 0, kA φ 1, kA φ 2]).1, .bool (chR (vK f) [kA φ 0, kA φ 1, kA φ 2]).2] := by rw [chT, hk]
  cases g0 : shOk (kA φ 0) (vK f) with
  | false =>
    have hv : chT (vK f) (cellsOf .u8 φ 96 0) 3 = .tuple #[zeroK, .bool false] := by
      rw [hT, tup_of (chR_no g0), nrm_zeroK]
    exact ⟨[true], by rw [hv]; exact of_eq' (ch_3_0 f φ c) ⟨by rw [g0]; rfl, rfl⟩⟩
  | true =>
    cases g1 : shOk (kA φ 1) (shK (kA φ 0) (vK f)) with
    | false =>
      have hv : chT (vK f) (cellsOf .u8 φ 96 0) 3 = .tuple #[zeroK, .bool false] := by
        rw [hT, tup_of ((chR_ok g0).trans (chR_no g1)), nrm_zeroK]
      exact ⟨[false, true], by rw [hv]; exact of_eq' (ch_3_1 f φ c) ⟨by rw [g0]; rfl, by rw [g1]; rfl, rfl⟩⟩
    | true =>
      cases g2 : shOk (kA φ 2) (shK (kA φ 1) (shK (kA φ 0) (vK f))) with
      | false =>
        have hv : chT (vK f) (cellsOf .u8 φ 96 0) 3 = .tuple #[zeroK, .bool false] := by
          rw [hT, tup_of ((chR_ok g0).trans ((chR_ok g1).trans (chR_no g2))), nrm_zeroK]
        exact ⟨[false, false, true], by rw [hv]; exact of_eq' (ch_3_2 f φ c) ⟨by rw [g0]; rfl, by rw [g1]; rfl, by rw [g2]; rfl, rfl⟩⟩
      | true =>
        have hv : chT (vK f) (cellsOf .u8 φ 96 0) 3 = .tuple #[(shK (kA φ 2) (shK (kA φ 1) (shK (kA φ 0) (vK f)))), .bool true] := by
          rw [hT, tup_of ((chR_ok g0).trans ((chR_ok g1).trans ((chR_ok g2).trans (chR_nil _)))), nrm_sh]
        exact ⟨[false, false, false], by rw [hv]; exact of_eq' (ch_3_3 f φ c) ⟨by rw [g0]; rfl, by rw [g1]; rfl, by rw [g2]; rfl, rfl⟩⟩
theorem ch_ok_4 (f φ : Nat → Int) (c : Nat) : ∃ sc, evBody tab orcD1 [] [23] [] 1000 Try.f49 (bodyOf Try.f49) [vK f, slK 4 c] (hpK φ 128) 1 sc (fun r => r = chT (vK f) (cellsOf .u8 φ 128 0) 4) := by
  have hk : keysL (cellsOf .u8 φ 128 0) 4 = [kA φ 0, kA φ 1, kA φ 2, kA φ 3] := keysL_eq φ 4
  have hT : chT (vK f) (cellsOf .u8 φ 128 0) 4 = .tuple #[nrmK (chR (vK f) [kA φ 0, kA φ 1, kA φ 2, kA φ 3]).1, .bool (chR (vK f) [kA φ 0, kA φ 1, kA φ 2, kA φ 3]).2] := by rw [chT, hk]
  cases g0 : shOk (kA φ 0) (vK f) with
  | false =>
    have hv : chT (vK f) (cellsOf .u8 φ 128 0) 4 = .tuple #[zeroK, .bool false] := by
      rw [hT, tup_of (chR_no g0), nrm_zeroK]
    exact ⟨[true], by rw [hv]; exact of_eq' (ch_4_0 f φ c) ⟨by rw [g0]; rfl, rfl⟩⟩
  | true =>
    cases g1 : shOk (kA φ 1) (shK (kA φ 0) (vK f)) with
    | false =>
      have hv : chT (vK f) (cellsOf .u8 φ 128 0) 4 = .tuple #[zeroK, .bool false] := by
        rw [hT, tup_of ((chR_ok g0).trans (chR_no g1)), nrm_zeroK]
      exact ⟨[false, true], by rw [hv]; exact of_eq' (ch_4_1 f φ c) ⟨by rw [g0]; rfl, by rw [g1]; rfl, rfl⟩⟩
    | true =>
      cases g2 : shOk (kA φ 2) (shK (kA φ 1) (shK (kA φ 0) (vK f))) with
      | false =>
        have hv : chT (vK f) (cellsOf .u8 φ 128 0) 4 = .tuple #[zeroK, .bool false] := by
          rw [hT, tup_of ((chR_ok g0).trans ((chR_ok g1).trans (chR_no g2))), nrm_zeroK]
        exact ⟨[false, false, true], by rw [hv]; exact of_eq' (ch_4_2 f φ c) ⟨by rw [g0]; rfl, by rw [g1]; rfl, by rw [g2]; rfl, rfl⟩⟩
      | true =>
        cases g3 : shOk (kA φ 3) (shK (kA φ 2) (shK (kA φ 1) (shK (kA φ 0) (vK f)))) with
        | false =>
          have hv : chT (vK f) (cellsOf .u8 φ 128 0) 4 = .tuple #[zeroK, .bool false] := by
            rw [hT, tup_of ((chR_ok g0).trans ((chR_ok g1).trans ((chR_ok g2).trans (chR_no g3)))), nrm_zeroK]
          exact ⟨[false, false, false, true], by rw [hv]; exact of_eq' (ch_4_3 f φ c) ⟨by rw [g0]; rfl, by rw [g1]; rfl, by rw [g2]; rfl, by rw [g3]; rfl, rfl⟩⟩
        | true =>
          have hv : chT (vK f) (cellsOf .u8 φ 128 0) 4 = .tuple #[(shK (kA φ 3) (shK (kA φ 2) (shK (kA φ 1) (shK (kA φ 0) (vK f))))), .bool true] := by
            rw [hT, tup_of ((chR_ok g0).trans ((chR_ok g1).trans ((chR_ok g2).trans ((chR_ok g3).trans (chR_nil _))))), nrm_sh]
          exact ⟨[false, false, false, false], by rw [hv]; exact of_eq' (ch_4_4 f φ c) ⟨by rw [g0]; rfl, by rw [g1]; rfl, by rw [g2]; rfl, by rw [g3]; rfl, rfl⟩⟩
theorem okV_chT (p : Value) (cs : List Value) (n : Nat) : okV (chT p cs n) = true := by rfl
def chO : List Value → Blks → Option (Bool × Value)
  | [p, .slice none 0 0], _ => match fits1 (.arr .u8 32) p with
    | true => some (true, chT p [] 0)
    | false => none
  | [p, .slice (some ⟨b, o, none⟩) n _], g => match fits1 (.arr .u8 32) p with
    | true => match n with
      | 0 => some (true, chT p [] 0)
      | n + 1 => match Nat.beq o 0, g b with
        | true, some k => match Nat.beq k.ty 23 && Nat.ble (n + 1) 4 && isA .u8 (32 * (n + 1)) k.cs with
          | true => some (true, chT p k.cs (n + 1))
          | false => none
        | _, _ => none
    | false => none
  | _, _ => none
theorem key_open {p : Value} (h : fits1 (.arr .u8 32) p = true) : ∃ f : Nat → Int, p = vK f := by
  obtain ⟨f, b, t, hx⟩ := fits1_mk h
  exact ⟨f, hx ⟨fun _ => f, fun _ => b, fun _ => t⟩ 0 rfl rfl rfl⟩
theorem chT_0 (f : Nat → Int) : chT (vK f) [] 0 = .tuple #[vK f, .bool true] := by
  show Value.tuple #[nrmK (chR (vK f) []).1, .bool (chR (vK f) []).2] = _
  rw [tup_of (chR_nil _), nrmK_vK]
theorem ch_ok : HoOk 49 chO := by
  refine ⟨⟨Try.f49, Try.func49, by kernel_rfl, by kernel_rfl⟩, fun args g r v h _ => ?_, fun args g g' hg => ?_⟩
  · unfold chO at h
    split at h
    · split at h
      · rename_i hp
        cases h
        obtain ⟨f, rfl⟩ := key_open hp
        obtain ⟨q1, q2⟩ := okV_ok (okV_chT (vK f) [] 0)
        refine ⟨q1, q2, ?_⟩
        rw [chT_0]
        exact ctr_of_ev tabOk orcD1_ok mixed loOk_nil Try.func49 (c := bodyOf Try.f49) (by kernel_rfl) (of_eq' (ch_nil f) rfl) (by intro i hi; rw [show idsOf [vK f, .slice none 0 0] = [] from rfl] at hi; cases hi) (by intro i b hib; cases hib)
      · cases h
    · rename_i p b o n c
      split at h
      · rename_i hp
        obtain ⟨f, rfl⟩ := key_open hp
        have ren1 : ∀ {H : Heap} {sc : List Bool} {k : Option Blk} {v : Value}, (∀ i blk, hget H i = some blk → i = 0 ∧ blk.own = false ∧ blk.ap = 0 ∧ ∃ q p, k = some ⟨blk.cs, blk.ty, q, p⟩) → g b = k →
            evBody tab orcD1 [] [23] [] 1000 Try.f49 (bodyOf Try.f49) [vK f, .slice (some ⟨0, o, none⟩) n c] H 1 sc (fun r => r = v) → Ctr Try.prog 49 [vK f, .slice (some ⟨b, o, none⟩) n c] g v := by
          intro H sc k v hH hk hev ρ w p1 p2 p3
          have key : Ctr Try.prog 49 [vK f, .slice (some ⟨0, o, none⟩) n c] (fun _ => g b) v := ctr_of_ev tabOk orcD1_ok mixed loOk_nil Try.func49 (c := bodyOf Try.f49) (by kernel_rfl) hev (by intro i hi; rw [show idsOf [vK f, .slice (some ⟨0, o, none⟩) n c] = [0] from rfl, List.mem_singleton] at hi; omega) (by
            intro i blk hib
            obtain ⟨e1, e2, e3, q, p, e4⟩ := hH i blk hib
            subst e1
            exact ⟨by rw [show idsOf [vK f, .slice (some ⟨0, o, none⟩) n c] = [0] from rfl]; exact List.mem_singleton.2 rfl, e2, e3, q, p, by rw [hk]; exact e4⟩)
          refine key (fun _ => ρ b) w (fun i hi => ?_) (fun i hi j hj _ => ?_) (fun x hx => ?_)
          · obtain ⟨k', e1, e2⟩ := p1 b (by rw [show idsOf [vK f, .slice (some ⟨b, o, none⟩) n c] = [b] from rfl]; exact List.mem_singleton.2 rfl)
            exact ⟨k', e1, e2⟩
          · rw [show idsOf [vK f, .slice (some ⟨0, o, none⟩) n c] = [0] from rfl, List.mem_singleton] at hi hj
            rw [hi, hj]
          · rcases List.mem_cons.1 hx with rfl | hx
            · exact p3 _ (by simp)
            · rw [List.mem_singleton] at hx
              subst hx
              exact trivial
        split at h
        · cases h
          obtain ⟨q1, q2⟩ := okV_ok (okV_chT (vK f) [] 0)
          refine ⟨q1, q2, ?_⟩
          rw [chT_0]
          exact ren1 (H := []) (k := g b) (by intro i blk hib; cases hib) rfl (of_eq' (ch_0 f c o) rfl)
        · rename_i n
          split at h
          · rename_i k ho hk
            split at h
            · rename_i hb
              cases h
              simp only [Bool.and_eq_true] at hb
              obtain ⟨⟨b1, b2⟩, b3⟩ := hb
              have b1 := Nat.eq_of_beq_eq_true b1
              have b2 := Nat.le_of_ble_eq_true b2
              have ho := Nat.eq_of_beq_eq_true ho
              subst ho
              obtain ⟨φ, hφ⟩ := isA_eq b3
              rw [hφ]
              obtain ⟨q1, q2⟩ := okV_ok (okV_chT (vK f) (cellsOf .u8 φ (32 * (n + 1)) 0) (n + 1))
              refine ⟨q1, q2, ?_⟩
              have hH : ∀ i blk, hget (hpK φ (32 * (n + 1))) i = some blk → i = 0 ∧ blk.own = false ∧ blk.ap = 0 ∧ ∃ q p, some k = some ⟨blk.cs, blk.ty, q, p⟩ := by
                intro i blk hib
                unfold hpK at hib
                simp only [hget] at hib
                split at hib
                · rename_i hbeq
                  have := Nat.eq_of_beq_eq_true hbeq
                  cases hib
                  exact ⟨this.symm, rfl, rfl, k.own, k.ap, by rw [← hφ, ← b1]⟩
                · cases hib
              rcases (by omega : n = 0 ∨ n = 1 ∨ n = 2 ∨ n = 3) with rfl | rfl | rfl | rfl
              · obtain ⟨sc, hev⟩ := ch_ok_1 f φ c
                exact ren1 hH hk hev
              · obtain ⟨sc, hev⟩ := ch_ok_2 f φ c
                exact ren1 hH hk hev
              · obtain ⟨sc, hev⟩ := ch_ok_3 f φ c
                exact ren1 hH hk hev
              · obtain ⟨sc, hev⟩ := ch_ok_4 f φ c
                exact ren1 hH hk hev
            · cases h
          · cases h
      · cases h
    · cases h
  · unfold chO
    split
    · rfl
    · rename_i p b o n c
      rw [hg b (by simp [idsOf, idOf])]
    · rfl
end Go.Proofs.Ythgefjgbkhkmgaa.Ev