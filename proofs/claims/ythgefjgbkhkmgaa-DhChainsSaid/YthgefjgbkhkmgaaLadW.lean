/-
  Layer 5 walked: Step, swap, Affine, Times; its loop round by round.
-/
import Derived.Test.YthgefjgbkhkmgaaPow
namespace Go.Proofs.Ythgefjgbkhkmgaa.Ev
open Go Go.RowKit
attribute [local irreducible] evC evBody

def stS : List Sh := [.arr .u64 5, .arr .u64 10, .arr .u64 10]
def stF (a : List Value) : Bool × Value := (true, .tuple #[stA (getD a 1), stB (getD a 0) (getD a 1) (getD a 2)])
theorem st_ev (e : Env) : evBody tab orcI5 [] [] [] 1000 Try.f73 (bodyOf Try.f73) (mkA stS e 0) [] 0 [] (fun r => r = (stF (mkA stS e 0)).2) = ((stF (mkA stS e 0)).2 = (stF (mkA stS e 0)).2) := by kernel_rfl
theorem st_ok : FoOk 73 (foOf stS stF) := fo_of orcI5_ok Try.func73 (by kernel_rfl) (by kernel_rfl) (fun e => by kernel_rfl) fun e _ => ⟨[], by rw [st_ev]⟩
def orcJ0 : Orc := oadd orcI5 73 (foOf stS stF)
theorem orcJ0_ok : OrcOk Try.prog orcJ0 := oadd_ok orcI5_ok st_ok
def spS : List Sh := [.int .i64, .arr .u64 10, .arr .u64 10]
def spF (a : List Value) : Bool × Value := (true, .tuple #[spA (maskI (intV (getD a 0))) (getD a 1) (getD a 2), spB (maskI (intV (getD a 0))) (getD a 1) (getD a 2)])
theorem sp_ev (e : Env) : evBody tab orcJ0 [] [] [] 1000 Try.f102 (bodyOf Try.f102) (mkA spS e 0) [] 0 [] (fun r => r = (spF (mkA spS e 0)).2) = ((spF (mkA spS e 0)).2 = (spF (mkA spS e 0)).2) := by kernel_rfl
theorem sp_ok : FoOk 102 (foOf spS spF) := fo_of orcJ0_ok Try.func102 (by kernel_rfl) (by kernel_rfl) (fun e => by kernel_rfl) fun e _ => ⟨[], by rw [sp_ev]⟩
def orcJ1 : Orc := oadd orcJ0 102 (foOf spS spF)
theorem orcJ1_ok : OrcOk Try.prog orcJ1 := oadd_ok orcJ0_ok sp_ok
def afS : List Sh := [.arr .u64 10]
def afF (a : List Value) : Bool × Value := (true, affV (getD a 0))
theorem af_ev (e : Env) : evBody tab orcJ1 [] [] [] 1000 Try.f75 (bodyOf Try.f75) (mkA afS e 0) [] 0 [] (fun r => r = (afF (mkA afS e 0)).2) = ((afF (mkA afS e 0)).2 = (afF (mkA afS e 0)).2) := by kernel_rfl
theorem af_ok : FoOk 75 (foOf afS afF) := fo_of orcJ1_ok Try.func75 (by kernel_rfl) (by kernel_rfl) (fun e => by kernel_rfl) fun e _ => ⟨[], by rw [af_ev]⟩
def orcJ2 : Orc := oadd orcJ1 75 (foOf afS afF)
theorem orcJ2_ok : OrcOk Try.prog orcJ2 := oadd_ok orcJ1_ok af_ok

noncomputable def f71l : Code := inB (blockIn 0 (bodyOf Try.f71))
def lims10 (f : Nat → Int) : Value := ints [f 0, f 1, f 2, f 3, f 4, f 5, f 6, f 7, f 8, f 9]
def ladPre (k x a b : Value) (w c : Int) : AS := ⟨tmps [(2, ptr 0), (3, ptr 1), (4, ptr 2), (5, ptr 8), (6, ptr 9), (7, .int .i64 w), (8, .int .i64 c)] 54 0,
  [(0, ⟨cellsV k, 23, true, 0⟩), (1, ⟨cellsV x, 36, true, 0⟩), (2, ⟨zrep 5 (.int .u64 0), 36, true, 0⟩), (8, ⟨cellsV a, 84, true, 0⟩), (9, ⟨cellsV b, 84, true, 0⟩)], 200⟩
/-- behind one round -/
def ladNx (f φ p q : Nat → Int) (w : Int) (n : Nat) : AS :=
  ladPre (vK φ) (lims f) (stA (spA (maskI (xorI w (kbit (vK φ) (255 - n)))) (lims10 p) (lims10 q)))
    (stB (lims f) (spA (maskI (xorI w (kbit (vK φ) (255 - n)))) (lims10 p) (lims10 q)) (spB (maskI (xorI w (kbit (vK φ) (255 - n)))) (lims10 p) (lims10 q))) (kbit (vK φ) (255 - n)) (ctrI (n + 1))
def ladRound (f φ p q : Nat → Int) (w : Int) (n : Nat) : Prop := evC tab orcJ2 [] [] [] 100 f71l (fun e _ s' => match e with | .normal => leS (ladNx f φ p q w n) s' | _ => False) [] (ladPre (vK φ) (lims f) (lims10 p) (lims10 q) w (ctrI n))
def ladWant (f φ p q : Nat → Int) (w : Int) (n : Nat) : Prop := leS (ladNx f φ p q w n) (ladNx f φ p q w n)
theorem lad_round0 (f φ p q : Nat → Int) (w : Int) : List.map (ladRound f φ p q w) (runN 0 64) = mapL (ladWant f φ p q w) (runN 0 64) := by kernel_rfl
theorem lad_round1 (f φ p q : Nat → Int) (w : Int) : List.map (ladRound f φ p q w) (runN 64 64) = mapL (ladWant f φ p q w) (runN 64 64) := by kernel_rfl
theorem lad_round2 (f φ p q : Nat → Int) (w : Int) : List.map (ladRound f φ p q w) (runN 128 64) = mapL (ladWant f φ p q w) (runN 128 64) := by kernel_rfl
theorem lad_round3 (f φ p q : Nat → Int) (w : Int) : List.map (ladRound f φ p q w) (runN 192 64) = mapL (ladWant f φ p q w) (runN 192 64) := by kernel_rfl
theorem lad_last (f φ p q : Nat → Int) (w : Int) : evC tab orcJ2 [] [] [] 100 f71l (fun e _ s' => match e with | .exit j => (match Nat.beq j 0 with | true => leS (ladPre (vK φ) (lims f) (lims10 p) (lims10 q) w (ctrI 256)) s' | false => False) | _ => False) [] (ladPre (vK φ) (lims f) (lims10 p) (lims10 q) w (ctrI 256)) =
    leS (ladPre (vK φ) (lims f) (lims10 p) (lims10 q) w (ctrI 256)) (ladPre (vK φ) (lims f) (lims10 p) (lims10 q) w (ctrI 256)) := by kernel_rfl
theorem ladPre_refl (k x a b : Value) (w c : Int) : leS (ladPre k x a b w c) (ladPre k x a b w c) := ⟨leT_refl _, rfl, rfl, rfl, rfl, rfl, trivial⟩
theorem ladPre_low (k x a b : Value) (w c : Int) : low (ladPre k x a b w c) = true := by kernel_rfl
theorem lad_round (f φ p q : Nat → Int) (w : Int) (n : Nat) (h : n < 256) : ladRound f φ p q w n := by
  have key : ladRound f φ p q w n = ladWant f φ p q w n := by
    rcases Nat.lt_or_ge n 64 with h1 | h1
    · exact mapL_eq (lad_round0 f φ p q w) n (mem_runN (by omega) (by omega))
    rcases Nat.lt_or_ge n 128 with h1 | h1
    · exact mapL_eq (lad_round1 f φ p q w) n (mem_runN (by omega) (by omega))
    rcases Nat.lt_or_ge n 192 with h1 | h1
    · exact mapL_eq (lad_round2 f φ p q w) n (mem_runN (by omega) (by omega))
    · exact mapL_eq (lad_round3 f φ p q w) n (mem_runN (by omega) (by omega))
  rw [key]
  exact ladPre_refl _ _ _ _ _ _
/-- the state with a pair of pairs -/
def ladSt (f φ : Nat → Int) (s : LS) (n : Nat) : AS := ladPre (vK φ) (lims f) (lims10 (limF s.a)) (lims10 (limF s.b)) s.w (ctrI n)
def ladT (f φ : Nat → Int) (n : Nat) : AS := ladSt f φ (ladN (lims f) (vK φ) n) n
noncomputable def ladC (f φ : Nat → Int) : LoopC := ⟨.loop f71l, ladT f φ 0, .normal, ladT f φ 256⟩
theorem pX_lims (a : Value) : pX (lims10 (limF a)) = pX a := rfl
theorem pZ_lims (a : Value) : pZ (lims10 (limF a)) = pZ a := rfl
theorem spA_lims (m : Int) (a b : Value) : spA m (lims10 (limF a)) (lims10 (limF b)) = spA m a b := by unfold spA; rw [pX_lims, pX_lims, pZ_lims, pZ_lims]
theorem spB_lims (m : Int) (a b : Value) : spB m (lims10 (limF a)) (lims10 (limF b)) = spB m a b := by unfold spB; rw [pX_lims, pX_lims, pZ_lims, pZ_lims]
theorem pr_lims (x z : Value) : lims10 (limF (pr x z)) = pr x z := rfl
theorem stA_lims (a : Value) : lims10 (limF (stA a)) = stA a := by unfold stA; rw [pr_lims]
theorem stB_lims (x a b : Value) : lims10 (limF (stB x a b)) = stB x a b := by unfold stB; rw [pr_lims]
theorem ladNx_eq (f φ : Nat → Int) (s : LS) (n : Nat) : ladNx f φ (limF s.a) (limF s.b) s.w n = ladSt f φ (ladS (lims f) s (kbit (vK φ) (255 - n))) (n + 1) := by
  unfold ladNx ladSt ladS
  simp only [spA_lims, spB_lims, stA_lims, stB_lims]
theorem lad_lo (f φ : Nat → Int) : LoOk Try.prog [(0, ladC f φ)] := by
  refine lo_count (sy := []) (br := []) orcJ2_ok (ladT f φ) 256 (fun k => ladPre_low _ _ _ _ _ _) (fun n hn => ⟨[], 100, ?_⟩) ⟨[], 100, ?_⟩
  · have h := lad_round f φ (limF (ladN (lims f) (vK φ) n).a) (limF (ladN (lims f) (vK φ) n).b) (ladN (lims f) (vK φ) n).w n hn
    unfold ladRound at h
    rw [ladNx_eq] at h
    exact h
  · exact of_eq' (lad_last f φ (limF (ladN (lims f) (vK φ) 256).a) (limF (ladN (lims f) (vK φ) 256).b) (ladN (lims f) (vK φ) 256).w) (ladPre_refl _ _ _ _ _ _)
def ladFS : List Sh := [.arr .u8 32, .arr .u64 5]
def lad0F (a : List Value) : Bool × Value := (true, ladV (getD a 0) (getD a 1))
theorem lad_ev (e : Env) : evBody tab orcJ2 [] [] [(0, ladC (e.i 1) (e.i 0))] 1000 Try.f71 (bodyOf Try.f71) (mkA ladFS e 0) [] 0 [] (fun r => r = (lad0F (mkA ladFS e 0)).2) =
    (Code.loop f71l = Code.loop f71l ∧ leS (ladT (e.i 1) (e.i 0) 0) (ladT (e.i 1) (e.i 0) 0) ∧ (lad0F (mkA ladFS e 0)).2 = (lad0F (mkA ladFS e 0)).2) := by kernel_rfl
theorem lad0_ok : FoOk 71 (foOf ladFS lad0F) := fo_of' Try.func71 (c := bodyOf Try.f71) (by kernel_rfl) (by kernel_rfl) (fun e => by kernel_rfl) fun e _ =>
  fo_ctr orcJ2_ok Try.func71 (by kernel_rfl) ids_mk (of_eq' (lad_ev e) ⟨rfl, ladPre_refl _ _ _ _ _ _, rfl⟩) (lad_lo _ _)
def ladF (a : List Value) : Bool × Value := (true, nrm (ladV (getD a 0) (getD a 1)))
theorem ladF_eq : ladF = lad0F := by
  funext a
  unfold ladF lad0F ladV affV
  rw [nrm_mul]
theorem lad_ok : FoOk 71 (foOf ladFS ladF) := by rw [ladF_eq]; exact lad0_ok
def orcJ3 : Orc := oadd orcJ2 71 (foOf ladFS ladF)
theorem orcJ3_ok : OrcOk Try.prog orcJ3 := oadd_ok orcJ2_ok lad_ok
end Go.Proofs.Ythgefjgbkhkmgaa.Ev
