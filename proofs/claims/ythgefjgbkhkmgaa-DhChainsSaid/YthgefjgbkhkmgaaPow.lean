/-
  Layer 4 walked: Power; its loop round by round.
-/
import Derived.Test.YthgefjgbkhkmgaaInv
namespace Go.Proofs.Ythgefjgbkhkmgaa.Ev
open Go Go.RowKit
attribute [local irreducible] evC evBody

noncomputable def f62l : Code := inB (blockIn 0 (bodyOf Try.f62))
/-- what the counter is behind n rounds of 256 -/
def ctrI (n : Nat) : Int := match Nat.ble n 255 with
  | true => .ofNat (255 - n)
  | false => .negSucc 0
def powPre (a k o : Value) (c : Int) : AS := ⟨tmps [(2, ptr 0), (3, ptr 1), (4, ptr 2), (5, ptr 4), (6, .int .i64 c)] 31 0,
  [(0, ⟨cellsV a, 36, true, 0⟩), (1, ⟨cellsV k, 23, true, 0⟩), (2, ⟨zrep 5 (.int .u64 0), 36, true, 0⟩), (4, ⟨cellsV o, 36, true, 0⟩)], 200⟩
def powRound (f φ g : Nat → Int) (n : Nat) : Prop := evC tab orcI4 [] [] [] 100 f62l (fun e _ s' => match e with | .normal => leS (powPre (lims f) (vK φ) (powS (lims f) (lims g) (kb (vK φ) (255 - n))) (ctrI (n + 1))) s' | _ => False) [] (powPre (lims f) (vK φ) (lims g) (ctrI n))
def powWant (f φ g : Nat → Int) (n : Nat) : Prop := leS (powPre (lims f) (vK φ) (powS (lims f) (lims g) (kb (vK φ) (255 - n))) (ctrI (n + 1))) (powPre (lims f) (vK φ) (powS (lims f) (lims g) (kb (vK φ) (255 - n))) (ctrI (n + 1)))
theorem pow_round0 (f φ g : Nat → Int) : List.map (powRound f φ g) (runN 0 64) = mapL (powWant f φ g) (runN 0 64) := by kernel_rfl
theorem pow_round1 (f φ g : Nat → Int) : List.map (powRound f φ g) (runN 64 64) = mapL (powWant f φ g) (runN 64 64) := by kernel_rfl
theorem pow_round2 (f φ g : Nat → Int) : List.map (powRound f φ g) (runN 128 64) = mapL (powWant f φ g) (runN 128 64) := by kernel_rfl
theorem pow_round3 (f φ g : Nat → Int) : List.map (powRound f φ g) (runN 192 64) = mapL (powWant f φ g) (runN 192 64) := by kernel_rfl
theorem pow_last (f φ g : Nat → Int) : evC tab orcI4 [] [] [] 100 f62l (fun e _ s' => match e with | .exit j => (match Nat.beq j 0 with | true => leS (powPre (lims f) (vK φ) (lims g) (ctrI 256)) s' | false => False) | _ => False) [] (powPre (lims f) (vK φ) (lims g) (ctrI 256)) =
    leS (powPre (lims f) (vK φ) (lims g) (ctrI 256)) (powPre (lims f) (vK φ) (lims g) (ctrI 256)) := by kernel_rfl
theorem powPre_refl (a k o : Value) (c : Int) : leS (powPre a k o c) (powPre a k o c) := ⟨leT_refl _, rfl, rfl, rfl, rfl, trivial⟩
theorem powPre_low (a k o : Value) (c : Int) : low (powPre a k o c) = true := by kernel_rfl
theorem pow_round (f φ g : Nat → Int) (n : Nat) (h : n < 256) : powRound f φ g n := by
  have key : powRound f φ g n = powWant f φ g n := by
    rcases Nat.lt_or_ge n 64 with h1 | h1
    · exact mapL_eq (pow_round0 f φ g) n (mem_runN (by omega) (by omega))
    rcases Nat.lt_or_ge n 128 with h1 | h1
    · exact mapL_eq (pow_round1 f φ g) n (mem_runN (by omega) (by omega))
    rcases Nat.lt_or_ge n 192 with h1 | h1
    · exact mapL_eq (pow_round2 f φ g) n (mem_runN (by omega) (by omega))
    · exact mapL_eq (pow_round3 f φ g) n (mem_runN (by omega) (by omega))
  rw [key]
  exact powPre_refl _ _ _ _
def powT (f φ : Nat → Int) (n : Nat) : AS := powPre (lims f) (vK φ) (lims (limF (powN (lims f) (vK φ) n))) (ctrI n)
noncomputable def powC (f φ : Nat → Int) : LoopC := ⟨.loop f62l, powT f φ 0, .normal, powT f φ 256⟩
theorem powS_lims (a o : Value) (c : Int) : powS a (lims (limF o)) c = lims (limF (powS a o c)) := rfl
theorem pow_lo (f φ : Nat → Int) : LoOk Try.prog [(0, powC f φ)] := by
  refine lo_count (sy := []) (br := []) orcI4_ok (powT f φ) 256 (fun k => powPre_low _ _ _ _) (fun n hn => ⟨[], 100, ?_⟩) ⟨[], 100, ?_⟩
  · have h := pow_round f φ (limF (powN (lims f) (vK φ) n)) n hn
    unfold powRound at h
    rw [powS_lims] at h
    exact h
  · exact of_eq' (pow_last f φ (limF (powN (lims f) (vK φ) 256))) (powPre_refl _ _ _ _)
def powFS : List Sh := [.arr .u64 5, .arr .u8 32]
def powF (a : List Value) : Bool × Value := (true, nrm (powV (getD a 0) (getD a 1)))
theorem pow_ev (e : Env) : evBody tab orcI4 [] [] [(0, powC (e.i 0) (e.i 1))] 1000 Try.f62 (bodyOf Try.f62) (mkA powFS e 0) [] 0 [] (fun r => r = (powF (mkA powFS e 0)).2) =
    (Code.loop f62l = Code.loop f62l ∧ leS (powT (e.i 0) (e.i 1) 0) (powT (e.i 0) (e.i 1) 0) ∧ (powF (mkA powFS e 0)).2 = (powF (mkA powFS e 0)).2) := by kernel_rfl
theorem pow_ok : FoOk 62 (foOf powFS powF) := fo_of' Try.func62 (c := bodyOf Try.f62) (by kernel_rfl) (by kernel_rfl) (fun e => by kernel_rfl) fun e _ =>
  fo_ctr orcI4_ok Try.func62 (by kernel_rfl) ids_mk (of_eq' (pow_ev e) ⟨rfl, powPre_refl _ _ _ _, rfl⟩) (pow_lo _ _)
def orcI5 : Orc := oadd orcI4 62 (foOf powFS powF)
theorem orcI5_ok : OrcOk Try.prog orcI5 := oadd_ok orcI4_ok pow_ok
end Go.Proofs.Ythgefjgbkhkmgaa.Ev
