/-
  Product walked, of so many elements; and the document's, of so many numbers.
-/
import Derived.Test.YthgefjgbkhkmgaaRef3
import Derived.Test.YthgefjgbkhkmgaaIsW
import Derived.Test.YthgefjgbkhkmgaaInv
import Derived.Test.YthgefjgbkhkmgaaAw3
namespace Go.Proofs.Ythgefjgbkhkmgaa.Ev
open Go Go.RowKit
open Sap (F P toF)
attribute [local irreducible] evC evBody

/-- an element of a row of elements -/
def eA (φ : Nat → Int) (i : Nat) : Value := lims (fun j => φ (5 * i + j))
def slE (n c : Nat) : Value := .slice (some ⟨0, 0, none⟩) n c
def hpE (φ : Nat → Int) (n : Nat) : Heap := [(0, ⟨cellsOf .u64 φ (5 * n) 0, 36, false, 0⟩)]
/-! ## Product of elements: products by whatever function -/
noncomputable def f57l : Code := inB (blockIn 0 (bodyOf Try.f57))
def orcG57 (W : Value → Value → Nat → Int) : Orc := oadd orcL2 54 (foOf elS2 fun a => (true, lims (W (getD a 0) (getD a 1))))
def proPre (φ : Nat → Int) (c n : Nat) (o : Value) (i : Int) : AS := ⟨tmps [(2, ptr 1), (3, ptr 3), (7, slE n c), (8, .int .i64 (.ofNat n)), (9, .int .i64 i)] 18 0,
  [(0, ⟨cellsOf .u64 φ (5 * n) 0, 36, false, 0⟩), (1, ⟨zrep 5 (.int .u64 0), 36, true, 0⟩), (3, ⟨cellsV o, 36, true, 0⟩)], 200⟩
def proRound (W : Value → Value → Nat → Int) (φ g : Nat → Int) (c n i : Nat) : Prop := evC tab (orcG57 W) [] [] [] 100 f57l (fun e _ s' => match e with | .normal => leS (proPre φ c n (lims (W (lims g) (eA φ i))) (.ofNat (i + 1))) s' | _ => False) [] (proPre φ c n (lims g) (.ofNat i))
def proWant (W : Value → Value → Nat → Int) (φ g : Nat → Int) (c n i : Nat) : Prop := leS (proPre φ c n (lims (W (lims g) (eA φ i))) (.ofNat (i + 1))) (proPre φ c n (lims (W (lims g) (eA φ i))) (.ofNat (i + 1)))
def proLast (W : Value → Value → Nat → Int) (φ g : Nat → Int) (c n : Nat) : Prop := evC tab (orcG57 W) [] [] [] 100 f57l (fun e _ s' => match e with | .exit j => (match Nat.beq j 0 with | true => leS (proPre φ c n (lims g) (.ofNat n)) s' | false => False) | _ => False) [] (proPre φ c n (lims g) (.ofNat n))
def proLastW (φ g : Nat → Int) (c n : Nat) : Prop := leS (proPre φ c n (lims g) (.ofNat n)) (proPre φ c n (lims g) (.ofNat n))
theorem pro_r (W : Value → Value → Nat → Int) (φ g : Nat → Int) (c : Nat) : List.map (fun n => List.map (proRound W φ g c n) (runN 0 n)) (runN 1 20) = mapL (fun n => mapL (proWant W φ g c n) (runN 0 n)) (runN 1 20) := by kernel_rfl
theorem pro_l (W : Value → Value → Nat → Int) (φ g : Nat → Int) (c : Nat) : List.map (proLast W φ g c) (runN 1 20) = mapL (proLastW φ g c) (runN 1 20) := by kernel_rfl
theorem proPre_refl (φ : Nat → Int) (c n : Nat) (o : Value) (i : Int) : leS (proPre φ c n o i) (proPre φ c n o i) := ⟨leT_refl _, rfl, rfl, rfl, trivial⟩
theorem proPre_low (φ : Nat → Int) (c n : Nat) (o : Value) (i : Int) : low (proPre φ c n o i) = true := by kernel_rfl
theorem pro_round (W : Value → Value → Nat → Int) (φ g : Nat → Int) (c : Nat) {n i : Nat} (h0 : 0 < n) (hn : n ≤ 20) (hi : i < n) : proRound W φ g c n i := by
  have key : proRound W φ g c n i = proWant W φ g c n i := mapL_eq (mapL_eq (pro_r W φ g c) n (mem_runN (by omega) (by omega))) i (mem_runN (by omega) (by omega))
  rw [key]
  exact proPre_refl _ _ _ _ _
def oneI : Nat → Int := limF (smallV (.int .u32 1))
/-- the limbs of so many multiplied -/
def proG (W : Value → Value → Nat → Int) (φ : Nat → Int) : Nat → Nat → Int
  | 0 => oneI
  | i + 1 => W (lims (proG W φ i)) (eA φ i)
def proT (W : Value → Value → Nat → Int) (φ : Nat → Int) (c n i : Nat) : AS := proPre φ c n (lims (proG W φ i)) (.ofNat i)
noncomputable def proC (W : Value → Value → Nat → Int) (φ : Nat → Int) (c n : Nat) : LoopC := ⟨.loop f57l, proT W φ c n 0, .normal, proT W φ c n n⟩
theorem pro_lo {W : Value → Value → Nat → Int} (hO : OrcOk Try.prog (orcG57 W)) (φ : Nat → Int) (c : Nat) {n : Nat} (h0 : 0 < n) (hn : n ≤ 20) : LoOk Try.prog [(0, proC W φ c n)] := by
  refine lo_count (sy := []) (br := []) hO (proT W φ c n) n (fun _ => proPre_low _ _ _ _ _) (fun i hi => ⟨[], 100, ?_⟩) ⟨[], 100, ?_⟩
  · exact pro_round W φ (proG W φ i) c h0 hn hi
  · have h := mapL_eq (pro_l W φ (proG W φ n) c) n (mem_runN (by omega) (by omega))
    exact of_eq' h (proPre_refl _ _ _ _ _)
theorem pron_ev (W : Value → Value → Nat → Int) (φ : Nat → Int) (c : Nat) : List.map (fun n => evBody tab (orcG57 W) [] [] [(0, proC W φ c n)] 1000 Try.f57 (bodyOf Try.f57) [slE n c] (hpE φ n) 1 [] (fun r => r = lims (proG W φ n))) (runN 1 20) =
    mapL (fun n => Code.loop f57l = Code.loop f57l ∧ leS (proT W φ c n 0) (proT W φ c n 0) ∧ lims (proG W φ n) = lims (proG W φ n)) (runN 1 20) := by kernel_rfl
theorem pro0_ev (W : Value → Value → Nat → Int) (o c : Nat) : evBody tab (orcG57 W) [] [] [] 1000 Try.f57 (bodyOf Try.f57) [.slice (some ⟨0, o, none⟩) 0 c] [] 1 [] (fun r => r = lims oneI) = (lims oneI = lims oneI) := by kernel_rfl
theorem pronil_ev (W : Value → Value → Nat → Int) : evBody tab (orcG57 W) [] [] [] 1000 Try.f57 (bodyOf Try.f57) [.slice none 0 0] [] 0 [] (fun r => r = lims oneI) = (lims oneI = lims oneI) := by kernel_rfl
def mQ (x y : Value) : Nat → Int := limF (mulV x y)
theorem mQ_eq (x y : Value) : lims (mQ x y) = mulV x y := (show lims (mQ x y) = nrm (mulV x y) from rfl).trans (nrm_mul x y)
theorem orcG57_ok : OrcOk Try.prog (orcG57 mQ) := by
  have h2 : (fun a : List Value => (true, lims (mQ (getD a 0) (getD a 1)))) = mulF := by
    funext a
    rw [mQ_eq]
    rfl
  unfold orcG57
  rw [h2]
  exact oadd_ok orcL2_ok mulx_ok
/-- the elements multiplied, from the cells -/
def proL (cs : List Value) (n : Nat) : Value := lims (proG mQ (fun j => atI cs j) n)
def proO : List Value → Blks → Option (Bool × Value)
  | [.slice none 0 0], _ => some (true, lims oneI)
  | [.slice (some ⟨b, o, none⟩) n _], g => match n with
    | 0 => some (true, lims oneI)
    | n + 1 => match Nat.beq o 0, g b with
      | true, some k => match Nat.beq k.ty 36 && Nat.ble (n + 1) 20 && isA .u64 (5 * (n + 1)) k.cs with
        | true => some (true, proL k.cs (n + 1))
        | false => none
      | _, _ => none
  | _, _ => none
theorem proG_congr {W : Value → Value → Nat → Int} {φ ψ : Nat → Int} : ∀ n, (∀ j, j < 5 * n → φ j = ψ j) → proG W φ n = proG W ψ n := by
  intro n
  induction n with
  | zero => intro _; rfl
  | succ n ih =>
    intro h
    show W (lims (proG W φ n)) (eA φ n) = W (lims (proG W ψ n)) (eA ψ n)
    rw [ih fun j hj => h j (by omega)]
    have e : eA φ n = eA ψ n := by
      show ints [φ (5 * n + 0), φ (5 * n + 1), φ (5 * n + 2), φ (5 * n + 3), φ (5 * n + 4)] = ints [ψ (5 * n + 0), ψ (5 * n + 1), ψ (5 * n + 2), ψ (5 * n + 3), ψ (5 * n + 4)]
      rw [h _ (by omega), h _ (by omega), h _ (by omega), h _ (by omega), h _ (by omega)]
    rw [e]
theorem proL_eq (φ : Nat → Int) (n : Nat) : proL (cellsOf .u64 φ (5 * n) 0) n = lims (proG mQ φ n) := by
  unfold proL
  rw [proG_congr (ψ := φ) n fun j hj => by rw [atI_cells (5 * n) 0 j hj, Nat.zero_add]]
/-- a contract at a slice that is the one argument -/
theorem sl_ctr {f : Nat} {orc : Orc} {sy : Sy} {br : List Nat} {fn : Func} {c : Code} {sc : List Bool} {g : Blks} {b o n cap : Nat} {H : Heap} {v : Value} {lo : Lo} {k : Option Blk} (hO : OrcOk Try.prog orc) (hf : Try.prog.funcs[f]? = some fn) (hb : fn.body = some c) (hL : LoOk Try.prog lo)
    (hH : ∀ i blk, hget H i = some blk → i = 0 ∧ blk.own = false ∧ blk.ap = 0 ∧ ∃ q p, k = some ⟨blk.cs, blk.ty, q, p⟩) (hk : g b = k)
    (hev : evBody tab orc sy br lo 1000 fn c [.slice (some ⟨0, o, none⟩) n cap] H 1 sc (fun r => r = v)) : Ctr Try.prog f [.slice (some ⟨b, o, none⟩) n cap] g v := by
  intro ρ w p1 p2 p3
  have key : Ctr Try.prog f [.slice (some ⟨0, o, none⟩) n cap] (fun _ => g b) v := ctr_of_ev tabOk hO mixed hL hf hb hev (by intro i hi; rw [show idsOf [.slice (some ⟨0, o, none⟩) n cap] = [0] from rfl, List.mem_singleton] at hi; omega) (by
    intro i blk hib
    obtain ⟨e1, e2, e3, q, p, e4⟩ := hH i blk hib
    subst e1
    exact ⟨by rw [show idsOf [.slice (some ⟨0, o, none⟩) n cap] = [0] from rfl]; exact List.mem_singleton.2 rfl, e2, e3, q, p, by rw [hk]; exact e4⟩)
  refine key (fun _ => ρ b) w (fun i hi => ?_) (fun i hi j hj _ => ?_) (fun x hx => ?_)
  · obtain ⟨k', e1, e2⟩ := p1 b (by rw [show idsOf [.slice (some ⟨b, o, none⟩) n cap] = [b] from rfl]; exact List.mem_singleton.2 rfl)
    exact ⟨k', e1, e2⟩
  · rw [show idsOf [.slice (some ⟨0, o, none⟩) n cap] = [0] from rfl, List.mem_singleton] at hi hj
    rw [hi, hj]
  · rw [List.mem_singleton] at hx
    subst hx
    exact trivial
theorem one_own {b : Blk} {cs : List Value} {ty : Nat} (hcs : b.cs = cs) (hty : b.ty = ty) : ∀ i blk, hget [(0, ⟨cs, ty, false, 0⟩)] i = some blk → i = 0 ∧ blk.own = false ∧ blk.ap = 0 ∧ ∃ q p, some b = some ⟨blk.cs, blk.ty, q, p⟩ := by
  intro i blk hib
  simp only [hget] at hib
  split at hib
  · rename_i hbeq
    have := Nat.eq_of_beq_eq_true hbeq
    cases hib
    exact ⟨this.symm, rfl, rfl, b.own, b.ap, by rw [← hcs, ← hty]⟩
  · cases hib
theorem none_own {k : Option Blk} : ∀ i blk, hget [] i = some blk → i = 0 ∧ blk.own = false ∧ blk.ap = 0 ∧ ∃ q p, k = some ⟨blk.cs, blk.ty, q, p⟩ := by
  intro i blk hib
  cases hib
theorem proO_ok : HoOk 57 proO := by
  refine ⟨⟨Try.f57, Try.func57, by kernel_rfl, by kernel_rfl⟩, fun args g r v h _ => ?_, fun args g g' hg => ?_⟩
  · unfold proO at h
    split at h
    · cases h
      obtain ⟨q1, q2⟩ := okV_ok (v := lims oneI) (by rfl)
      exact ⟨q1, q2, ctr_of_ev tabOk orcG57_ok mixed loOk_nil Try.func57 (c := bodyOf Try.f57) (by kernel_rfl) (of_eq' (pronil_ev mQ) rfl) (by intro i hi; cases hi) (by intro i b hib; cases hib)⟩
    · rename_i b o n c
      split at h
      · cases h
        obtain ⟨q1, q2⟩ := okV_ok (v := lims oneI) (by rfl)
        exact ⟨q1, q2, sl_ctr (H := []) (k := g b) orcG57_ok Try.func57 (c := bodyOf Try.f57) (by kernel_rfl) loOk_nil none_own rfl (of_eq' (pro0_ev mQ o c) rfl)⟩
      · rename_i n
        split at h
        · rename_i k ho hk
          split at h
          · rename_i hb
            cases h
            simp only [Bool.and_eq_true] at hb
            obtain ⟨⟨b1, b2⟩, b3⟩ := hb
            have b1 := Nat.eq_of_beq_eq_true b1
            have b2 := Nat.le_of_ble_eq_true b2
            have ho := Nat.eq_of_beq_eq_true ho
            subst ho
            obtain ⟨φ, hφ⟩ := isA_eq b3
            rw [hφ, proL_eq]
            obtain ⟨q1, q2⟩ := okV_ok (v := lims (proG mQ φ (n + 1))) (by rfl)
            exact ⟨q1, q2, sl_ctr (H := hpE φ (n + 1)) (k := some k) orcG57_ok Try.func57 (c := bodyOf Try.f57) (by kernel_rfl) (pro_lo orcG57_ok φ c (by omega) b2) (one_own hφ b1) hk (of_eq' (mapL_eq (pron_ev mQ φ c) (n + 1) (mem_runN (by omega) (by omega))) ⟨rfl, proPre_refl _ _ _ _ _, rfl⟩)⟩
          · cases h
        · cases h
    · cases h
  · unfold proO
    split
    · rfl
    · rename_i b o n c
      rw [hg b (by simp [idsOf, idOf])]
    · rfl
/-! ## the document's Product -/
noncomputable def orcP59 : Orc := oadd (oadd orcR1 42 (foOf smallS smallnF)) 58 (foOf numS2 mulnF)
theorem orcP59_ok : OrcOk Try.prog orcP59 := oadd_ok (oadd_ok orcR1_ok smalln_ok) muln_ok
noncomputable def f59l : Code := inB (blockIn 0 (bodyOf Try.f59))
/-- a number of a row of numbers -/
def nA (φ : Nat → Int) (i : Nat) : Value := vN (fun j => φ (16 * i + j))
def slM (n c : Nat) : Value := .slice (some ⟨0, 0, none⟩) n c
def hpM (φ : Nat → Int) (n : Nat) : Heap := [(0, ⟨cellsOf .i64 φ (16 * n) 0, 45, false, 0⟩)]
def rpPre (φ : Nat → Int) (c n : Nat) (a : F) (i : Int) : AS := ⟨tmps [(0, slM n c), (2, ptr 1), (3, ptr 3), (4, .int .i64 i)] 19 0,
  [(0, ⟨cellsOf .i64 φ (16 * n) 0, 45, false, 0⟩), (1, ⟨zrep 16 (.int .i64 0), 45, true, 0⟩), (3, ⟨cellsV (vNum a), 45, true, 0⟩)], 200⟩
def rpRound (φ : Nat → Int) (a : F) (c n i : Nat) : Prop := evC tab orcP59 [(17, .ok)] [] [] 100 f59l (fun e _ s' => match e with | .normal => leS (rpPre φ c n (NF (vNum a) * NF (nA φ i)) (.ofNat (i + 1))) s' | _ => False) [] (rpPre φ c n a (.ofNat i))
def rpWant (φ : Nat → Int) (a : F) (c n i : Nat) : Prop := ifP (can (vNum a) ∧ can (nA φ i)) = true ∧ leS (rpPre φ c n (NF (vNum a) * NF (nA φ i)) (.ofNat (i + 1))) (rpPre φ c n (NF (vNum a) * NF (nA φ i)) (.ofNat (i + 1)))
def rpLast (φ : Nat → Int) (a : F) (c n : Nat) : Prop := evC tab orcP59 [(17, .ok)] [] [] 100 f59l (fun e _ s' => match e with | .exit j => (match Nat.beq j 0 with | true => leS (rpPre φ c n a (.ofNat n)) s' | false => False) | _ => False) [] (rpPre φ c n a (.ofNat n))
def rpLastW (φ : Nat → Int) (a : F) (c n : Nat) : Prop := leS (rpPre φ c n a (.ofNat n)) (rpPre φ c n a (.ofNat n))
theorem rp_r (φ : Nat → Int) (a : F) (c : Nat) : List.map (fun n => List.map (rpRound φ a c n) (runN 0 n)) (runN 1 20) = mapL (fun n => mapL (rpWant φ a c n) (runN 0 n)) (runN 1 20) := by kernel_rfl
theorem rp_l (φ : Nat → Int) (a : F) (c : Nat) : List.map (rpLast φ a c) (runN 1 20) = mapL (rpLastW φ a c) (runN 1 20) := by kernel_rfl
theorem rpPre_refl (φ : Nat → Int) (c n : Nat) (a : F) (i : Int) : leS (rpPre φ c n a i) (rpPre φ c n a i) := ⟨leT_refl _, rfl, rfl, rfl, trivial⟩
theorem rpPre_low (φ : Nat → Int) (c n : Nat) (a : F) (i : Int) : low (rpPre φ c n a i) = true := by kernel_rfl
theorem rp_round (φ : Nat → Int) (a : F) (c : Nat) {n i : Nat} (h0 : 0 < n) (hn : n ≤ 20) (hi : i < n) (hc : can (nA φ i)) : rpRound φ a c n i := by
  have key : rpRound φ a c n i = rpWant φ a c n i := mapL_eq (mapL_eq (rp_r φ a c) n (mem_runN (by omega) (by omega))) i (mem_runN (by omega) (by omega))
  rw [key]
  exact ⟨ifP_of ⟨can_vNum _, hc⟩, rpPre_refl _ _ _ _ _⟩
/-- so many multiplied -/
noncomputable def rpN (φ : Nat → Int) : Nat → F
  | 0 => FI 1
  | i + 1 => NF (vNum (rpN φ i)) * NF (nA φ i)
noncomputable def rpT (φ : Nat → Int) (c n i : Nat) : AS := rpPre φ c n (rpN φ i) (.ofNat i)
noncomputable def rpC (φ : Nat → Int) (c n : Nat) : LoopC := ⟨.loop f59l, rpT φ c n 0, .normal, rpT φ c n n⟩
theorem rp_lo {φ : Nat → Int} (c : Nat) {n : Nat} (h0 : 0 < n) (hn : n ≤ 20) (hc : ∀ i, i < n → can (nA φ i)) : LoOk Try.prog [(0, rpC φ c n)] := by
  refine lo_count (sy := [(17, .ok)]) (br := []) orcP59_ok (rpT φ c n) n (fun _ => rpPre_low _ _ _ _ _) (fun i hi => ⟨[], 100, ?_⟩) ⟨[], 100, ?_⟩
  · exact rp_round φ (rpN φ i) c h0 hn hi (hc i hi)
  · have h := mapL_eq (rp_l φ (rpN φ n) c) n (mem_runN (by omega) (by omega))
    exact of_eq' h (rpPre_refl _ _ _ _ _)
def oneQ : Prop := ifP ((0 : Int) ≤ 1 ∧ (1 : Int) < 4294967296) = true
theorem oneQ_ok : oneQ := ifP_of ⟨by decide, by decide⟩
theorem rpn_ev (φ : Nat → Int) (c : Nat) : List.map (fun n => evBody tab orcP59 [(5, .ok)] [] [(0, rpC φ c n)] 1000 Try.f59 (bodyOf Try.f59) [slM n c] (hpM φ n) 1 [] (fun r => r = vNum (rpN φ n))) (runN 1 20) =
    mapL (fun n => oneQ ∧ Code.loop f59l = Code.loop f59l ∧ leS (rpT φ c n 0) (rpT φ c n 0) ∧ vNum (rpN φ n) = vNum (rpN φ n)) (runN 1 20) := by kernel_rfl
theorem rp0_ev (o c : Nat) : evBody tab orcP59 [(5, .ok)] [] [] 1000 Try.f59 (bodyOf Try.f59) [.slice (some ⟨0, o, none⟩) 0 c] [] 1 [] (fun r => r = vNum (FI 1)) = (oneQ ∧ vNum (FI 1) = vNum (FI 1)) := by kernel_rfl
theorem rpnil_ev : evBody tab orcP59 [(5, .ok)] [] [] 1000 Try.f59 (bodyOf Try.f59) [.slice none 0 0] [] 0 [] (fun r => r = vNum (FI 1)) = (oneQ ∧ vNum (FI 1) = vNum (FI 1)) := by kernel_rfl
def canL (cs : List Value) (n : Nat) : Prop := ∀ i, i < n → can (nA (fun j => atI cs j) i)
noncomputable def rpL (cs : List Value) (n : Nat) : Value := vNum (rpN (fun j => atI cs j) n)
noncomputable def rpO : List Value → Blks → Option (Bool × Value)
  | [.slice none 0 0], _ => some (true, vNum (FI 1))
  | [.slice (some ⟨b, o, none⟩) n _], g => match n with
    | 0 => some (true, vNum (FI 1))
    | n + 1 => match Nat.beq o 0, g b with
      | true, some k => match Nat.beq k.ty 45 && Nat.ble (n + 1) 20 && isA .i64 (16 * (n + 1)) k.cs with
        | true => some (ifP (canL k.cs (n + 1)), rpL k.cs (n + 1))
        | false => none
      | _, _ => none
  | _, _ => none
theorem nA_congr {φ ψ : Nat → Int} {i : Nat} (h : ∀ j, j < 16 * (i + 1) → φ j = ψ j) : nA φ i = nA ψ i := by
  show Value.agg _ = Value.agg _
  congr 2
  exact cells_congr fun j _ hj => h _ (by omega)
theorem rpN_congr {φ ψ : Nat → Int} : ∀ n, (∀ j, j < 16 * n → φ j = ψ j) → rpN φ n = rpN ψ n := by
  intro n
  induction n with
  | zero => intro _; rfl
  | succ n ih =>
    intro h
    show NF (vNum (rpN φ n)) * NF (nA φ n) = NF (vNum (rpN ψ n)) * NF (nA ψ n)
    rw [ih fun j hj => h j (by omega), nA_congr h]
theorem rpO_ok : HoOk 59 rpO := by
  refine ⟨⟨Try.f59, Try.func59, by kernel_rfl, by kernel_rfl⟩, fun args g r v h hc => ?_, fun args g g' hg => ?_⟩
  · unfold rpO at h
    split at h
    · cases h
      obtain ⟨q1, q2⟩ := okV_ok (okV_vNum (FI 1))
      exact ⟨q1, q2, ctr_of_ev tabOk orcP59_ok mixed loOk_nil Try.func59 (c := bodyOf Try.f59) (by kernel_rfl) (of_eq' rpnil_ev ⟨oneQ_ok, rfl⟩) (by intro i hi; cases hi) (by intro i b hib; cases hib)⟩
    · rename_i b o n c
      split at h
      · cases h
        obtain ⟨q1, q2⟩ := okV_ok (okV_vNum (FI 1))
        exact ⟨q1, q2, sl_ctr (H := []) (k := g b) orcP59_ok Try.func59 (c := bodyOf Try.f59) (by kernel_rfl) loOk_nil none_own rfl (of_eq' (rp0_ev o c) ⟨oneQ_ok, rfl⟩)⟩
      · rename_i n
        split at h
        · rename_i k ho hk
          split at h
          · rename_i hb
            cases h
            simp only [Bool.and_eq_true] at hb
            obtain ⟨⟨b1, b2⟩, b3⟩ := hb
            have b1 := Nat.eq_of_beq_eq_true b1
            have b2 := Nat.le_of_ble_eq_true b2
            have ho := Nat.eq_of_beq_eq_true ho
            subst ho
            obtain ⟨φ, hφ⟩ := isA_eq b3
            have hat : ∀ j, j < 16 * (n + 1) → atI k.cs j = φ j := fun j hj => by rw [hφ, atI_cells (16 * (n + 1)) 0 j hj, Nat.zero_add]
            have hc := of_ifP hc
            have hcan : ∀ i, i < n + 1 → can (nA φ i) := fun i hi => by
              rw [← nA_congr fun j hj => hat j (by omega)]
              exact hc i hi
            have hv : rpL k.cs (n + 1) = vNum (rpN φ (n + 1)) := by unfold rpL; rw [rpN_congr _ hat]
            rw [hv]
            obtain ⟨q1, q2⟩ := okV_ok (okV_vNum (rpN φ (n + 1)))
            exact ⟨q1, q2, sl_ctr (H := hpM φ (n + 1)) (k := some k) orcP59_ok Try.func59 (c := bodyOf Try.f59) (by kernel_rfl) (rp_lo c (by omega) b2 hcan) (one_own hφ b1) hk (of_eq' (mapL_eq (rpn_ev φ c) (n + 1) (mem_runN (by omega) (by omega))) ⟨oneQ_ok, rfl, rpPre_refl _ _ _ _ _, rfl⟩)⟩
          · cases h
        · cases h
    · cases h
  · unfold rpO
    split
    · rfl
    · rename_i b o n c
      rw [hg b (by simp [idsOf, idOf])]
    · rfl
end Go.Proofs.Ythgefjgbkhkmgaa.Ev