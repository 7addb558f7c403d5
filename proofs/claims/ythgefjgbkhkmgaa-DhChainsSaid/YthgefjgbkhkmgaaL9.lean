/-
  The law DhChains, walked, and its row.
-/
import Derived.Test.YthgefjgbkhkmgaaRef5C
import Derived.Test.YthgefjgbkhkmgaaRow
import Derived.Test.YthgefjgbkhkmgaaHead
import Derived.Deep.Slices
namespace Go.Proofs.Ythgefjgbkhkmgaa
open Go Go.ChangeShapes Go.WideShapes Go.ChangeAt Go.RowKit Ev
attribute [local irreducible] evC evBody

section
variable {H : Type} {enc : TypeId × Value → H}

set_option maxRecDepth 100000 in
theorem trod_row {t e : TypeId} {n : Nat} {k : IntKind} {W : World} {base : Nat} {sp : Nat → Bool} {held : Bool} {m : Nat} {cs : List Value} {y : DataW H × List MemPlace} (ht : Try.prog.underlying t = some (.array n e)) (he : Try.prog.underlying e = some (.int k))
    (hc : Try.prog.cellsOf e = 1) (hn : Try.prog.cellsOf t = n) (hf : DataW.trod enc Try.prog W base sp held m t cs = some y) : ∃ f : Nat → Int, cs = cellsOf k f n 0 ∧ ∀ j, j < n → (Lit.int k (f j)).wf = true := by
  cases m with
  | zero => simp [DataW.trod] at hf
  | succ m =>
    rw [DataW.trod_step] at hf
    unfold DataW.trodStep at hf
    simp only [ht] at hf
    by_cases h2 : cs.length = Try.prog.cellsOf t
    · rw [if_pos h2] at hf
      simp only [Option.map_eq_some_iff] at hf
      obtain ⟨ys, hy, _⟩ := hf
      rw [hn] at h2
      have key : ∀ (L : List Nat) (ys : List (DataW H × List MemPlace)), L.mapM (fun i => DataW.trod enc Try.prog W base sp held m e ((cs.drop (i * Try.prog.cellsOf e)).take (Try.prog.cellsOf e))) = some ys →
          ∀ i ∈ L, ∃ x, (cs.drop i).take 1 = [.int k x] ∧ (Lit.int k x).wf = true := by
        intro L
        induction L with
        | nil => intro _ _ i hi; cases hi
        | cons a L ih =>
          intro ys h i hi
          rw [List.mapM_cons] at h
          simp only [bind, Option.bind_eq_some_iff] at h
          obtain ⟨y, hy, ys', hys, _⟩ := h
          rcases List.mem_cons.1 hi with rfl | hi
          · obtain ⟨x, ex, _, wx⟩ := DataW.trod_int he hy
            rw [hc, Nat.mul_one] at ex
            exact ⟨x, ex, wx⟩
          · exact ih ys' hys i hi
      have hall := key _ _ hy
      have hone : ∀ i, i < n → ∃ x, cs[i]? = some (.int k x) ∧ (Lit.int k x).wf = true := by
        intro i hi
        obtain ⟨x, ex, wx⟩ := hall i (List.mem_range.2 hi)
        refine ⟨x, ?_, wx⟩
        have := congrArg (fun l => l[0]?) ex
        simpa using this
      have hA : isA k n cs = true := isA_of h2 fun i hi => by
        obtain ⟨x, ex, _⟩ := hone i hi
        exact ⟨x, ex⟩
      obtain ⟨f, hf⟩ := isA_eq hA
      refine ⟨f, hf, fun j hj => ?_⟩
      obtain ⟨x, ex, wx⟩ := hone j hj
      rw [hf] at ex
      rw [cells_get n 0 j hj, Nat.zero_add] at ex
      cases ex
      exact wx
    · rw [if_neg h2] at hf
      cases hf

theorem cells_each {W : World} {base : Nat} {a : Addr} {n : Nat} {cs : List Value} (h : W.cells? base a n = some cs) : ∀ j, j < n → W.cell? (a.add j) = cs[j]? := by
  unfold World.cells? at h
  split at h
  · have key : ∀ (L : List Nat) (r : List Value), L.mapM (fun i => W.cell? (a.add i)) = some r → ∀ j, j < L.length → W.cell? (a.add (L.getD j 0)) = r[j]? := by
      intro L
      induction L with
      | nil => intro r _ j hj; cases hj
      | cons x L ih =>
        intro r h j hj
        rw [List.mapM_cons] at h
        simp only [bind, Option.bind_eq_some_iff, pure, Option.some.injEq] at h
        obtain ⟨y, hy, ys, hys, rfl⟩ := h
        cases j with
        | zero => simpa using hy
        | succ j =>
          have := ih ys hys j (by simpa using hj)
          simpa using this
    intro j hj
    have := key _ _ h j (by simpa using hj)
    rw [← this]
    congr 2
    simp [List.getD, hj]
  · cases h

set_option maxRecDepth 100000 in
/-- a slice of rows of numbers, opened -/
theorem open_sl {ts te ek : TypeId} {sz : Nat} {k : IntKind} {W : World} {base' : Nat} {sp : Nat → Bool} {held : Bool} {v : Value} {d : DataW H} {ps : List MemPlace} (hts : Try.prog.underlying ts = some (.slice te)) (hte : Try.prog.underlying te = some (.array sz ek))
    (hek : Try.prog.underlying ek = some (.int k)) (hc : Try.prog.cellsOf ek = 1) (hn : Try.prog.cellsOf te = sz) (hval : Value.okWide Try.prog W .any base' ts v) (hd : DataW.Trod enc Try.prog W 0 sp held ts v d ps) :
    v = .slice none 0 0 ∨ ∃ blk off len cap, v = .slice (some ⟨blk, off, none⟩) len cap ∧ (∃ arr ty fr, W.heap[blk]? = some (.cells arr ty fr)) ∧ cap ≠ capX ∧
      ∃ φ : Nat → Int, (∀ j, j < sz * len → (Lit.int k (φ j)).wf = true) ∧ ∀ j, j < sz * len → W.cell? ⟨blk, off + j, none⟩ = some (.int k (φ j)) := by
  obtain ⟨fuel, hf⟩ := hd
  rcases Go.Deep.open_slice hts hf with ⟨h0, _⟩ | ⟨a, len, cap, m, n, D, Pl, h0, hb, hl, hm, hmm, _, hx⟩
  · left
    cases v with
    | agg cs =>
      exfalso
      simp only [Value.okWide, hts, Cell.okWide, Cell.ok] at hval
    | _ => simp [Value.cells] at h0 <;> first | exact h0 | simp_all
  · right
    have hv : v = .slice (some a) len cap := by
      cases v with
      | agg cs =>
        exfalso
        simp only [Value.okWide, hts, Cell.okWide, Cell.ok] at hval
      | _ => simp [Value.cells] at h0 <;> simp_all
    subst hv
    simp only [Value.okWide, hts, Cell.okWide, Cell.ok] at hval
    obtain ⟨_, _, _, hspot, row, cells, hsh, _⟩ := hval
    obtain ⟨blk, off, spot⟩ := a
    have hspot : spot = none := hspot
    subst hspot
    have hblk : ∃ arr ty fr, W.heap[blk]? = some (.cells arr ty fr) := by
      unfold World.shape? at hsh
      split at hsh
      · rename_i c el fr he
        exact ⟨c, el, fr, he⟩
      · cases hsh
    have hlm : len ≤ m := by rw [hmm]; split <;> omega
    have hrow : ∀ i, i < len → ∃ f : Nat → Int, (∀ j, j < sz → (Lit.int k (f j)).wf = true) ∧ ∀ j, j < sz → W.cell? ⟨blk, off + (i * sz + j), none⟩ = some (.int k (f j)) := by
      intro i hi
      obtain ⟨cs', q1, q2⟩ := hx i (by omega)
      obtain ⟨f, rfl, wf⟩ := trod_row hte hek hc hn q2
      refine ⟨f, wf, fun j hj => ?_⟩
      have := cells_each q1 j (by rw [hn]; exact hj)
      rw [cells_get sz 0 j hj, Nat.zero_add, hn, addr_add, addr_add, Nat.add_assoc] at this
      exact this
    obtain ⟨F, hF⟩ := Go.Deep.choose_lt hrow
    have hcap : cap ≠ capX := by
      intro e
      rw [e] at hm
      exact absurd hm (by unfold capX maxLen; decide)
    refine ⟨blk, off, len, cap, rfl, hblk, hcap, fun j => F (j / sz) (j % sz), fun j hj => ?_, fun j hj => ?_⟩
    · have hsz : 0 < sz := by rcases Nat.eq_zero_or_pos sz with h | h; · rw [h, Nat.zero_mul] at hj; omega
                              · exact h
      exact (hF (j / sz) (Nat.div_lt_of_lt_mul hj)).1 (j % sz) (Nat.mod_lt _ hsz)
    · have hsz : 0 < sz := by rcases Nat.eq_zero_or_pos sz with h | h; · rw [h, Nat.zero_mul] at hj; omega
                              · exact h
      have h1 := (hF (j / sz) (Nat.div_lt_of_lt_mul hj)).2 (j % sz) (Nat.mod_lt _ hsz)
      rw [show j / sz * sz + j % sz = j by rw [Nat.mul_comm]; exact Nat.div_add_mod j sz] at h1
      exact h1
end

/-- a window of a block -/
theorem win_of {W : World} {blk off N : Nat} {k : IntKind} {φ : Nat → Int} {arr : Array Value} {ty : TypeId} {fr : Nat × Nat} (hh : W.heap[blk]? = some (.cells arr ty fr)) (h : ∀ j, j < N → W.cell? ⟨blk, off + j, none⟩ = some (.int k (φ j))) (hN : 0 < N) :
    ∃ pre rest, W.heap[blk]? = some (.cells (pre ++ cellsOf k φ N 0 ++ rest).toArray ty fr) ∧ pre.length = off := by
  have hc : ∀ j, j < N → arr.toList[off + j]? = some (.int k (φ j)) := by
    intro j hj
    have := h j hj
    simp only [World.cell?, hh] at this
    simpa using this
  have hlen : off + N ≤ arr.toList.length := by
    have := (List.getElem?_eq_some_iff.1 (hc (N - 1) (by omega))).1
    omega
  refine ⟨arr.toList.take off, arr.toList.drop (off + N), ?_, by rw [List.length_take]; omega⟩
  have hm : (arr.toList.drop off).take N = cellsOf k φ N 0 := by
    have hl : (cellsOf k φ N 0).length = N := by
      have : ∀ n i, (cellsOf k φ n i).length = n := by
        intro n
        induction n with
        | zero => intro i; rfl
        | succ n ih => intro i; simp [cellsOf, ih]
      exact this N 0
    apply List.ext_getElem?
    intro j
    rcases Nat.lt_or_ge j N with hj | hj
    · rw [List.getElem?_take, if_pos hj, List.getElem?_drop, hc j hj, cells_get N 0 j hj, Nat.zero_add]
    · rw [List.getElem?_eq_none (by rw [List.length_take]; omega), List.getElem?_eq_none (by omega)]
  have e : arr.toList.take off ++ cellsOf k φ N 0 ++ arr.toList.drop (off + N) = arr.toList := by
    rw [← hm, ← List.drop_drop, List.append_assoc, List.take_append_drop, List.take_append_drop]
  rw [e, hh]

/-- a contract at a slice that is looked into -/
theorem win_calls {f : Nat} {args args' : List Value} {blk off N : Nat} {ty' : Nat} {k : IntKind} {φ : Nat → Int} {W : World} {v : Value} {arr : Array Value} {ty : TypeId} {fr : Nat × Nat}
    (h : Ctr Try.prog f args (fun _ => some ⟨cellsOf k φ N 0, ty', false, 0⟩) v) (hh : W.heap[blk]? = some (.cells arr ty fr)) (hcell : ∀ j, j < N → W.cell? ⟨blk, off + j, none⟩ = some (.int k (φ j))) (hN : 0 < N)
    (hids : ∀ i ∈ idsOf args, i = 0) (hargs : args.map (ren fun _ => (blk, 0, off)) = args') (hv : ∀ x ∈ args, vok x) : Calls Try.prog f args'.toArray W fun r w' => r = .returned v ∧ Below W.heap.size W w' := by
  obtain ⟨pre, rest, h1, h2⟩ := win_of hh hcell hN
  have := h (fun _ => (blk, 0, off)) W (fun i _ => ⟨_, rfl, pre, rest, fr, ty, h1, h2, (fun h => by cases h), fun c hc => cellsOf_ok c hc, fun h => absurd rfl h⟩) (fun i hi j hj _ => by rw [hids i hi, hids j hj]) hv
  rw [hargs] at this
  exact this
/-- a contract at a slice that is not looked into -/
theorem blind_calls {f : Nat} {args args' : List Value} {blk : Nat} {W : World} {v : Value} {arr : Array Value} {ty : TypeId} {fr : Nat × Nat}
    (h : Ctr Try.prog f args (fun _ => some ⟨[], 0, false, 0⟩) v) (hh : W.heap[blk]? = some (.cells arr ty fr))
    (hids : ∀ i ∈ idsOf args, i = 0) (hargs : args.map (ren fun _ => (blk, 0, 0)) = args') (hv : ∀ x ∈ args, vok x) : Calls Try.prog f args'.toArray W fun r w' => r = .returned v ∧ Below W.heap.size W w' := by
  have := h (fun _ => (blk, 0, 0)) W (fun i _ => ⟨_, rfl, [], arr.toList, fr, ty, by simpa using hh, rfl, (fun h => by cases h), fun c hc => (by cases hc), fun h => absurd rfl h⟩) (fun i hi j hj _ => by rw [hids i hi, hids j hj]) hv
  rw [hargs] at this
  exact this

def okE1 (b : Bool) : Prop := b = true
theorem okE1_of {p : Prop} (h : p) : okE1 (ifP p) := ifP_of h
theorem emit_bq {a b : Bool} (h : a = b) : emit (a == b) true := by subst h; cases a <;> rfl
noncomputable def orcX9 : Orc := oaddH (oadd orcD3 48 (foOf keyS2 shrF)) 49 chO
theorem orcX9_ok : OrcOk Try.prog orcX9 := oaddH_ok (oadd_ok orcD3_ok shr_ok) ch_ok
def ab (a b : Nat → Int) : Nat → Int := fun j => match Nat.ble 32 j with
  | true => b (j - 32)
  | false => a j
def l9_E (p a b : Nat → Int) (KS : List Value) (want : Value) (fine : Bool) : Prop :=
  emit (eqV (nrmK (chR (vK p) KS).1) want) true ∧ emit ((chR (vK p) KS).2 == fine) true ∧
  emit (chR (baseV (vK p)) (keysL (cellsOf .u8 (ab a b) 64 0) 2)).2 true ∧ emit (chR (baseV (vK p)) (keysL (cellsOf .u8 (ab b a) 64 0) 2)).2 true ∧
  emit (eqV (nrmK (chR (baseV (vK p)) (keysL (cellsOf .u8 (ab a b) 64 0) 2)).1) (nrmK (chR (baseV (vK p)) (keysL (cellsOf .u8 (ab b a) 64 0) 2)).1)) true ∧ Value.bool true = .bool true
theorem l9_big (p a b : Nat → Int) (o n c : Nat) : evBody tab orcX9 [(23, .b true)] [] [] 1000 Try.f9 (bodyOf Try.f9) [vK p, .slice (some ⟨0, o, none⟩) n c, vK a, vK b] [] 1 [] (fun r => r = .bool true) =
    (emit (decide (((n : Nat) : Int) > 4)) true ∧ Value.bool true = .bool true) := by kernel_rfl
theorem l9_nil (p a b : Nat → Int) : evBody tab orcX9 [(68, .b true), (72, .b true), (75, .b true), (78, .b true), (83, .b true)] [31, 40] [] 1000 Try.f9 (bodyOf Try.f9) [vK p, .slice none 0 0, vK a, vK b] [] 0 [false] (fun r => r = .bool true) =
    ((!true) = false ∧ l9_E p a b (keysL [] 0) (vK p) true) := by kernel_rfl
theorem l9_0 (p a b : Nat → Int) (o c : Nat) : evBody tab orcX9 [(68, .b true), (72, .b true), (75, .b true), (78, .b true), (83, .b true)] [31, 40] [] 1000 Try.f9 (bodyOf Try.f9) [vK p, .slice (some ⟨0, o, none⟩) 0 c, vK a, vK b] [(0, ⟨[], 0, false, 0⟩)] 1 [false] (fun r => r = .bool true) =
    ((!true) = false ∧ l9_E p a b (keysL [] 0) (vK p) true) := by kernel_rfl
theorem l9_1_0 (p a b φ : Nat → Int) (c : Nat) : evBody tab orcX9 [(35, .ok), (68, .b true), (72, .b true), (75, .b true), (78, .b true), (83, .b true)] [31, 40] [] 1000 Try.f9 (bodyOf Try.f9) [vK p, slK 1 c, vK a, vK b] (hpK φ 32) 1 [true, true] (fun r => r = .bool true) =
    (true = true ∧ okE1 (ifP (isK (dOf (kA φ 0)) ∧ isK (dOf (vK p)))) ∧ (!shE (kA φ 0) (vK p)) = true ∧ l9_E p a b (keysL (cellsOf .u8 φ 32 0) 1) zeroK (shE (kA φ 0) (vK p))) := by kernel_rfl
theorem l9_1_1 (p a b φ : Nat → Int) (c : Nat) : evBody tab orcX9 [(35, .ok), (68, .b true), (72, .b true), (75, .b true), (78, .b true), (83, .b true)] [31, 40] [] 1000 Try.f9 (bodyOf Try.f9) [vK p, slK 1 c, vK a, vK b] (hpK φ 32) 1 [true, false] (fun r => r = .bool true) =
    (true = true ∧ okE1 (ifP (isK (dOf (kA φ 0)) ∧ isK (dOf (vK p)))) ∧ (!shE (kA φ 0) (vK p)) = false ∧ l9_E p a b (keysL (cellsOf .u8 φ 32 0) 1) (shK (kA φ 0) (vK p)) (shE (kA φ 0) (vK p))) := by kernel_rfl
theorem l9_2_0 (p a b φ : Nat → Int) (c : Nat) : evBody tab orcX9 [(35, .ok), (68, .b true), (72, .b true), (75, .b true), (78, .b true), (83, .b true)] [31, 40] [] 1000 Try.f9 (bodyOf Try.f9) [vK p, slK 2 c, vK a, vK b] (hpK φ 64) 1 [true, false, true] (fun r => r = .bool true) =
    (true = true ∧ okE1 (ifP (isK (dOf (kA φ 0)) ∧ isK (dOf (vK p)))) ∧ shE (kA φ 0) (vK p) = false ∧ (!shE (kA φ 0) (vK p)) = true ∧ l9_E p a b (keysL (cellsOf .u8 φ 64 0) 2) zeroK (shE (kA φ 0) (vK p))) := by kernel_rfl
theorem l9_2_1 (p a b φ : Nat → Int) (c : Nat) : evBody tab orcX9 [(35, .ok), (68, .b true), (72, .b true), (75, .b true), (78, .b true), (83, .b true)] [31, 40] [] 1000 Try.f9 (bodyOf Try.f9) [vK p, slK 2 c, vK a, vK b] (hpK φ 64) 1 [true, true, true] (fun r => r = .bool true) =
    (true = true ∧ okE1 (ifP (isK (dOf (kA φ 0)) ∧ isK (dOf (vK p)))) ∧ shE (kA φ 0) (vK p) = true ∧ okE1 (ifP (isK (dOf (kA φ 1)) ∧ isK (dOf (shK (kA φ 0) (vK p))))) ∧ (!shE (kA φ 1) (shK (kA φ 0) (vK p))) = true ∧ l9_E p a b (keysL (cellsOf .u8 φ 64 0) 2) zeroK (shE (kA φ 1) (shK (kA φ 0) (vK p)))) := by kernel_rfl
theorem l9_2_2 (p a b φ : Nat → Int) (c : Nat) : evBody tab orcX9 [(35, .ok), (68, .b true), (72, .b true), (75, .b true), (78, .b true), (83, .b true)] [31, 40] [] 1000 Try.f9 (bodyOf Try.f9) [vK p, slK 2 c, vK a, vK b] (hpK φ 64) 1 [true, true, false] (fun r => r = .bool true) =
    (true = true ∧ okE1 (ifP (isK (dOf (kA φ 0)) ∧ isK (dOf (vK p)))) ∧ shE (kA φ 0) (vK p) = true ∧ okE1 (ifP (isK (dOf (kA φ 1)) ∧ isK (dOf (shK (kA φ 0) (vK p))))) ∧ (!shE (kA φ 1) (shK (kA φ 0) (vK p))) = false ∧ l9_E p a b (keysL (cellsOf .u8 φ 64 0) 2) (shK (kA φ 1) (shK (kA φ 0) (vK p))) (shE (kA φ 1) (shK (kA φ 0) (vK p)))) := by kernel_rfl
theorem l9_3_0 (p a b φ : Nat → Int) (c : Nat) : evBody tab orcX9 [(35, .ok), (68, .b true), (72, .b true), (75, .b true), (78, .b true), (83, .b true)] [31, 40] [] 1000 Try.f9 (bodyOf Try.f9) [vK p, slK 3 c, vK a, vK b] (hpK φ 96) 1 [true, false, false, true] (fun r => r = .bool true) =
    (true = true ∧ okE1 (ifP (isK (dOf (kA φ 0)) ∧ isK (dOf (vK p)))) ∧ shE (kA φ 0) (vK p) = false ∧ shE (kA φ 0) (vK p) = false ∧ (!shE (kA φ 0) (vK p)) = true ∧ l9_E p a b (keysL (cellsOf .u8 φ 96 0) 3) zeroK (shE (kA φ 0) (vK p))) := by kernel_rfl
theorem l9_3_1 (p a b φ : Nat → Int) (c : Nat) : evBody tab orcX9 [(35, .ok), (68, .b true), (72, .b true), (75, .b true), (78, .b true), (83, .b true)] [31, 40] [] 1000 Try.f9 (bodyOf Try.f9) [vK p, slK 3 c, vK a, vK b] (hpK φ 96) 1 [true, true, false, true] (fun r => r = .bool true) =
    (true = true ∧ okE1 (ifP (isK (dOf (kA φ 0)) ∧ isK (dOf (vK p)))) ∧ shE (kA φ 0) (vK p) = true ∧ okE1 (ifP (isK (dOf (kA φ 1)) ∧ isK (dOf (shK (kA φ 0) (vK p))))) ∧ shE (kA φ 1) (shK (kA φ 0) (vK p)) = false ∧ (!shE (kA φ 1) (shK (kA φ 0) (vK p))) = true ∧ l9_E p a b (keysL (cellsOf .u8 φ 96 0) 3) zeroK (shE (kA φ 1) (shK (kA φ 0) (vK p)))) := by kernel_rfl
theorem l9_3_2 (p a b φ : Nat → Int) (c : Nat) : evBody tab orcX9 [(35, .ok), (68, .b true), (72, .b true), (75, .b true), (78, .b true), (83, .b true)] [31, 40] [] 1000 Try.f9 (bodyOf Try.f9) [vK p, slK 3 c, vK a, vK b] (hpK φ 96) 1 [true, true, true, true] (fun r => r = .bool true) =
    (true = true ∧ okE1 (ifP (isK (dOf (kA φ 0)) ∧ isK (dOf (vK p)))) ∧ shE (kA φ 0) (vK p) = true ∧ okE1 (ifP (isK (dOf (kA φ 1)) ∧ isK (dOf (shK (kA φ 0) (vK p))))) ∧ shE (kA φ 1) (shK (kA φ 0) (vK p)) = true ∧ okE1 (ifP (isK (dOf (kA φ 2)) ∧ isK (dOf (shK (kA φ 1) (shK (kA φ 0) (vK p)))))) ∧ (!shE (kA φ 2) (shK (kA φ 1) (shK (kA φ 0) (vK p)))) = true ∧ l9_E p a b (keysL (cellsOf .u8 φ 96 0) 3) zeroK (shE (kA φ 2) (shK (kA φ 1) (shK (kA φ 0) (vK p))))) := by kernel_rfl
theorem l9_3_3 (p a b φ : Nat → Int) (c : Nat) : evBody tab orcX9 [(35, .ok), (68, .b true), (72, .b true), (75, .b true), (78, .b true), (83, .b true)] [31, 40] [] 1000 Try.f9 (bodyOf Try.f9) [vK p, slK 3 c, vK a, vK b] (hpK φ 96) 1 [true, true, true, false] (fun r => r = .bool true) =
    (true = true ∧ okE1 (ifP (isK (dOf (kA φ 0)) ∧ isK (dOf (vK p)))) ∧ shE (kA φ 0) (vK p) = true ∧ okE1 (ifP (isK (dOf (kA φ 1)) ∧ isK (dOf (shK (kA φ 0) (vK p))))) ∧ shE (kA φ 1) (shK (kA φ 0) (vK p)) = true ∧ okE1 (ifP (isK (dOf (kA φ 2)) ∧ isK (dOf (shK (kA φ 1) (shK (kA φ 0) (vK p)))))) ∧ (!shE (kA φ 2) (shK (kA φ 1) (shK (kA φ 0) (vK p)))) = false ∧ l9_E p a b (keysL (cellsOf .u8 φ 96 0) 3) (shK (kA φ 2) (shK (kA φ 1) (shK (kA φ 0) (vK p)))) (shE (kA φ 2) (shK (kA φ 1) (shK (kA φ 0) (vK p))))) := by kernel_rfl
theorem l9_4_0 (p a b φ : Nat → Int) (c : Nat) : evBody tab orcX9 [(35, .ok), (68, .b true), (72, .b true), (75, .b true), (78, .b true), (83, .b true)] [31, 40] [] 1000 Try.f9 (bodyOf Try.f9) [vK p, slK 4 c, vK a, vK b] (hpK φ 128) 1 [true, false, false, false, true] (fun r => r = .bool true) =
    (true = true ∧ okE1 (ifP (isK (dOf (kA φ 0)) ∧ isK (dOf (vK p)))) ∧ shE (kA φ 0) (vK p) = false ∧ shE (kA φ 0) (vK p) = false ∧ shE (kA φ 0) (vK p) = false ∧ (!shE (kA φ 0) (vK p)) = true ∧ l9_E p a b (keysL (cellsOf .u8 φ 128 0) 4) zeroK (shE (kA φ 0) (vK p))) := by kernel_rfl
theorem l9_4_1 (p a b φ : Nat → Int) (c : Nat) : evBody tab orcX9 [(35, .ok), (68, .b true), (72, .b true), (75, .b true), (78, .b true), (83, .b true)] [31, 40] [] 1000 Try.f9 (bodyOf Try.f9) [vK p, slK 4 c, vK a, vK b] (hpK φ 128) 1 [true, true, false, false, true] (fun r => r = .bool true) =
    (true = true ∧ okE1 (ifP (isK (dOf (kA φ 0)) ∧ isK (dOf (vK p)))) ∧ shE (kA φ 0) (vK p) = true ∧ okE1 (ifP (isK (dOf (kA φ 1)) ∧ isK (dOf (shK (kA φ 0) (vK p))))) ∧ shE (kA φ 1) (shK (kA φ 0) (vK p)) = false ∧ shE (kA φ 1) (shK (kA φ 0) (vK p)) = false ∧ (!shE (kA φ 1) (shK (kA φ 0) (vK p))) = true ∧ l9_E p a b (keysL (cellsOf .u8 φ 128 0) 4) zeroK (shE (kA φ 1) (shK (kA φ 0) (vK p)))) := by kernel_rfl
theorem l9_4_2 (p a b φ : Nat → Int) (c : Nat) : evBody tab orcX9 [(35, .ok), (68, .b true), (72, .b true), (75, .b true), (78, .b true), (83, .b true)] [31, 40] [] 1000 Try.f9 (bodyOf Try.f9) [vK p, slK 4 c, vK a, vK b] (hpK φ 128) 1 [true, true, true, false, true] (fun r => r = .bool true) =
    (true = true ∧ okE1 (ifP (isK (dOf (kA φ 0)) ∧ isK (dOf (vK p)))) ∧ shE (kA φ 0) (vK p) = true ∧ okE1 (ifP (isK (dOf (kA φ 1)) ∧ isK (dOf (shK (kA φ 0) (vK p))))) ∧ shE (kA φ 1) (shK (kA φ 0) (vK p)) = true ∧ okE1 (ifP (isK (dOf (kA φ 2)) ∧ isK (dOf (shK (kA φ 1) (shK (kA φ 0) (vK p)))))) ∧ shE (kA φ 2) (shK (kA φ 1) (shK (kA φ 0) (vK p))) = false ∧ (!shE (kA φ 2) (shK (kA φ 1) (shK (kA φ 0) (vK p)))) = true ∧ l9_E p a b (keysL (cellsOf .u8 φ 128 0) 4) zeroK (shE (kA φ 2) (shK (kA φ 1) (shK (kA φ 0) (vK p))))) := by kernel_rfl
theorem l9_4_3 (p a b φ : Nat → Int) (c : Nat) : evBody tab orcX9 [(35, .ok), (68, .b true), (72, .b true), (75, .b true), (78, .b true), (83, .b true)] [31, 40] [] 1000 Try.f9 (bodyOf Try.f9) [vK p, slK 4 c, vK a, vK b] (hpK φ 128) 1 [true, true, true, true, true] (fun r => r = .bool true) =
    (true = true ∧ okE1 (ifP (isK (dOf (kA φ 0)) ∧ isK (dOf (vK p)))) ∧ shE (kA φ 0) (vK p) = true ∧ okE1 (ifP (isK (dOf (kA φ 1)) ∧ isK (dOf (shK (kA φ 0) (vK p))))) ∧ shE (kA φ 1) (shK (kA φ 0) (vK p)) = true ∧ okE1 (ifP (isK (dOf (kA φ 2)) ∧ isK (dOf (shK (kA φ 1) (shK (kA φ 0) (vK p)))))) ∧ shE (kA φ 2) (shK (kA φ 1) (shK (kA φ 0) (vK p))) = true ∧ okE1 (ifP (isK (dOf (kA φ 3)) ∧ isK (dOf (shK (kA φ 2) (shK (kA φ 1) (shK (kA φ 0) (vK p))))))) ∧ (!shE (kA φ 3) (shK (kA φ 2) (shK (kA φ 1) (shK (kA φ 0) (vK p))))) = true ∧ l9_E p a b (keysL (cellsOf .u8 φ 128 0) 4) zeroK (shE (kA φ 3) (shK (kA φ 2) (shK (kA φ 1) (shK (kA φ 0) (vK p)))))) := by kernel_rfl
theorem l9_4_4 (p a b φ : Nat → Int) (c : Nat) : evBody tab orcX9 [(35, .ok), (68, .b true), (72, .b true), (75, .b true), (78, .b true), (83, .b true)] [31, 40] [] 1000 Try.f9 (bodyOf Try.f9) [vK p, slK 4 c, vK a, vK b] (hpK φ 128) 1 [true, true, true, true, false] (fun r => r = .bool true) =
    (true = true ∧ okE1 (ifP (isK (dOf (kA φ 0)) ∧ isK (dOf (vK p)))) ∧ shE (kA φ 0) (vK p) = true ∧ okE1 (ifP (isK (dOf (kA φ 1)) ∧ isK (dOf (shK (kA φ 0) (vK p))))) ∧ shE (kA φ 1) (shK (kA φ 0) (vK p)) = true ∧ okE1 (ifP (isK (dOf (kA φ 2)) ∧ isK (dOf (shK (kA φ 1) (shK (kA φ 0) (vK p)))))) ∧ shE (kA φ 2) (shK (kA φ 1) (shK (kA φ 0) (vK p))) = true ∧ okE1 (ifP (isK (dOf (kA φ 3)) ∧ isK (dOf (shK (kA φ 2) (shK (kA φ 1) (shK (kA φ 0) (vK p))))))) ∧ (!shE (kA φ 3) (shK (kA φ 2) (shK (kA φ 1) (shK (kA φ 0) (vK p))))) = false ∧ l9_E p a b (keysL (cellsOf .u8 φ 128 0) 4) (shK (kA φ 3) (shK (kA φ 2) (shK (kA φ 1) (shK (kA φ 0) (vK p))))) (shE (kA φ 3) (shK (kA φ 2) (shK (kA φ 1) (shK (kA φ 0) (vK p)))))) := by kernel_rfl
theorem isK_d9 {f : Nat → Int} (hf : isK f) : isK (dOf (vK f)) := fun j hj => by
  show isB (lim (vK f) j)
  rw [lim_vK hj]; exact hf j hj
theorem sh_isK {k p : Nat → Int} (hk : isK k) (hp : isK p) : ∃ g, isK g ∧ shK (vK k) (vK p) = vK g := ⟨_, isK_dig _, sh_val hk hp⟩
theorem sh_same {k p : Nat → Int} (hk : isK k) (hp : isK p) : shOk (vK k) (vK p) = shE (vK k) (vK p) := by
  unfold shOk shE
  rw [sh_val hk hp, zeroK_is, keyN_eq, sameB_eq (isK_dig _) (isK_dig _)]
theorem ab_keys (a b : Nat → Int) : keysL (cellsOf .u8 (ab a b) 64 0) 2 = [vK a, vK b] := by
  have h := keysL_eq (ab a b) 2
  rw [show 32 * 2 = 64 from rfl] at h
  rw [h]
  rfl
theorem mul_pow_lt {x y n m r : Nat} (hx : x < 2 ^ n) (hy : y < 2 ^ m) (hr : r = n + m) : x * y < 2 ^ r := by
  subst hr
  rw [Nat.pow_add]
  exact Nat.mul_lt_mul'' hx hy
theorem nz3 {a b c : Nat → Int} (ha : isK a) (hb : isK b) (hc : isK c) : Sap.lad 256 (cN b) (Sap.lad 256 (cN a) (Sap.lad 256 (cN c) Sap.nine)) ≠ 0 := by
  obtain ⟨r, hr⟩ : ∃ r, r = 512 := ⟨_, rfl⟩
  obtain ⟨q, hq⟩ : ∃ q, q = 768 := ⟨_, rfl⟩
  have h2 : cN a * cN c < 2 ^ r := mul_pow_lt (cN_lt ha) (cN_lt hc) (by omega)
  have h3 : cN b * (cN a * cN c) < 2 ^ q := mul_pow_lt (cN_lt hb) h2 (by omega)
  rw [Sap.lad_lad (r := r) (by omega) (by decide) (by omega) (cN_lt ha) (cN_lt hc) h2, Sap.lad_lad (r := q) (by omega) (by omega) (by omega) (cN_lt hb) h2 h3]
  refine Sap.lad_base h3 fun hd => ?_
  rcases Sap.ell_pr.dvd_mul hd with h | h
  · exact cN_ell hb h
  · rcases Sap.ell_pr.dvd_mul h with h | h
    · exact cN_ell ha h
    · exact cN_ell hc h
theorem two_keys {p a b : Nat → Int} (hp : isK p) (ha : isK a) (hb : isK b) : chR (baseV (vK p)) [vK a, vK b] = (vK (digN (Sap.lad 256 (cN b) (Sap.lad 256 (cN a) (Sap.lad 256 (cN p) Sap.nine))).val), true) := by
  have s1 : shOk (vK a) (vK (digN (Sap.lad 256 (cN p) Sap.nine).val)) = true := by
    rw [shOk_val ha (isK_dig _), numV_dig, decide_eq_false (Sap.lad_base2 (by decide) (cN_lt ha) (cN_lt hp) (cN_ell ha) (cN_ell hp))]
    rfl
  have k1 : shK (vK a) (vK (digN (Sap.lad 256 (cN p) Sap.nine).val)) = vK (digN (Sap.lad 256 (cN a) (Sap.lad 256 (cN p) Sap.nine)).val) := by rw [sh_val ha (isK_dig _), numV_dig]
  have s2 : shOk (vK b) (vK (digN (Sap.lad 256 (cN a) (Sap.lad 256 (cN p) Sap.nine)).val)) = true := by
    rw [shOk_val hb (isK_dig _), numV_dig, decide_eq_false (nz3 ha hb hp)]
    rfl
  have k2 : shK (vK b) (vK (digN (Sap.lad 256 (cN a) (Sap.lad 256 (cN p) Sap.nine)).val)) = vK (digN (Sap.lad 256 (cN b) (Sap.lad 256 (cN a) (Sap.lad 256 (cN p) Sap.nine))).val) := by rw [sh_val hb (isK_dig _), numV_dig]
  rw [base_val hp]
  refine (chR_ok s1).trans ?_
  rw [k1]
  refine (chR_ok s2).trans ?_
  rw [k2]
  exact chR_nil _
theorem l9_E_of {p a b : Nat → Int} (hp : isK p) (ha : isK a) (hb : isK b) {KS : List Value} {want : Value} {fine : Bool} (h1 : nrmK (chR (vK p) KS).1 = want) (h2 : (chR (vK p) KS).2 = fine) : l9_E p a b KS want fine := by
  unfold l9_E
  rw [ab_keys, ab_keys, two_keys hp ha hb, two_keys hp hb ha, h1, h2]
  have hcom : Sap.lad 256 (cN b) (Sap.lad 256 (cN a) (Sap.lad 256 (cN p) Sap.nine)) = Sap.lad 256 (cN a) (Sap.lad 256 (cN b) (Sap.lad 256 (cN p) Sap.nine)) := Sap.lad_comm (by decide) (cN_lt hb) (cN_lt ha) _
  exact ⟨emit_of (eqV_refl _), emit_bq rfl, emit_of rfl, emit_of rfl, emit_of (by rw [hcom, eqV_refl]), rfl⟩
theorem isK_kA {φ : Nat → Int} {n : Nat} (h : ∀ j, j < 32 * n → isB (φ j)) {i : Nat} (hi : i < n) : isK (fun j => φ (32 * i + j)) := fun j hj => h _ (by omega)
theorem l9_run_1 {p a b φ : Nat → Int} (c : Nat) (hp : isK p) (ha : isK a) (hb : isK b) (hφ : ∀ j, j < 32 → isB (φ j)) : ∃ sc, evBody tab orcX9 [(35, .ok), (68, .b true), (72, .b true), (75, .b true), (78, .b true), (83, .b true)] [31, 40] [] 1000 Try.f9 (bodyOf Try.f9) [vK p, slK 1 c, vK a, vK b] (hpK φ 32) 1 sc (fun r => r = .bool true) := by
  have hk : keysL (cellsOf .u8 φ 32 0) 1 = [kA φ 0] := keysL_eq φ 1
  have w0 : isK (dOf (vK p)) := isK_d9 hp
  have m0 : isK (fun j => φ (32 * 0 + j)) := isK_kA (n := 1) hφ (by decide)
  have d0 : isK (dOf (kA φ 0)) := isK_d9 m0
  have r0 : ∃ g, isK g ∧ (vK p) = vK g := ⟨p, hp, rfl⟩
  have r1 : ∃ g, isK g ∧ (shK (kA φ 0) (vK p)) = vK g := by obtain ⟨g, g1, g2⟩ := r0; rw [g2]; exact sh_isK m0 g1
  have w1 : isK (dOf (shK (kA φ 0) (vK p))) := by obtain ⟨g, g1, g2⟩ := r1; rw [g2]; exact isK_d9 g1
  have e0 : shOk (kA φ 0) (vK p) = shE (kA φ 0) (vK p) := by obtain ⟨g, g1, g2⟩ := r0; rw [g2]; exact sh_same m0 g1
  cases g0 : shE (kA φ 0) (vK p) with
  | false =>
    refine ⟨[true, true], of_eq (l9_1_0 p a b φ c) ⟨rfl, okE1_of ⟨d0, w0⟩, by rw [g0]; rfl, l9_E_of hp ha hb ?_ ?_⟩⟩
    · rw [hk]; exact (fst_of (chR_no (e0.trans g0))).trans nrm_zeroK
    · rw [hk]; exact (snd_of (chR_no (e0.trans g0))).trans g0.symm
  | true =>
    refine ⟨[true, false], of_eq (l9_1_1 p a b φ c) ⟨rfl, okE1_of ⟨d0, w0⟩, by rw [g0]; rfl, l9_E_of hp ha hb ?_ ?_⟩⟩
    · rw [hk]; exact (fst_of ((chR_ok (e0.trans g0)).trans (chR_nil _))).trans (nrm_sh _ _)
    · rw [hk]; exact (snd_of ((chR_ok (e0.trans g0)).trans (chR_nil _))).trans g0.symm
theorem l9_run_2 {p a b φ : Nat → Int} (c : Nat) (hp : isK p) (ha : isK a) (hb : isK b) (hφ : ∀ j, j < 64 → isB (φ j)) : ∃ sc, evBody tab orcX9 [(35, .ok), (68, .b true), (72, .b true), (75, .b true), (78, .b true), (83, .b true)] [31, 40] [] 1000 Try.f9 (bodyOf Try.f9) [vK p, slK 2 c, vK a, vK b] (hpK φ 64) 1 sc (fun r => r = .bool true) := by
  have hk : keysL (cellsOf .u8 φ 64 0) 2 = [kA φ 0, kA φ 1] := keysL_eq φ 2
  have w0 : isK (dOf (vK p)) := isK_d9 hp
  have m0 : isK (fun j => φ (32 * 0 + j)) := isK_kA (n := 2) hφ (by decide)
  have d0 : isK (dOf (kA φ 0)) := isK_d9 m0
  have m1 : isK (fun j => φ (32 * 1 + j)) := isK_kA (n := 2) hφ (by decide)
  have d1 : isK (dOf (kA φ 1)) := isK_d9 m1
  have r0 : ∃ g, isK g ∧ (vK p) = vK g := ⟨p, hp, rfl⟩
  have r1 : ∃ g, isK g ∧ (shK (kA φ 0) (vK p)) = vK g := by obtain ⟨g, g1, g2⟩ := r0; rw [g2]; exact sh_isK m0 g1
  have w1 : isK (dOf (shK (kA φ 0) (vK p))) := by obtain ⟨g, g1, g2⟩ := r1; rw [g2]; exact isK_d9 g1
  have e0 : shOk (kA φ 0) (vK p) = shE (kA φ 0) (vK p) := by obtain ⟨g, g1, g2⟩ := r0; rw [g2]; exact sh_same m0 g1
  have r2 : ∃ g, isK g ∧ (shK (kA φ 1) (shK (kA φ 0) (vK p))) = vK g := by obtain ⟨g, g1, g2⟩ := r1; rw [g2]; exact sh_isK m1 g1
  have w2 : isK (dOf (shK (kA φ 1) (shK (kA φ 0) (vK p)))) := by obtain ⟨g, g1, g2⟩ := r2; rw [g2]; exact isK_d9 g1
  have e1 : shOk (kA φ 1) (shK (kA φ 0) (vK p)) = shE (kA φ 1) (shK (kA φ 0) (vK p)) := by obtain ⟨g, g1, g2⟩ := r1; rw [g2]; exact sh_same m1 g1
  cases g0 : shE (kA φ 0) (vK p) with
  | false =>
    refine ⟨[true, false, true], of_eq (l9_2_0 p a b φ c) ⟨rfl, okE1_of ⟨d0, w0⟩, g0, by rw [g0]; rfl, l9_E_of hp ha hb ?_ ?_⟩⟩
    · rw [hk]; exact (fst_of (chR_no (e0.trans g0))).trans nrm_zeroK
    · rw [hk]; exact (snd_of (chR_no (e0.trans g0))).trans g0.symm
  | true =>
    cases g1 : shE (kA φ 1) (shK (kA φ 0) (vK p)) with
    | false =>
      refine ⟨[true, true, true], of_eq (l9_2_1 p a b φ c) ⟨rfl, okE1_of ⟨d0, w0⟩, g0, okE1_of ⟨d1, w1⟩, by rw [g1]; rfl, l9_E_of hp ha hb ?_ ?_⟩⟩
      · rw [hk]; exact (fst_of ((chR_ok (e0.trans g0)).trans (chR_no (e1.trans g1)))).trans nrm_zeroK
      · rw [hk]; exact (snd_of ((chR_ok (e0.trans g0)).trans (chR_no (e1.trans g1)))).trans g1.symm
    | true =>
      refine ⟨[true, true, false], of_eq (l9_2_2 p a b φ c) ⟨rfl, okE1_of ⟨d0, w0⟩, g0, okE1_of ⟨d1, w1⟩, by rw [g1]; rfl, l9_E_of hp ha hb ?_ ?_⟩⟩
      · rw [hk]; exact (fst_of ((chR_ok (e0.trans g0)).trans ((chR_ok (e1.trans g1)).trans (chR_nil _)))).trans (nrm_sh _ _)
      · rw [hk]; exact (snd_of ((chR_ok (e0.trans g0)).trans ((chR_ok (e1.trans g1)).trans (chR_nil _)))).trans g1.symm
theorem l9_run_3 {p a b φ : Nat → Int} (c : Nat) (hp : isK p) (ha : isK a) (hb : isK b) (hφ : ∀ j, j < 96 → isB (φ j)) : ∃ sc, evBody tab orcX9 [(35, .ok), (68, .b true), (72, .b true), (75, .b true), (78, .b true), (83, .b true)] [31, 40] [] 1000 Try.f9 (bodyOf Try.f9) [vK p, slK 3 c, vK a, vK b] (hpK φ 96) 1 sc (fun r => r = .bool true) := by
  have hk : keysL (cellsOf .u8 φ 96 0) 3 = [kA φ 0, kA φ 1, kA φ 2] := keysL_eq φ 3
  have w0 : isK (dOf (vK p)) := isK_d9 hp
  have m0 : isK (fun j => φ (32 * 0 + j)) := isK_kA (n := 3) hφ (by decide)
  have d0 : isK (dOf (kA φ 0)) := isK_d9 m0
  have m1 : isK (fun j => φ (32 * 1 + j)) := isK_kA (n := 3) hφ (by decide)
  have d1 : isK (dOf (kA φ 1)) := isK_d9 m1
  have m2 : isK (fun j => φ (32 * 2 + j)) := isK_kA (n := 3) hφ (by decide)
  have d2 : isK (dOf (kA φ 2)) := isK_d9 m2
  have r0 : ∃ g, isK g ∧ (vK p) = vK g := ⟨p, hp, rfl⟩
  have r1 : ∃ g, isK g ∧ (shK (kA φ 0) (vK p)) = vK g := by obtain ⟨g, g1, g2⟩ := r0; rw [g2]; exact sh_isK m0 g1
  have w1 : isK (dOf (shK (kA φ 0) (vK p))) := by obtain ⟨g, g1, g2⟩ := r1; rw [g2]; exact isK_d9 g1
  have e0 : shOk (kA φ 0) (vK p) = shE (kA φ 0) (vK p) := by obtain ⟨g, g1, g2⟩ := r0; rw [g2]; exact sh_same m0 g1
  have r2 : ∃ g, isK g ∧ (shK (kA φ 1) (shK (kA φ 0) (vK p))) = vK g := by obtain ⟨g, g1, g2⟩ := r1; rw [g2]; exact sh_isK m1 g1
  have w2 : isK (dOf (shK (kA φ 1) (shK (kA φ 0) (vK p)))) := by obtain ⟨g, g1, g2⟩ := r2; rw [g2]; exact isK_d9 g1
  have e1 : shOk (kA φ 1) (shK (kA φ 0) (vK p)) = shE (kA φ 1) (shK (kA φ 0) (vK p)) := by obtain ⟨g, g1, g2⟩ := r1; rw [g2]; exact sh_same m1 g1
  have r3 : ∃ g, isK g ∧ (shK (kA φ 2) (shK (kA φ 1) (shK (kA φ 0) (vK p)))) = vK g := by obtain ⟨g, g1, g2⟩ := r2; rw [g2]; exact sh_isK m2 g1
  have w3 : isK (dOf (shK (kA φ 2) (shK (kA φ 1) (shK (kA φ 0) (vK p))))) := by obtain ⟨g, g1, g2⟩ := r3; rw [g2]; exact isK_d9 g1
  have e2 : shOk (kA φ 2) (shK (kA φ 1) (shK (kA φ 0) (vK p))) = shE (kA φ 2) (shK (kA φ 1) (shK (kA φ 0) (vK p))) := by obtain ⟨g, g1, g2⟩ := r2; rw [g2]; exact sh_same m2 g1
  cases g0 : shE (kA φ 0) (vK p) with
  | false =>
    refine ⟨[true, false, false, true], of_eq (l9_3_0 p a b φ c) ⟨rfl, okE1_of ⟨d0, w0⟩, g0, g0, by rw [g0]; rfl, l9_E_of hp ha hb ?_ ?_⟩⟩
    · rw [hk]; exact (fst_of (chR_no (e0.trans g0))).trans nrm_zeroK
    · rw [hk]; exact (snd_of (chR_no (e0.trans g0))).trans g0.symm
  | true =>
    cases g1 : shE (kA φ 1) (shK (kA φ 0) (vK p)) with
    | false =>
      refine ⟨[true, true, false, true], of_eq (l9_3_1 p a b φ c) ⟨rfl, okE1_of ⟨d0, w0⟩, g0, okE1_of ⟨d1, w1⟩, g1, by rw [g1]; rfl, l9_E_of hp ha hb ?_ ?_⟩⟩
      · rw [hk]; exact (fst_of ((chR_ok (e0.trans g0)).trans (chR_no (e1.trans g1)))).trans nrm_zeroK
      · rw [hk]; exact (snd_of ((chR_ok (e0.trans g0)).trans (chR_no (e1.trans g1)))).trans g1.symm
    | true =>
      cases g2 : shE (kA φ 2) (shK (kA φ 1) (shK (kA φ 0) (vK p))) with
      | false =>
        refine ⟨[true, true, true, true], of_eq (l9_3_2 p a b φ c) ⟨rfl, okE1_of ⟨d0, w0⟩, g0, okE1_of ⟨d1, w1⟩, g1, okE1_of ⟨d2, w2⟩, by rw [g2]; rfl, l9_E_of hp ha hb ?_ ?_⟩⟩
        · rw [hk]; exact (fst_of ((chR_ok (e0.trans g0)).trans ((chR_ok (e1.trans g1)).trans (chR_no (e2.trans g2))))).trans nrm_zeroK
        · rw [hk]; exact (snd_of ((chR_ok (e0.trans g0)).trans ((chR_ok (e1.trans g1)).trans (chR_no (e2.trans g2))))).trans g2.symm
      | true =>
        refine ⟨[true, true, true, false], of_eq (l9_3_3 p a b φ c) ⟨rfl, okE1_of ⟨d0, w0⟩, g0, okE1_of ⟨d1, w1⟩, g1, okE1_of ⟨d2, w2⟩, by rw [g2]; rfl, l9_E_of hp ha hb ?_ ?_⟩⟩
        · rw [hk]; exact (fst_of ((chR_ok (e0.trans g0)).trans ((chR_ok (e1.trans g1)).trans ((chR_ok (e2.trans g2)).trans (chR_nil _))))).trans (nrm_sh _ _)
        · rw [hk]; exact (snd_of ((chR_ok (e0.trans g0)).trans ((chR_ok (e1.trans g1)).trans ((chR_ok (e2.trans g2)).trans (chR_nil _))))).trans g2.symm
theorem l9_run_4 {p a b φ : Nat → Int} (c : Nat) (hp : isK p) (ha : isK a) (hb : isK b) (hφ : ∀ j, j < 128 → isB (φ j)) : ∃ sc, evBody tab orcX9 [(35, .ok), (68, .b true), (72, .b true), (75, .b true), (78, .b true), (83, .b true)] [31, 40] [] 1000 Try.f9 (bodyOf Try.f9) [vK p, slK 4 c, vK a, vK b] (hpK φ 128) 1 sc (fun r => r = .bool true) := by
  have hk : keysL (cellsOf .u8 φ 128 0) 4 = [kA φ 0, kA φ 1, kA φ 2, kA φ 3] := keysL_eq φ 4
  have w0 : isK (dOf (vK p)) := isK_d9 hp
  have m0 : isK (fun j => φ (32 * 0 + j)) := isK_kA (n := 4) hφ (by decide)
  have d0 : isK (dOf (kA φ 0)) := isK_d9 m0
  have m1 : isK (fun j => φ (32 * 1 + j)) := isK_kA (n := 4) hφ (by decide)
  have d1 : isK (dOf (kA φ 1)) := isK_d9 m1
  have m2 : isK (fun j => φ (32 * 2 + j)) := isK_kA (n := 4) hφ (by decide)
  have d2 : isK (dOf (kA φ 2)) := isK_d9 m2
  have m3 : isK (fun j => φ (32 * 3 + j)) := isK_kA (n := 4) hφ (by decide)
  have d3 : isK (dOf (kA φ 3)) := isK_d9 m3
  have r0 : ∃ g, isK g ∧ (vK p) = vK g := ⟨p, hp, rfl⟩
  have r1 : ∃ g, isK g ∧ (shK (kA φ 0) (vK p)) = vK g := by obtain ⟨g, g1, g2⟩ := r0; rw [g2]; exact sh_isK m0 g1
  have w1 : isK (dOf (shK (kA φ 0) (vK p))) := by obtain ⟨g, g1, g2⟩ := r1; rw [g2]; exact isK_d9 g1
  have e0 : shOk (kA φ 0) (vK p) = shE (kA φ 0) (vK p) := by obtain ⟨g, g1, g2⟩ := r0; rw [g2]; exact sh_same m0 g1
  have r2 : ∃ g, isK g ∧ (shK (kA φ 1) (shK (kA φ 0) (vK p))) = vK g := by obtain ⟨g, g1, g2⟩ := r1; rw [g2]; exact sh_isK m1 g1
  have w2 : isK (dOf (shK (kA φ 1) (shK (kA φ 0) (vK p)))) := by obtain ⟨g, g1, g2⟩ := r2; rw [g2]; exact isK_d9 g1
  have e1 : shOk (kA φ 1) (shK (kA φ 0) (vK p)) = shE (kA φ 1) (shK (kA φ 0) (vK p)) := by obtain ⟨g, g1, g2⟩ := r1; rw [g2]; exact sh_same m1 g1
  have r3 : ∃ g, isK g ∧ (shK (kA φ 2) (shK (kA φ 1) (shK (kA φ 0) (vK p)))) = vK g := by obtain ⟨g, g1, g2⟩ := r2; rw [g2]; exact sh_isK m2 g1
  have w3 : isK (dOf (shK (kA φ 2) (shK (kA φ 1) (shK (kA φ 0) (vK p))))) := by obtain ⟨g, g1, g2⟩ := r3; rw [g2]; exact isK_d9 g1
  have e2 : shOk (kA φ 2) (shK (kA φ 1) (shK (kA φ 0) (vK p))) = shE (kA φ 2) (shK (kA φ 1) (shK (kA φ 0) (vK p))) := by obtain ⟨g, g1, g2⟩ := r2; rw [g2]; exact sh_same m2 g1
  have r4 : ∃ g, isK g ∧ (shK (kA φ 3) (shK (kA φ 2) (shK (kA φ 1) (shK (kA φ 0) (vK p))))) = vK g := by obtain ⟨g, g1, g2⟩ := r3; rw [g2]; exact sh_isK m3 g1
  have w4 : isK (dOf (shK (kA φ 3) (shK (kA φ 2) (shK (kA φ 1) (shK (kA φ 0) (vK p)))))) := by obtain ⟨g, g1, g2⟩ := r4; rw [g2]; exact isK_d9 g1
  have e3 : shOk (kA φ 3) (shK (kA φ 2) (shK (kA φ 1) (shK (kA φ 0) (vK p)))) = shE (kA φ 3) (shK (kA φ 2) (shK (kA φ 1) (shK (kA φ 0) (vK p)))) := by obtain ⟨g, g1, g2⟩ := r3; rw [g2]; exact sh_same m3 g1
  cases g0 : shE (kA φ 0) (vK p) with
  | false =>
    refine ⟨[true, false, false, false, true], of_eq (l9_4_0 p a b φ c) ⟨rfl, okE1_of ⟨d0, w0⟩, g0, g0, g0, by rw [g0]; rfl, l9_E_of hp ha hb ?_ ?_⟩⟩
    · rw [hk]; exact (fst_of (chR_no (e0.trans g0))).trans nrm_zeroK
    · rw [hk]; exact (snd_of (chR_no (e0.trans g0))).trans g0.symm
  | true =>
    cases g1 : shE (kA φ 1) (shK (kA φ 0) (vK p)) with
    | false =>
      refine ⟨[true, true, false, false, true], of_eq (l9_4_1 p a b φ c) ⟨rfl, okE1_of ⟨d0, w0⟩, g0, okE1_of ⟨d1, w1⟩, g1, g1, by rw [g1]; rfl, l9_E_of hp ha hb ?_ ?_⟩⟩
      · rw [hk]; exact (fst_of ((chR_ok (e0.trans g0)).trans (chR_no (e1.trans g1)))).trans nrm_zeroK
      · rw [hk]; exact (snd_of ((chR_ok (e0.trans g0)).trans (chR_no (e1.trans g1)))).trans g1.symm
    | true =>
      cases g2 : shE (kA φ 2) (shK (kA φ 1) (shK (kA φ 0) (vK p))) with
      | false =>
        refine ⟨[true, true, true, false, true], of_eq (l9_4_2 p a b φ c) ⟨rfl, okE1_of ⟨d0, w0⟩, g0, okE1_of ⟨d1, w1⟩, g1, okE1_of ⟨d2, w2⟩, g2, by rw [g2]; rfl, l9_E_of hp ha hb ?_ ?_⟩⟩
        · rw [hk]; exact (fst_of ((chR_ok (e0.trans g0)).trans ((chR_ok (e1.trans g1)).trans (chR_no (e2.trans g2))))).trans nrm_zeroK
        · rw [hk]; exact (snd_of ((chR_ok (e0.trans g0)).trans ((chR_ok (e1.trans g1)).trans (chR_no (e2.trans g2))))).trans g2.symm
      | true =>
        cases g3 : shE (kA φ 3) (shK (kA φ 2) (shK (kA φ 1) (shK (kA φ 0) (vK p)))) with
        | false =>
          refine ⟨[true, true, true, true, true], of_eq (l9_4_3 p a b φ c) ⟨rfl, okE1_of ⟨d0, w0⟩, g0, okE1_of ⟨d1, w1⟩, g1, okE1_of ⟨d2, w2⟩, g2, okE1_of ⟨d3, w3⟩, by rw [g3]; rfl, l9_E_of hp ha hb ?_ ?_⟩⟩
          · rw [hk]; exact (fst_of ((chR_ok (e0.trans g0)).trans ((chR_ok (e1.trans g1)).trans ((chR_ok (e2.trans g2)).trans (chR_no (e3.trans g3)))))).trans nrm_zeroK
          · rw [hk]; exact (snd_of ((chR_ok (e0.trans g0)).trans ((chR_ok (e1.trans g1)).trans ((chR_ok (e2.trans g2)).trans (chR_no (e3.trans g3)))))).trans g3.symm
        | true =>
          refine ⟨[true, true, true, true, false], of_eq (l9_4_4 p a b φ c) ⟨rfl, okE1_of ⟨d0, w0⟩, g0, okE1_of ⟨d1, w1⟩, g1, okE1_of ⟨d2, w2⟩, g2, okE1_of ⟨d3, w3⟩, by rw [g3]; rfl, l9_E_of hp ha hb ?_ ?_⟩⟩
          · rw [hk]; exact (fst_of ((chR_ok (e0.trans g0)).trans ((chR_ok (e1.trans g1)).trans ((chR_ok (e2.trans g2)).trans ((chR_ok (e3.trans g3)).trans (chR_nil _)))))).trans (nrm_sh _ _)
          · rw [hk]; exact (snd_of ((chR_ok (e0.trans g0)).trans ((chR_ok (e1.trans g1)).trans ((chR_ok (e2.trans g2)).trans ((chR_ok (e3.trans g3)).trans (chR_nil _)))))).trans g3.symm
theorem ctr9 {args : List Value} {Hp : Heap} {n : Nat} {sc : List Bool} {sy : Sy} {br : List Nat} {g : Blks} (hev : evBody tab orcX9 sy br [] 1000 Try.f9 (bodyOf Try.f9) args Hp n sc (fun r => r = .bool true)) (hids : ∀ i ∈ idsOf args, i < n)
    (hH : ∀ i b, hget Hp i = some b → i ∈ idsOf args ∧ b.own = false ∧ b.ap = 0 ∧ ∃ q p, g i = some ⟨b.cs, b.ty, q, p⟩) : Ctr Try.prog 9 args g (.bool true) :=
  ctr_of_ev tabOk orcX9_ok mixed loOk_nil Try.func9 (c := bodyOf Try.f9) (by kernel_rfl) hev hids hH
theorem ids9 (p a b : Nat → Int) (o n c : Nat) : idsOf [vK p, .slice (some ⟨0, o, none⟩) n c, vK a, vK b] = [0] := rfl
theorem vok9 (p a b : Nat → Int) (s : Value) (hs : vok s) : ∀ x ∈ [vK p, s, vK a, vK b], vok x := by
  intro x hx
  simp only [List.mem_cons, List.not_mem_nil, or_false] at hx
  rcases hx with rfl | rfl | rfl | rfl
  · exact vok_arr'
  · exact hs
  · exact vok_arr'
  · exact vok_arr'
theorem one_blk {i : Nat} {b : Blk} (hib : hget [(0, ⟨[], 0, false, 0⟩)] i = some b) : i = 0 ∧ b = ⟨[], 0, false, 0⟩ := by
  simp only [hget] at hib
  split at hib
  · rename_i hb
    cases hib
    exact ⟨(Nat.eq_of_beq_eq_true hb).symm, rfl⟩
  · cases hib
theorem l9_calls {p a b : Nat → Int} (hp : isK p) (ha : isK a) (hb : isK b) {blk off len cap : Nat} {W : World} {arr : Array Value} {ty : TypeId} {fr : Nat × Nat} (hh : W.heap[blk]? = some (.cells arr ty fr)) {φ : Nat → Int}
    (hφ : ∀ j, j < 32 * len → isB (φ j)) (hcell : ∀ j, j < 32 * len → W.cell? ⟨blk, off + j, none⟩ = some (.int .u8 (φ j))) (hcap : cap ≠ capX) :
    Calls Try.prog 9 [vK p, .slice (some ⟨blk, off, none⟩) len cap, vK a, vK b].toArray W fun r w' => r = .returned (.bool true) ∧ Below W.heap.size W w' := by
  have blind : ∀ Hp sc sy br, (∀ i b, hget Hp i = some b → i = 0 ∧ b = ⟨[], 0, false, 0⟩) → evBody tab orcX9 sy br [] 1000 Try.f9 (bodyOf Try.f9) [vK p, .slice (some ⟨0, off, none⟩) len cap, vK a, vK b] Hp 1 sc (fun r => r = .bool true) →
      Calls Try.prog 9 [vK p, .slice (some ⟨blk, off, none⟩) len cap, vK a, vK b].toArray W fun r w' => r = .returned (.bool true) ∧ Below W.heap.size W w' := by
    intro Hp sc sy br hHp hev
    refine blind_calls (ctr9 hev (by rw [ids9]; intro i hi; simp at hi; omega) (by
      intro i b hib
      obtain ⟨rfl, rfl⟩ := hHp i b hib
      exact ⟨by rw [ids9]; simp, rfl, rfl, false, 0, rfl⟩)) hh (by rw [ids9]; intro i hi; simpa using hi) ?_ (vok9 p a b _ trivial)
    have hs : ren (fun _ => (blk, 0, 0)) (.slice (some ⟨0, off, none⟩) len cap) = .slice (some ⟨blk, off, none⟩) len cap := by simp only [ren, if_neg hcap, Nat.add_zero]
    simp only [List.map_cons, List.map_nil, hs, ren_plain (show adr (vK p) = false from rfl), ren_plain (show adr (vK a) = false from rfl), ren_plain (show adr (vK b) = false from rfl)]
  have win : ∀ n, len = n → 0 < n → (∃ sc, evBody tab orcX9 [(35, .ok), (68, .b true), (72, .b true), (75, .b true), (78, .b true), (83, .b true)] [31, 40] [] 1000 Try.f9 (bodyOf Try.f9) [vK p, slK n cap, vK a, vK b] (hpK φ (32 * n)) 1 sc (fun r => r = .bool true)) →
      Calls Try.prog 9 [vK p, .slice (some ⟨blk, off, none⟩) len cap, vK a, vK b].toArray W fun r w' => r = .returned (.bool true) ∧ Below W.heap.size W w' := by
    intro n hn h0 ⟨sc, hev⟩
    subst hn
    refine win_calls (N := 32 * len) (ty' := 23) (ctr9 hev (by rw [slK, ids9]; intro i hi; simp at hi; omega) (by
      intro i blk hib
      unfold hpK at hib
      simp only [hget] at hib
      split at hib
      · rename_i hbeq
        have := Nat.eq_of_beq_eq_true hbeq
        subst this
        cases hib
        exact ⟨by rw [slK, ids9]; simp, rfl, rfl, false, 0, rfl⟩
      · cases hib)) hh hcell (by omega) (by rw [slK, ids9]; intro i hi; simpa using hi) ?_ (vok9 p a b _ trivial)
    have hs : ren (fun _ => (blk, 0, off)) (slK len cap) = .slice (some ⟨blk, off, none⟩) len cap := by simp only [ren, slK, if_neg hcap, Nat.zero_add]
    simp only [List.map_cons, List.map_nil, hs, ren_plain (show adr (vK p) = false from rfl), ren_plain (show adr (vK a) = false from rfl), ren_plain (show adr (vK b) = false from rfl)]
  rcases (by omega : len = 0 ∨ len = 1 ∨ len = 2 ∨ len = 3 ∨ len = 4 ∨ 4 < len) with h | h | h | h | h | h
  · subst h
    exact blind _ _ _ _ (fun i b hib => one_blk hib) (of_eq (l9_0 p a b off cap) ⟨rfl, l9_E_of hp ha hb ((fst_of (chR_nil _)).trans (nrmK_vK _)) (snd_of (chR_nil _))⟩)
  · exact win 1 h (by decide) (l9_run_1 cap hp ha hb fun j hj => hφ j (by omega))
  · exact win 2 h (by decide) (l9_run_2 cap hp ha hb fun j hj => hφ j (by omega))
  · exact win 3 h (by decide) (l9_run_3 cap hp ha hb fun j hj => hφ j (by omega))
  · exact win 4 h (by decide) (l9_run_4 cap hp ha hb fun j hj => hφ j (by omega))
  · exact blind _ _ _ _ (by intro i b hib; cases hib) (of_eq (l9_big p a b off len cap) ⟨emit_of (decide_eq_true (by omega)), rfl⟩)
theorem l9_calls_nil {p a b : Nat → Int} (hp : isK p) (ha : isK a) (hb : isK b) (W : World) :
    Calls Try.prog 9 [vK p, .slice none 0 0, vK a, vK b].toArray W fun r w' => r = .returned (.bool true) ∧ Below W.heap.size W w' := by
  have h := ctr9 (g := fun _ => none) (of_eq (l9_nil p a b) ⟨rfl, l9_E_of hp ha hb ((fst_of (chR_nil _)).trans (nrmK_vK _)) (snd_of (chR_nil _))⟩) (by intro i hi; cases hi) (by intro i b hib; cases hib)
  have := h (fun k => (k, 0, 0)) W (by intro i hi; cases hi) (by intro i hi; cases hi) (vok9 p a b _ trivial)
  exact this

theorem isE_of {f : Nat → Int} (h : ∀ j, j < 5 → (Lit.int .u64 (f j)).wf = true) : isE f := fun j hj => by
  obtain ⟨h1, h2⟩ := range_of (h j hj)
  have e1 : IntKind.u64.min = 0 := by decide
  have e2 : IntKind.u64.max = 18446744073709551615 := by decide
  rw [e1] at h1; rw [e2] at h2
  exact ⟨h1, by omega⟩
theorem u32_of {n : Int} (h : (Lit.int .u32 n).wf = true) : 0 ≤ n ∧ n < 4294967296 := by
  obtain ⟨h1, h2⟩ := range_of h
  have e1 : IntKind.u32.min = 0 := by decide
  have e2 : IntKind.u32.max = 4294967295 := by decide
  rw [e1] at h1; rw [e2] at h2
  exact ⟨h1, by omega⟩
theorem isK_of {f : Nat → Int} (h : ∀ j, j < 32 → (Lit.int .u8 (f j)).wf = true) : isK f := fun j hj => isB_of (h j hj)

set_option maxRecDepth 100000 in
theorem dhChains_lifted (os : Os) (started : os.Started) (H : Type) (enc : TypeId × Value → H) :
    ReturnsInHanded {} Try.checked os 9 .any (Rows.dhChainsSpec.pre6 enc Try.prog Try.f9 Rows.dhChainsRow.domain false) (Rows.dhChainsSpec.post enc Try.prog Try.f9 false true false false) := by
  refine returnsInHanded_of_change (C := Try.checked) own started (by kernel_rfl) Try.func9
    (ChangeSpec.witness6 (enc := enc) (C := Try.checked) false ⟨#[], #[arrOf .u8 32 (fun _ => 0), .slice none 0 0, arrOf .u8 32 (fun _ => 0), arrOf .u8 32 (fun _ => 0)], []⟩ 8 (by kernel_rfl) (by kernel_rfl) (by kernel_rfl) (by kernel_rfl)) ?_
  intro W base args ds gs before hval0 hW hcnd _
  have hval : ∀ (j : Nat) t v, Try.f9.params[j]? = some t → args[j]? = some v → Value.okWide Try.prog W .any base t v := hval0
  have hW' := hW
  obtain ⟨p, q, hA0, hV, rfl, hfz, hnd⟩ := hW
  have hA : DataW.TrodAll enc Try.prog W 0 (fun _ => true) true Try.f9.params.toList args.toList ds p := hA0
  rw [Try.params9] at hA hval
  obtain ⟨v0, v1, v2, v3, d0, d1, d2, d3, p0, p1, p2, p3, rfl, rfl, rfl, h0, h1, h2, h3⟩ := trodAll_four hA
  obtain ⟨rfl, rfl⟩ := trodVars_none hV
  obtain ⟨x0, rfl, w0⟩ := open_arr Try.underlying23 Try.underlying5 (by kernel_rfl) (by kernel_rfl) (hval 0 23 v0 rfl rfl) h0
  obtain ⟨x2, rfl, w2⟩ := open_arr Try.underlying23 Try.underlying5 (by kernel_rfl) (by kernel_rfl) (hval 2 23 v2 rfl rfl) h2
  obtain ⟨x3, rfl, w3⟩ := open_arr Try.underlying23 Try.underlying5 (by kernel_rfl) (by kernel_rfl) (hval 3 23 v3 rfl rfl) h3
  have post : ∀ args' : Array Value, #[arrOf .u8 32 x0, v1, arrOf .u8 32 x2, arrOf .u8 32 x3] = args' → (Calls Try.prog 9 args' W fun r w' => r = .returned (.bool true) ∧ Below W.heap.size W w') → Calls Try.checked.prog 9 #[arrOf .u8 32 x0, v1, arrOf .u8 32 x2, arrOf .u8 32 x3] W fun e W' => ∃ v, e = Ending.returned v ∧ ChangeSpec.post enc Try.checked.prog Try.f9 Rows.dhChainsSpec false true false false W #[arrOf .u8 32 x0, v1, arrOf .u8 32 x2, arrOf .u8 32 x3] v W' := by
    intro args' ha hcalls
    subst ha
    refine hcalls.mono fun e W' ⟨he, hb⟩ => ?_
    exact ⟨_, he, law_post hW' hb rfl (by kernel_rfl) (reads_of (by kernel_rfl)) ⟨rfl, rfl, rfl⟩⟩
  rcases open_sl Try.underlying53 Try.underlying23 Try.underlying5 (by kernel_rfl) (by kernel_rfl) (hval 1 53 v1 rfl rfl) h1 with rfl | ⟨blk, off, len, cap, rfl, ⟨arr, ty, fr, hh⟩, hcap, φ, wφ, hφ⟩
  · exact post _ rfl (l9_calls_nil (isK_of w0) (isK_of w2) (isK_of w3) W)
  · exact post _ rfl (l9_calls (isK_of w0) (isK_of w2) (isK_of w3) hh (fun j hj => isB_of (wφ j hj)) hφ hcap)

theorem dhChains_closed : joinedFacts Try.prog 9 Try.f9 Rows.dhChainsSpec Rows.dhChainsRow = true := by
  refine (joinedFacts.eq_1 ..).trans ?_
  rw [enters_ok, no_finals, make_is]
  kernel_rfl

theorem dhChains_holds : Rows.DhChainsSaid :=
  OpenClaim.holds_of_wide 9 Try.f9 rfl rfl rfl rfl rfl rfl rfl ⟨rfl, rfl, rfl, rfl, rfl⟩ rfl rfl rfl rfl rfl (by kernel_rfl) Try.func9 dhChains_closed
    (of_decide_eq_true (by kernel_rfl)) (by unfold Func.isWrapper; rw [if_neg (by decide +kernel)]; exact ⟨rfl, rfl⟩)
    (fun os started H enc _ => dhChains_lifted os started H enc)

end Go.Proofs.Ythgefjgbkhkmgaa
