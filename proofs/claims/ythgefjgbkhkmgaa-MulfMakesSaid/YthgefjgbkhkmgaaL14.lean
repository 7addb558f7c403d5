/-
  The law MulfMakes, walked, and its row.
-/
import Derived.Test.YthgefjgbkhkmgaaMakW
import Derived.Test.YthgefjgbkhkmgaaRow
import Derived.Test.YthgefjgbkhkmgaaHead
import Derived.Deep.Slices
namespace Go.Proofs.Ythgefjgbkhkmgaa
open Go Go.ChangeShapes Go.WideShapes Go.ChangeAt Go.RowKit Ev
attribute [local irreducible] evC evBody

section
variable {H : Type} {enc : TypeId × Value → H}

set_option maxRecDepth 100000 in
theorem trod_row {t e : TypeId} {n : Nat} {k : IntKind} {W : World} {base : Nat} {sp : Nat → Bool} {held : Bool} {m : Nat} {cs : List Value} {y : DataW H × List MemPlace} (ht : Try.prog.underlying t = some (.array n e)) (he : Try.prog.underlying e = some (.int k))
    (hc : Try.prog.cellsOf e = 1) (hn : Try.prog.cellsOf t = n) (hf : DataW.trod enc Try.prog W base sp held m t cs = some y) : ∃ f : Nat → Int, cs = cellsOf k f n 0 ∧ ∀ j, j < n → (Lit.int k (f j)).wf = true := by
  cases m with
  | zero => simp [DataW.trod] at hf
  | succ m =>
    rw [DataW.trod_step] at hf
    unfold DataW.trodStep at hf
    simp only [ht] at hf
    by_cases h2 : cs.length = Try.prog.cellsOf t
    · rw [if_pos h2] at hf
      simp only [Option.map_eq_some_iff] at hf
      obtain ⟨ys, hy, _⟩ := hf
      rw [hn] at h2
      have key : ∀ (L : List Nat) (ys : List (DataW H × List MemPlace)), L.mapM (fun i => DataW.trod enc Try.prog W base sp held m e ((cs.drop (i * Try.prog.cellsOf e)).take (Try.prog.cellsOf e))) = some ys →
          ∀ i ∈ L, ∃ x, (cs.drop i).take 1 = [.int k x] ∧ (Lit.int k x).wf = true := by
        intro L
        induction L with
        | nil => intro _ _ i hi; cases hi
        | cons a L ih =>
          intro ys h i hi
          rw [List.mapM_cons] at h
          simp only [bind, Option.bind_eq_some_iff] at h
          obtain ⟨y, hy, ys', hys, _⟩ := h
          rcases List.mem_cons.1 hi with rfl | hi
          · obtain ⟨x, ex, _, wx⟩ := DataW.trod_int he hy
            rw [hc, Nat.mul_one] at ex
            exact ⟨x, ex, wx⟩
          · exact ih ys' hys i hi
      have hall := key _ _ hy
      have hone : ∀ i, i < n → ∃ x, cs[i]? = some (.int k x) ∧ (Lit.int k x).wf = true := by
        intro i hi
        obtain ⟨x, ex, wx⟩ := hall i (List.mem_range.2 hi)
        refine ⟨x, ?_, wx⟩
        have := congrArg (fun l => l[0]?) ex
        simpa using this
      have hA : isA k n cs = true := isA_of h2 fun i hi => by
        obtain ⟨x, ex, _⟩ := hone i hi
        exact ⟨x, ex⟩
      obtain ⟨f, hf⟩ := isA_eq hA
      refine ⟨f, hf, fun j hj => ?_⟩
      obtain ⟨x, ex, wx⟩ := hone j hj
      rw [hf] at ex
      rw [cells_get n 0 j hj, Nat.zero_add] at ex
      cases ex
      exact wx
    · rw [if_neg h2] at hf
      cases hf

theorem cells_each {W : World} {base : Nat} {a : Addr} {n : Nat} {cs : List Value} (h : W.cells? base a n = some cs) : ∀ j, j < n → W.cell? (a.add j) = cs[j]? := by
  unfold World.cells? at h
  split at h
  · have key : ∀ (L : List Nat) (r : List Value), L.mapM (fun i => W.cell? (a.add i)) = some r → ∀ j, j < L.length → W.cell? (a.add (L.getD j 0)) = r[j]? := by
      intro L
      induction L with
      | nil => intro r _ j hj; cases hj
      | cons x L ih =>
        intro r h j hj
        rw [List.mapM_cons] at h
        simp only [bind, Option.bind_eq_some_iff, pure, Option.some.injEq] at h
        obtain ⟨y, hy, ys, hys, rfl⟩ := h
        cases j with
        | zero => simpa using hy
        | succ j =>
          have := ih ys hys j (by simpa using hj)
          simpa using this
    intro j hj
    have := key _ _ h j (by simpa using hj)
    rw [← this]
    congr 2
    simp [List.getD, hj]
  · cases h

set_option maxRecDepth 100000 in
/-- a slice of rows of numbers, opened -/
theorem open_sl {ts te ek : TypeId} {sz : Nat} {k : IntKind} {W : World} {base' : Nat} {sp : Nat → Bool} {held : Bool} {v : Value} {d : DataW H} {ps : List MemPlace} (hts : Try.prog.underlying ts = some (.slice te)) (hte : Try.prog.underlying te = some (.array sz ek))
    (hek : Try.prog.underlying ek = some (.int k)) (hc : Try.prog.cellsOf ek = 1) (hn : Try.prog.cellsOf te = sz) (hval : Value.okWide Try.prog W .any base' ts v) (hd : DataW.Trod enc Try.prog W 0 sp held ts v d ps) :
    v = .slice none 0 0 ∨ ∃ blk off len cap, v = .slice (some ⟨blk, off, none⟩) len cap ∧ (∃ arr ty fr, W.heap[blk]? = some (.cells arr ty fr)) ∧ cap ≠ capX ∧
      ∃ φ : Nat → Int, (∀ j, j < sz * len → (Lit.int k (φ j)).wf = true) ∧ ∀ j, j < sz * len → W.cell? ⟨blk, off + j, none⟩ = some (.int k (φ j)) := by
  obtain ⟨fuel, hf⟩ := hd
  rcases Go.Deep.open_slice hts hf with ⟨h0, _⟩ | ⟨a, len, cap, m, n, D, Pl, h0, hb, hl, hm, hmm, _, hx⟩
  · left
    cases v with
    | agg cs =>
      exfalso
      simp only [Value.okWide, hts, Cell.okWide, Cell.ok] at hval
    | _ => simp [Value.cells] at h0 <;> first | exact h0 | simp_all
  · right
    have hv : v = .slice (some a) len cap := by
      cases v with
      | agg cs =>
        exfalso
        simp only [Value.okWide, hts, Cell.okWide, Cell.ok] at hval
      | _ => simp [Value.cells] at h0 <;> simp_all
    subst hv
    simp only [Value.okWide, hts, Cell.okWide, Cell.ok] at hval
    obtain ⟨_, _, _, hspot, row, cells, hsh, _⟩ := hval
    obtain ⟨blk, off, spot⟩ := a
    have hspot : spot = none := hspot
    subst hspot
    have hblk : ∃ arr ty fr, W.heap[blk]? = some (.cells arr ty fr) := by
      unfold World.shape? at hsh
      split at hsh
      · rename_i c el fr he
        exact ⟨c, el, fr, he⟩
      · cases hsh
    have hlm : len ≤ m := by rw [hmm]; split <;> omega
    have hrow : ∀ i, i < len → ∃ f : Nat → Int, (∀ j, j < sz → (Lit.int k (f j)).wf = true) ∧ ∀ j, j < sz → W.cell? ⟨blk, off + (i * sz + j), none⟩ = some (.int k (f j)) := by
      intro i hi
      obtain ⟨cs', q1, q2⟩ := hx i (by omega)
      obtain ⟨f, rfl, wf⟩ := trod_row hte hek hc hn q2
      refine ⟨f, wf, fun j hj => ?_⟩
      have := cells_each q1 j (by rw [hn]; exact hj)
      rw [cells_get sz 0 j hj, Nat.zero_add, hn, addr_add, addr_add, Nat.add_assoc] at this
      exact this
    obtain ⟨F, hF⟩ := Go.Deep.choose_lt hrow
    have hcap : cap ≠ capX := by
      intro e
      rw [e] at hm
      exact absurd hm (by unfold capX maxLen; decide)
    refine ⟨blk, off, len, cap, rfl, hblk, hcap, fun j => F (j / sz) (j % sz), fun j hj => ?_, fun j hj => ?_⟩
    · have hsz : 0 < sz := by rcases Nat.eq_zero_or_pos sz with h | h; · rw [h, Nat.zero_mul] at hj; omega
                              · exact h
      exact (hF (j / sz) (Nat.div_lt_of_lt_mul hj)).1 (j % sz) (Nat.mod_lt _ hsz)
    · have hsz : 0 < sz := by rcases Nat.eq_zero_or_pos sz with h | h; · rw [h, Nat.zero_mul] at hj; omega
                              · exact h
      have h1 := (hF (j / sz) (Nat.div_lt_of_lt_mul hj)).2 (j % sz) (Nat.mod_lt _ hsz)
      rw [show j / sz * sz + j % sz = j by rw [Nat.mul_comm]; exact Nat.div_add_mod j sz] at h1
      exact h1
end

/-- a window of a block -/
theorem win_of {W : World} {blk off N : Nat} {k : IntKind} {φ : Nat → Int} {arr : Array Value} {ty : TypeId} {fr : Nat × Nat} (hh : W.heap[blk]? = some (.cells arr ty fr)) (h : ∀ j, j < N → W.cell? ⟨blk, off + j, none⟩ = some (.int k (φ j))) (hN : 0 < N) :
    ∃ pre rest, W.heap[blk]? = some (.cells (pre ++ cellsOf k φ N 0 ++ rest).toArray ty fr) ∧ pre.length = off := by
  have hc : ∀ j, j < N → arr.toList[off + j]? = some (.int k (φ j)) := by
    intro j hj
    have := h j hj
    simp only [World.cell?, hh] at this
    simpa using this
  have hlen : off + N ≤ arr.toList.length := by
    have := (List.getElem?_eq_some_iff.1 (hc (N - 1) (by omega))).1
    omega
  refine ⟨arr.toList.take off, arr.toList.drop (off + N), ?_, by rw [List.length_take]; omega⟩
  have hm : (arr.toList.drop off).take N = cellsOf k φ N 0 := by
    have hl : (cellsOf k φ N 0).length = N := by
      have : ∀ n i, (cellsOf k φ n i).length = n := by
        intro n
        induction n with
        | zero => intro i; rfl
        | succ n ih => intro i; simp [cellsOf, ih]
      exact this N 0
    apply List.ext_getElem?
    intro j
    rcases Nat.lt_or_ge j N with hj | hj
    · rw [List.getElem?_take, if_pos hj, List.getElem?_drop, hc j hj, cells_get N 0 j hj, Nat.zero_add]
    · rw [List.getElem?_eq_none (by rw [List.length_take]; omega), List.getElem?_eq_none (by omega)]
  have e : arr.toList.take off ++ cellsOf k φ N 0 ++ arr.toList.drop (off + N) = arr.toList := by
    rw [← hm, ← List.drop_drop, List.append_assoc, List.take_append_drop, List.take_append_drop]
  rw [e, hh]

/-- a contract at a slice that is looked into -/
theorem win_calls {f : Nat} {args args' : List Value} {blk off N : Nat} {ty' : Nat} {k : IntKind} {φ : Nat → Int} {W : World} {v : Value} {arr : Array Value} {ty : TypeId} {fr : Nat × Nat}
    (h : Ctr Try.prog f args (fun _ => some ⟨cellsOf k φ N 0, ty', false, 0⟩) v) (hh : W.heap[blk]? = some (.cells arr ty fr)) (hcell : ∀ j, j < N → W.cell? ⟨blk, off + j, none⟩ = some (.int k (φ j))) (hN : 0 < N)
    (hids : ∀ i ∈ idsOf args, i = 0) (hargs : args.map (ren fun _ => (blk, 0, off)) = args') (hv : ∀ x ∈ args, vok x) : Calls Try.prog f args'.toArray W fun r w' => r = .returned v ∧ Below W.heap.size W w' := by
  obtain ⟨pre, rest, h1, h2⟩ := win_of hh hcell hN
  have := h (fun _ => (blk, 0, off)) W (fun i _ => ⟨_, rfl, pre, rest, fr, ty, h1, h2, (fun h => by cases h), fun c hc => cellsOf_ok c hc, fun h => absurd rfl h⟩) (fun i hi j hj _ => by rw [hids i hi, hids j hj]) hv
  rw [hargs] at this
  exact this
/-- a contract at a slice that is not looked into -/
theorem blind_calls {f : Nat} {args args' : List Value} {blk : Nat} {W : World} {v : Value} {arr : Array Value} {ty : TypeId} {fr : Nat × Nat}
    (h : Ctr Try.prog f args (fun _ => some ⟨[], 0, false, 0⟩) v) (hh : W.heap[blk]? = some (.cells arr ty fr))
    (hids : ∀ i ∈ idsOf args, i = 0) (hargs : args.map (ren fun _ => (blk, 0, 0)) = args') (hv : ∀ x ∈ args, vok x) : Calls Try.prog f args'.toArray W fun r w' => r = .returned v ∧ Below W.heap.size W w' := by
  have := h (fun _ => (blk, 0, 0)) W (fun i _ => ⟨_, rfl, [], arr.toList, fr, ty, by simpa using hh, rfl, (fun h => by cases h), fun c hc => (by cases hc), fun h => absurd rfl h⟩) (fun i hi j hj _ => by rw [hids i hi, hids j hj]) hv
  rw [hargs] at this
  exact this

open Sap (F P toF)
def sl14 (o n c : Nat) : Value := .slice (some ⟨0, o, none⟩) n c
theorem l14_a (f g : Nat → Int) (u : Int) (o n c : Nat) : evBody tab orcX14 [(17, .b false)] [] [] 1000 Try.f14 (bodyOf Try.f14) [lims f, lims g, .int .u32 u, sl14 o n c] [] 1 [] (fun r => r = .bool true) =
    (emit (looseB (lims f)) false ∧ Value.bool true = .bool true) := by kernel_rfl
theorem l14_b (f g : Nat → Int) (u : Int) (o n c : Nat) : evBody tab orcX14 [(17, .b true), (21, .b false)] [] [] 1000 Try.f14 (bodyOf Try.f14) [lims f, lims g, .int .u32 u, sl14 o n c] [] 1 [] (fun r => r = .bool true) =
    (emit (looseB (lims f)) true ∧ emit (looseB (lims g)) false ∧ Value.bool true = .bool true) := by kernel_rfl
theorem l14_c (f g : Nat → Int) (u : Int) (o n c : Nat) : evBody tab orcX14 [(17, .b true), (21, .b true), (27, .b true)] [] [] 1000 Try.f14 (bodyOf Try.f14) [lims f, lims g, .int .u32 u, sl14 o n c] [] 1 [] (fun r => r = .bool true) =
    (emit (looseB (lims f)) true ∧ emit (looseB (lims g)) true ∧ emit (decide (((n : Nat) : Int) > 20)) true ∧ Value.bool true = .bool true) := by kernel_rfl
theorem l14_na (f g : Nat → Int) (u : Int) : evBody tab orcX14 [(17, .b false)] [] [] 1000 Try.f14 (bodyOf Try.f14) [lims f, lims g, .int .u32 u, .slice none 0 0] [] 0 [] (fun r => r = .bool true) =
    (emit (looseB (lims f)) false ∧ Value.bool true = .bool true) := by kernel_rfl
theorem l14_nb (f g : Nat → Int) (u : Int) : evBody tab orcX14 [(17, .b true), (21, .b false)] [] [] 1000 Try.f14 (bodyOf Try.f14) [lims f, lims g, .int .u32 u, .slice none 0 0] [] 0 [] (fun r => r = .bool true) =
    (emit (looseB (lims f)) true ∧ emit (looseB (lims g)) false ∧ Value.bool true = .bool true) := by kernel_rfl
noncomputable def xF (f : Nat → Int) : Value := vNum (FV (lims f))
noncomputable def l14_E (f g : Nat → Int) (u : Int) (s : Value) (q : Prop) (t : Value) : Prop :=
  okE1 (ifP (inU (lims f))) ∧ okE1 (ifP (inU (lims g))) ∧
  okE1 (ifP (can (xF f) ∧ can (xF g))) ∧ okE1 (ifP (isP (mulV (lims f) (lims g)) (vNum (NF (xF f) * NF (xF g))))) ∧
  okE (ifP (can (xF f) ∧ can (xF f))) ∧ okE (ifP (isP (sqV (lims f)) (vNum (NF (xF f) * NF (xF f))))) ∧
  okE (ifP (0 ≤ u ∧ u < 4294967296)) ∧ okE (ifP (can (xF f) ∧ can (vNum (FI u)))) ∧ okE (ifP (isP (timesV (lims f) (.int .u32 u)) (vNum (NF (xF f) * NF (vNum (FI u)))))) ∧
  (okE (ifP q) ∧ okE (ifP (isP s t)) ∧ Value.bool true = .bool true)
noncomputable def l14_E0 (f g : Nat → Int) (u : Int) : Prop :=
  okE1 (ifP (inU (lims f))) ∧ okE1 (ifP (inU (lims g))) ∧
  okE1 (ifP (can (xF f) ∧ can (xF g))) ∧ okE1 (ifP (isP (mulV (lims f) (lims g)) (vNum (NF (xF f) * NF (xF g))))) ∧
  okE (ifP (can (xF f) ∧ can (xF f))) ∧ okE (ifP (isP (sqV (lims f)) (vNum (NF (xF f) * NF (xF f))))) ∧
  okE (ifP (0 ≤ u ∧ u < 4294967296)) ∧ okE (ifP (can (xF f) ∧ can (vNum (FI u)))) ∧ okE (ifP (isP (timesV (lims f) (.int .u32 u)) (vNum (NF (xF f) * NF (vNum (FI u)))))) ∧
  (okE true ∧ okE (ifP (isP (lims oneI) (vNum (FI 1)))) ∧ Value.bool true = .bool true)
theorem l14_nil (f g : Nat → Int) (u : Int) : evBody tab orcX14 [(17, .b true), (21, .b true), (45, .ok), (47, .ok), (53, .ok), (54, .ok), (60, .ok), (61, .ok), (69, .ok), (70, .ok), (71, .ok), (77, .ok), (78, .ok)] [] [] 1000 Try.f14 (bodyOf Try.f14) [lims f, lims g, .int .u32 u, .slice none 0 0] [] 0 [] (fun r => r = .bool true) =
    (emit (looseB (lims f)) true ∧ emit (looseB (lims g)) true ∧ l14_E0 f g u) := by kernel_rfl
theorem l14_0 (f g : Nat → Int) (u : Int) (o c : Nat) : evBody tab orcX14 [(17, .b true), (21, .b true), (45, .ok), (47, .ok), (53, .ok), (54, .ok), (60, .ok), (61, .ok), (69, .ok), (70, .ok), (71, .ok), (77, .ok), (78, .ok)] [] [] 1000 Try.f14 (bodyOf Try.f14) [lims f, lims g, .int .u32 u, sl14 o 0 c] [(0, ⟨[], 0, false, 0⟩)] 1 [] (fun r => r = .bool true) =
    (emit (looseB (lims f)) true ∧ emit (looseB (lims g)) true ∧ l14_E0 f g u) := by kernel_rfl
noncomputable def l14_run (k : MA) (n : Nat) : Prop := evBody tab orcX14 [(17, .b true), (21, .b true), (45, .ok), (47, .ok), (53, .ok), (54, .ok), (60, .ok), (61, .ok), (69, .ok), (70, .ok), (71, .ok), (77, .ok), (78, .ok)] [] [(0, maC k n)] 1000 Try.f14 (bodyOf Try.f14) [lims k.f, lims k.g, .int .u32 k.u, slE n k.c] (hpE k.φ n) 1 [] (fun r => r = .bool true)
noncomputable def l14_want (k : MA) (n : Nat) : Prop := emit (looseB (lims k.f)) true ∧ emit (looseB (lims k.g)) true ∧ Code.loop f14l = Code.loop f14l ∧ leS (maT k n 0) (maT k n 0) ∧ l14_E k.f k.g k.u (proL (cellsOf .u64 k.φ (5 * n) 0) n) (canL (numsC k.φ n) n) (rpL (numsC k.φ n) n)
noncomputable def l14_off (k : MA) (n : Nat) : Prop := evBody tab orcX14 [(17, .b true), (21, .b true), (45, .ok), (47, .ok), (53, .ok), (54, .ok), (60, .ok), (61, .ok), (69, .ok), (70, .ok), (71, .ok), (77, .ok), (78, .ok)] [] [(0, maCo k n)] 1000 Try.f14 (bodyOf Try.f14) [lims k.f, lims k.g, .int .u32 k.u, slE n k.c] (hpE k.φ n) 1 [] (fun r => r = .bool true)
noncomputable def l14_offW (k : MA) (n : Nat) : Prop := emit (looseB (lims k.f)) true ∧ emit (looseB (lims k.g)) true ∧ Code.loop f14l = Code.loop f14l ∧ leS (maT k n 0) (maT k n 0) ∧ Value.bool true = .bool true
theorem l14_r0 (k : MA) : List.map (l14_run k) (Ev.runN 1 10) = mapL (l14_want k) (Ev.runN 1 10) := by kernel_rfl
theorem l14_o0 (k : MA) : List.map (l14_off k) (Ev.runN 1 10) = mapL (l14_offW k) (Ev.runN 1 10) := by kernel_rfl
theorem l14_r1 (k : MA) : List.map (l14_run k) (Ev.runN 11 10) = mapL (l14_want k) (Ev.runN 11 10) := by kernel_rfl
theorem l14_o1 (k : MA) : List.map (l14_off k) (Ev.runN 11 10) = mapL (l14_offW k) (Ev.runN 11 10) := by kernel_rfl
theorem l14_run_eq (k : MA) {n : Nat} (h0 : 0 < n) (hn : n ≤ 20) : l14_run k n = l14_want k n := by
  rcases Nat.lt_or_ge n 11 with h | h
  · exact mapL_eq (l14_r0 k) n (mem_runN (by omega) (by omega))
  exact mapL_eq (l14_r1 k) n (mem_runN (by omega) (by omega))
theorem l14_off_eq (k : MA) {n : Nat} (h0 : 0 < n) (hn : n ≤ 20) : l14_off k n = l14_offW k n := by
  rcases Nat.lt_or_ge n 11 with h | h
  · exact mapL_eq (l14_o0 k) n (mem_runN (by omega) (by omega))
  exact mapL_eq (l14_o1 k) n (mem_runN (by omega) (by omega))
theorem nums_len (φ : Nat → Int) : ∀ n, (numsC φ n).length = 16 * n := by
  intro n
  induction n with
  | zero => rfl
  | succ n ih =>
    show (numsC φ n ++ cellsOf .i64 _ 16 0).length = _
    rw [List.length_append, ih]
    show 16 * n + 16 = _
    omega
theorem nums_at (φ : Nat → Int) : ∀ n i j, i < n → j < 16 → (numsC φ n)[16 * i + j]? = some (.int .i64 (numD (FV (eA φ i)).val j)) := by
  intro n
  induction n with
  | zero => intro i j hi; omega
  | succ n ih =>
    intro i j hi hj
    show (numsC φ n ++ cellsOf .i64 (numD (FV (eA φ n)).val) 16 0)[16 * i + j]? = _
    rcases Nat.lt_or_ge i n with h | h
    · rw [List.getElem?_append_left (by rw [nums_len]; omega)]
      exact ih i j h hj
    · have : i = n := by omega
      subst this
      rw [List.getElem?_append_right (by rw [nums_len]; omega), nums_len, show 16 * i + j - 16 * i = j by omega, cells_get 16 0 j hj, Nat.zero_add]
theorem atI_get {k : IntKind} {x : Int} : ∀ (l : List Value) (j : Nat), l[j]? = some (.int k x) → atI l j = x := by
  intro l
  induction l with
  | nil => intro j h; simp at h
  | cons v l ih =>
    intro j h
    cases j with
    | zero =>
      simp only [List.getElem?_cons_zero, Option.some.injEq] at h
      subst h
      rfl
    | succ j =>
      simp only [List.getElem?_cons_succ] at h
      cases v <;> exact ih j h
theorem nums_nA (φ : Nat → Int) {n i : Nat} (hi : i < n) : nA (fun j => atI (numsC φ n) j) i = vNum (FV (eA φ i)) := by
  show Value.agg _ = Value.agg _
  congr 2
  refine cells_congr fun j _ hj => ?_
  have := nums_at φ n i j hi (by omega)
  show atI (numsC φ n) (16 * i + j) = _
  exact atI_get _ _ this
theorem nums_can (φ : Nat → Int) (n : Nat) : canL (numsC φ n) n := fun i hi => by rw [nums_nA φ hi]; exact can_vNum _
theorem one_TT : bnd (lims oneI) TT := small_TT ⟨by decide, by decide⟩ .u32
theorem one_FV : FV (lims oneI) = FI 1 := (small_lim 1 (by decide) (by decide) .u32).2
theorem pro_FV {φ : Nat → Int} {ψ : Nat → Int} {n : Nat} (hb : ∀ i, i < n → bnd (eA φ i) LL) (hn : ∀ i, i < n → nA ψ i = vNum (FV (eA φ i))) : ∀ m, m ≤ n → bnd (lims (proG mQ φ m)) TT ∧ FV (lims (proG mQ φ m)) = rpN ψ m := by
  intro m
  induction m with
  | zero => intro _; exact ⟨one_TT, one_FV⟩
  | succ m ih =>
    intro hm
    obtain ⟨h1, h2⟩ := ih (by omega)
    obtain ⟨p1, p2⟩ := mul_FV (bnd_LL h1) (hb m (by omega))
    have e : lims (proG mQ φ (m + 1)) = mulV (lims (proG mQ φ m)) (eA φ m) := mQ_eq _ _
    rw [e]
    refine ⟨p2, ?_⟩
    show _ = NF (vNum (rpN ψ m)) * NF (nA ψ m)
    rw [p1, h2, hn m (by omega), NF_vNum, NF_vNum]
theorem pro_isP {φ : Nat → Int} {n : Nat} (hb : ∀ i, i < n → bnd (eA φ i) LL) : isP (proL (cellsOf .u64 φ (5 * n) 0) n) (rpL (numsC φ n) n) := by
  obtain ⟨h1, h2⟩ := pro_FV (ψ := fun j => atI (numsC φ n) j) hb (fun i hi => nums_nA φ hi) n (Nat.le_refl _)
  rw [proL_eq]
  refine ⟨h1, can_vNum _, ?_⟩
  unfold rpL
  rw [NF_vNum]
  exact h2
theorem one_isP : isP (lims oneI) (vNum (FI 1)) := ⟨one_TT, can_vNum _, by rw [NF_vNum]; exact one_FV⟩
theorem times_FI {f : Nat → Int} {u : Int} (hf : bnd (lims f) LL) (hu : 0 ≤ u ∧ u < 4294967296) : FV (timesV (lims f) (.int .u32 u)) = FV (lims f) * FI u ∧ bnd (timesV (lims f) (.int .u32 u)) TT := times_FV hf ⟨hu.1, by omega⟩
theorem l14_E_of {f g : Nat → Int} {u : Int} (hf : bnd (lims f) LL) (hg : bnd (lims g) LL) (hu : 0 ≤ u ∧ u < 4294967296) {s t : Value} {q : Prop} (hq : q) (h : isP s t) : l14_E f g u s q t := by
  obtain ⟨m1, m2⟩ := mul_FV hf hg
  obtain ⟨s1, s2⟩ := sq_FV hf
  obtain ⟨t1, t2⟩ := times_FI hf hu
  refine ⟨okE1_of (inU_of hf), okE1_of (inU_of hg), okE1_of ⟨can_vNum _, can_vNum _⟩, okE1_of ⟨m2, can_vNum _, ?_⟩, okE_of ⟨can_vNum _, can_vNum _⟩, okE_of ⟨s2, can_vNum _, ?_⟩, okE_of hu, okE_of ⟨can_vNum _, can_vNum _⟩, okE_of ⟨t2, can_vNum _, ?_⟩, okE_of hq, okE_of h, rfl⟩
  · unfold xF; rw [NF_vNum, NF_vNum, NF_vNum, m1]
  · unfold xF; rw [NF_vNum, NF_vNum, s1]
  · unfold xF; rw [NF_vNum, NF_vNum, NF_vNum, t1]
theorem l14_E0_of {f g : Nat → Int} {u : Int} (hf : bnd (lims f) LL) (hg : bnd (lims g) LL) (hu : 0 ≤ u ∧ u < 4294967296) : l14_E0 f g u := by
  obtain ⟨h1, h2, h3, h4, h5, h6, h7, h8, h9, _⟩ := l14_E_of (s := lims oneI) (t := vNum (FI 1)) (q := True) hf hg hu trivial one_isP
  exact ⟨h1, h2, h3, h4, h5, h6, h7, h8, h9, rfl, okE_of one_isP, rfl⟩
theorem ctr14 {args : List Value} {Hp : Heap} {n : Nat} {sc : List Bool} {sy : Sy} {br : List Nat} {lo : Lo} {g : Blks} (hL : LoOk Try.prog lo) (hev : evBody tab orcX14 sy br lo 1000 Try.f14 (bodyOf Try.f14) args Hp n sc (fun r => r = .bool true)) (hids : ∀ i ∈ idsOf args, i < n)
    (hH : ∀ i b, hget Hp i = some b → i ∈ idsOf args ∧ b.own = false ∧ b.ap = 0 ∧ ∃ q p, g i = some ⟨b.cs, b.ty, q, p⟩) : Ctr Try.prog 14 args g (.bool true) :=
  ctr_of_ev tabOk orcX14_ok mixed hL Try.func14 (c := bodyOf Try.f14) (by kernel_rfl) hev hids hH
theorem ids14 (f g : Nat → Int) (u : Int) (o n c : Nat) : idsOf [lims f, lims g, .int .u32 u, .slice (some ⟨0, o, none⟩) n c] = [0] := rfl
theorem vok14 (f g : Nat → Int) (u : Int) (s : Value) (hs : vok s) : ∀ x ∈ [lims f, lims g, .int .u32 u, s], vok x := by
  intro x hx
  simp only [List.mem_cons, List.not_mem_nil, or_false] at hx
  rcases hx with rfl | rfl | rfl | rfl
  · show vok (arrOf .u64 5 f); exact vok_arr'
  · show vok (arrOf .u64 5 g); exact vok_arr'
  · exact trivial
  · exact hs
theorem one_blk {i : Nat} {b : Blk} (hib : hget [(0, ⟨[], 0, false, 0⟩)] i = some b) : i = 0 ∧ b = ⟨[], 0, false, 0⟩ := by
  simp only [hget] at hib
  split at hib
  · rename_i hb
    cases hib
    exact ⟨(Nat.eq_of_beq_eq_true hb).symm, rfl⟩
  · cases hib
def isRow (φ : Nat → Int) (m : Nat) : Prop := ∀ j, j < m → 0 ≤ φ j ∧ φ j < 18446744073709551616
theorem isE_row {φ : Nat → Int} {n : Nat} (h : isRow φ (5 * n)) {i : Nat} (hi : i < n) : isE (fun j => φ (5 * i + j)) := fun j hj => h _ (by omega)
theorem first_bad {φ : Nat → Int} : ∀ n, (∀ i, i < n → looseB (eA φ i) = true) ∨ ∃ m, m < n ∧ (∀ i, i < m → looseB (eA φ i) = true) ∧ looseB (eA φ m) = false := by
  intro n
  induction n with
  | zero => exact Or.inl fun i hi => by omega
  | succ n ih =>
    rcases ih with h | ⟨m, h1, h2, h3⟩
    · cases hb : looseB (eA φ n) with
      | true =>
        refine Or.inl fun i hi => ?_
        rcases Nat.lt_or_ge i n with h' | h'
        · exact h i h'
        · rw [show i = n by omega]; exact hb
      | false => exact Or.inr ⟨n, by omega, h, hb⟩
    · exact Or.inr ⟨m, by omega, h2, h3⟩
theorem l14_calls {f g : Nat → Int} {u : Int} (hf : isE f) (hg : isE g) (hu : 0 ≤ u ∧ u < 4294967296) {blk off len cap : Nat} {W : World} {arr : Array Value} {ty : TypeId} {fr : Nat × Nat} (hh : W.heap[blk]? = some (.cells arr ty fr)) {φ : Nat → Int}
    (hφ : isRow φ (5 * len)) (hcell : ∀ j, j < 5 * len → W.cell? ⟨blk, off + j, none⟩ = some (.int .u64 (φ j))) (hcap : cap ≠ capX) :
    Calls Try.prog 14 [lims f, lims g, .int .u32 u, .slice (some ⟨blk, off, none⟩) len cap].toArray W fun r w' => r = .returned (.bool true) ∧ Below W.heap.size W w' := by
  have blind : ∀ Hp sc sy br, (∀ i b, hget Hp i = some b → i = 0 ∧ b = ⟨[], 0, false, 0⟩) → evBody tab orcX14 sy br [] 1000 Try.f14 (bodyOf Try.f14) [lims f, lims g, .int .u32 u, sl14 off len cap] Hp 1 sc (fun r => r = .bool true) →
      Calls Try.prog 14 [lims f, lims g, .int .u32 u, .slice (some ⟨blk, off, none⟩) len cap].toArray W fun r w' => r = .returned (.bool true) ∧ Below W.heap.size W w' := by
    intro Hp sc sy br hHp hev
    refine blind_calls (ctr14 loOk_nil hev (by rw [sl14, ids14]; intro i hi; simp at hi; omega) (by
      intro i b hib
      obtain ⟨rfl, rfl⟩ := hHp i b hib
      exact ⟨by rw [sl14, ids14]; simp, rfl, rfl, false, 0, rfl⟩)) hh (by rw [sl14, ids14]; intro i hi; simpa using hi) ?_ (vok14 f g u _ trivial)
    have hs : ren (fun _ => (blk, 0, 0)) (sl14 off len cap) = .slice (some ⟨blk, off, none⟩) len cap := by simp only [ren, sl14, if_neg hcap, Nat.add_zero]
    simp only [List.map_cons, List.map_nil, hs, ren_plain (show adr (lims f) = false from rfl), ren_plain (show adr (lims g) = false from rfl), ren_plain (show adr (.int .u32 u) = false from rfl)]
  have win : ∀ n lo, len = n → 0 < n → LoOk Try.prog lo → (∃ sc sy br, evBody tab orcX14 sy br lo 1000 Try.f14 (bodyOf Try.f14) [lims f, lims g, .int .u32 u, slE n cap] (hpE φ n) 1 sc (fun r => r = .bool true)) →
      Calls Try.prog 14 [lims f, lims g, .int .u32 u, .slice (some ⟨blk, off, none⟩) len cap].toArray W fun r w' => r = .returned (.bool true) ∧ Below W.heap.size W w' := by
    intro n lo hn h0 hL ⟨sc, sy, br, hev⟩
    subst hn
    refine win_calls (N := 5 * len) (ty' := 36) (ctr14 hL hev (by rw [slE, ids14]; intro i hi; simp at hi; omega) (by
      intro i blk hib
      unfold hpE at hib
      simp only [hget] at hib
      split at hib
      · rename_i hbeq
        have := Nat.eq_of_beq_eq_true hbeq
        subst this
        cases hib
        exact ⟨by rw [slE, ids14]; simp, rfl, rfl, false, 0, rfl⟩
      · cases hib)) hh hcell (by omega) (by rw [slE, ids14]; intro i hi; simpa using hi) ?_ (vok14 f g u _ trivial)
    have hs : ren (fun _ => (blk, 0, off)) (slE len cap) = .slice (some ⟨blk, off, none⟩) len cap := by simp only [ren, slE, if_neg hcap, Nat.zero_add]
    simp only [List.map_cons, List.map_nil, hs, ren_plain (show adr (lims f) = false from rfl), ren_plain (show adr (lims g) = false from rfl), ren_plain (show adr (.int .u32 u) = false from rfl)]
  cases ga : looseB (vE f) with
  | false => exact blind _ _ _ _ (by intro i b hib; cases hib) (of_eq (l14_a f g u off len cap) ⟨emit_of ga, rfl⟩)
  | true =>
    cases gb : looseB (vE g) with
    | false => exact blind _ _ _ _ (by intro i b hib; cases hib) (of_eq (l14_b f g u off len cap) ⟨emit_of ga, emit_of gb, rfl⟩)
    | true =>
      have bf : bnd (lims f) LL := loose_of hf ga
      have bg : bnd (lims g) LL := loose_of hg gb
      rcases (by omega : len = 0 ∨ (0 < len ∧ len ≤ 20) ∨ 20 < len) with h | ⟨h0, h⟩ | h
      · subst h
        exact blind _ _ _ _ (fun i b hib => one_blk hib) (of_eq (l14_0 f g u off cap) ⟨emit_of ga, emit_of gb, l14_E0_of bf bg hu⟩)
      · rcases first_bad (φ := φ) len with hall | ⟨m, h1, h2, h3⟩
        · have hb : ∀ i, i < len → bnd (eA φ i) LL := fun i hi => loose_of (isE_row hφ hi) (hall i hi)
          exact win len _ rfl h0 (ma_lo ⟨f, g, u, φ, cap⟩ h0 h hb) ⟨_, _, _, of_eq (l14_run_eq ⟨f, g, u, φ, cap⟩ h0 h) ⟨emit_of ga, emit_of gb, rfl, maPre_refl _ _ _, l14_E_of bf bg hu (nums_can _ _) (pro_isP hb)⟩⟩
        · have hb : ∀ i, i < m → bnd (eA φ i) LL := fun i hi => loose_of (isE_row hφ (by omega)) (h2 i hi)
          exact win len _ rfl h0 (ma_lo' ⟨f, g, u, φ, cap⟩ h h1 hb h3) ⟨_, _, _, of_eq (l14_off_eq ⟨f, g, u, φ, cap⟩ h0 h) ⟨emit_of ga, emit_of gb, rfl, maPre_refl _ _ _, rfl⟩⟩
      · exact blind _ _ _ _ (by intro i b hib; cases hib) (of_eq (l14_c f g u off len cap) ⟨emit_of ga, emit_of gb, emit_of (decide_eq_true (by omega)), rfl⟩)
theorem l14_calls_nil {f g : Nat → Int} {u : Int} (hf : isE f) (hg : isE g) (hu : 0 ≤ u ∧ u < 4294967296) (W : World) :
    Calls Try.prog 14 [lims f, lims g, .int .u32 u, .slice none 0 0].toArray W fun r w' => r = .returned (.bool true) ∧ Below W.heap.size W w' := by
  have fin : ∀ sy, evBody tab orcX14 sy [] [] 1000 Try.f14 (bodyOf Try.f14) [lims f, lims g, .int .u32 u, .slice none 0 0] [] 0 [] (fun r => r = .bool true) → Calls Try.prog 14 [lims f, lims g, .int .u32 u, .slice none 0 0].toArray W fun r w' => r = .returned (.bool true) ∧ Below W.heap.size W w' := by
    intro sy hev
    have h := ctr14 (g := fun _ => none) loOk_nil hev (by intro i hi; cases hi) (by intro i b hib; cases hib)
    exact h (fun k => (k, 0, 0)) W (by intro i hi; cases hi) (by intro i hi; cases hi) (vok14 f g u _ trivial)
  cases ga : looseB (vE f) with
  | false => exact fin _ (of_eq (l14_na f g u) ⟨emit_of ga, rfl⟩)
  | true =>
    cases gb : looseB (vE g) with
    | false => exact fin _ (of_eq (l14_nb f g u) ⟨emit_of ga, emit_of gb, rfl⟩)
    | true =>
      have bf : bnd (lims f) LL := loose_of hf ga
      have bg : bnd (lims g) LL := loose_of hg gb
      exact fin _ (of_eq (l14_nil f g u) ⟨emit_of ga, emit_of gb, l14_E0_of bf bg hu⟩)

theorem isE_of {f : Nat → Int} (h : ∀ j, j < 5 → (Lit.int .u64 (f j)).wf = true) : isE f := fun j hj => by
  obtain ⟨h1, h2⟩ := range_of (h j hj)
  have e1 : IntKind.u64.min = 0 := by decide
  have e2 : IntKind.u64.max = 18446744073709551615 := by decide
  rw [e1] at h1; rw [e2] at h2
  exact ⟨h1, by omega⟩
theorem u32_of {n : Int} (h : (Lit.int .u32 n).wf = true) : 0 ≤ n ∧ n < 4294967296 := by
  obtain ⟨h1, h2⟩ := range_of h
  have e1 : IntKind.u32.min = 0 := by decide
  have e2 : IntKind.u32.max = 4294967295 := by decide
  rw [e1] at h1; rw [e2] at h2
  exact ⟨h1, by omega⟩
theorem isK_of {f : Nat → Int} (h : ∀ j, j < 32 → (Lit.int .u8 (f j)).wf = true) : isK f := fun j hj => isB_of (h j hj)

theorem row_of {φ : Nat → Int} {m : Nat} (h : ∀ j, j < m → (Lit.int .u64 (φ j)).wf = true) : isRow φ m := fun j hj => by
  obtain ⟨h1, h2⟩ := range_of (h j hj)
  have e1 : IntKind.u64.min = 0 := by decide
  have e2 : IntKind.u64.max = 18446744073709551615 := by decide
  rw [e1] at h1; rw [e2] at h2
  exact ⟨h1, by omega⟩
set_option maxRecDepth 100000 in
theorem mulfMakes_lifted (os : Os) (started : os.Started) (H : Type) (enc : TypeId × Value → H) :
    ReturnsInHanded {} Try.checked os 14 .any (Rows.mulfMakesSpec.pre6 enc Try.prog Try.f14 Rows.mulfMakesRow.domain false) (Rows.mulfMakesSpec.post enc Try.prog Try.f14 false true false false) := by
  refine returnsInHanded_of_change (C := Try.checked) own started (by kernel_rfl) Try.func14
    (ChangeSpec.witness6 (enc := enc) (C := Try.checked) false ⟨#[], #[arrOf .u64 5 (fun _ => 0), arrOf .u64 5 (fun _ => 0), .int .u32 0, .slice none 0 0], []⟩ 8 (by kernel_rfl) (by kernel_rfl) (by kernel_rfl) (by kernel_rfl)) ?_
  intro W base args ds gs before hval0 hW hcnd _
  have hval : ∀ (j : Nat) t v, Try.f14.params[j]? = some t → args[j]? = some v → Value.okWide Try.prog W .any base t v := hval0
  have hW' := hW
  obtain ⟨p, q, hA0, hV, rfl, hfz, hnd⟩ := hW
  have hA : DataW.TrodAll enc Try.prog W 0 (fun _ => true) true Try.f14.params.toList args.toList ds p := hA0
  rw [Try.params14] at hA hval
  obtain ⟨v0, v1, v2, v3, d0, d1, d2, d3, p0, p1, p2, p3, rfl, rfl, rfl, h0, h1, h2, h3⟩ := trodAll_four hA
  obtain ⟨rfl, rfl⟩ := trodVars_none hV
  obtain ⟨x0, rfl, w0⟩ := open_arr Try.underlying36 Try.underlying34 (by kernel_rfl) (by kernel_rfl) (hval 0 36 v0 rfl rfl) h0
  obtain ⟨x1, rfl, w1⟩ := open_arr Try.underlying36 Try.underlying34 (by kernel_rfl) (by kernel_rfl) (hval 1 36 v1 rfl rfl) h1
  obtain ⟨x2, rfl, rfl, rfl, w2⟩ := open_int Try.underlying41 (hval 2 41 v2 rfl rfl) h2
  have post : ∀ args' : Array Value, #[arrOf .u64 5 x0, arrOf .u64 5 x1, .int .u32 x2, v3] = args' → (Calls Try.prog 14 args' W fun r w' => r = .returned (.bool true) ∧ Below W.heap.size W w') → Calls Try.checked.prog 14 #[arrOf .u64 5 x0, arrOf .u64 5 x1, .int .u32 x2, v3] W fun e W' => ∃ v, e = Ending.returned v ∧ ChangeSpec.post enc Try.checked.prog Try.f14 Rows.mulfMakesSpec false true false false W #[arrOf .u64 5 x0, arrOf .u64 5 x1, .int .u32 x2, v3] v W' := by
    intro args' ha hcalls
    subst ha
    refine hcalls.mono fun e W' ⟨he, hb⟩ => ?_
    exact ⟨_, he, law_post hW' hb rfl (by kernel_rfl) (reads_of (by kernel_rfl)) ⟨rfl, rfl, rfl⟩⟩
  rcases open_sl Try.underlying60 Try.underlying36 Try.underlying34 (by kernel_rfl) (by kernel_rfl) (hval 3 60 v3 rfl rfl) h3 with rfl | ⟨blk, off, len, cap, rfl, ⟨arr, ty, fr, hh⟩, hcap, φ, wφ, hφ⟩
  · exact post _ rfl (l14_calls_nil (isE_of w0) (isE_of w1) (u32_of w2) W)
  · exact post _ rfl (l14_calls (isE_of w0) (isE_of w1) (u32_of w2) hh (row_of wφ) hφ hcap)

theorem mulfMakes_closed : joinedFacts Try.prog 14 Try.f14 Rows.mulfMakesSpec Rows.mulfMakesRow = true := by
  refine (joinedFacts.eq_1 ..).trans ?_
  rw [enters_ok, no_finals, make_is]
  kernel_rfl

theorem mulfMakes_holds : Rows.MulfMakesSaid :=
  OpenClaim.holds_of_wide 14 Try.f14 rfl rfl rfl rfl rfl rfl rfl ⟨rfl, rfl, rfl, rfl, rfl⟩ rfl rfl rfl rfl rfl (by kernel_rfl) Try.func14 mulfMakes_closed
    (of_decide_eq_true (by kernel_rfl)) (by unfold Func.isWrapper; rw [if_neg (by decide +kernel)]; exact ⟨rfl, rfl⟩)
    (fun os started H enc _ => mulfMakes_lifted os started H enc)

end Go.Proofs.Ythgefjgbkhkmgaa
