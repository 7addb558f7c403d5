/-
  The frame of a row: a law that answers true and turns nothing; its arguments opened.
-/
import Derived.Test.YthgefjgbkhkmgaaDoorCtL
import Derived.ProofKit
namespace Go.Proofs.YthgefjgbkhkmgaaDoor
open Go Go.ChangeShapes Go.WideShapes Go.ChangeAt Go.RowKit Ev

theorem of_eq {p q : Prop} (h : p = q) (hq : q) : p := h.symm ▸ hq

theorem own : ownKnob Tryd.prog.godebug = none := by kernel_rfl
theorem laidOut : laidOutB Tryd.prog = true := by kernel_rfl

section
variable {H : Type} {enc : TypeId × Value → H}

theorem trodAll_below {W W' : World} (hb : Below W.heap.size W W') : ∀ {ts : List TypeId} {vs : List Value} {ds : List (DataW H)} {ps : List MemPlace}, (∀ t ∈ ts, Tryd.prog.readableRec t = true ∧ t < Tryd.prog.types.size) →
    DataW.TrodAll enc Tryd.prog W 0 (fun _ => true) true ts vs ds ps → (∀ x ∈ ps, x.block < W.heap.size) → DataW.TrodAll enc Tryd.prog W' 0 (fun b => decide (b < W.heap.size)) true ts vs ds ps := by
  intro ts
  induction ts with
  | nil =>
    intro vs ds ps _ h _
    obtain ⟨rfl, rfl, rfl⟩ := trodAll_nil h
    exact trodAll_mk0
  | cons t ts ih =>
    intro vs ds ps ht h hlt
    obtain ⟨v, vs', d, ds', p, q, rfl, rfl, rfl, hd, hr⟩ := trodAll_cons h
    obtain ⟨r1, r2⟩ := ht t List.mem_cons_self
    exact ⟨p, q, Below.trod laidOut r1 r2 hd hb fun x hx => hlt x (List.mem_append_left _ hx), ih (fun t' h' => ht t' (List.mem_cons_of_mem _ h')) hr fun x hx => hlt x (List.mem_append_right _ hx), rfl⟩

theorem trodAll_five {t t1 t2 t3 t4 : TypeId} {W : World} {base : Nat} {spare : Nat → Bool} {held : Bool} {args : Array Value} {ds : List (DataW H)} {ps : List MemPlace} (h : DataW.TrodAll enc Tryd.prog W base spare held [t, t1, t2, t3, t4] args.toList ds ps) :
    ∃ v v1 v2 v3 v4 d d1 d2 d3 d4 p p1 p2 p3 p4, args = #[v, v1, v2, v3, v4] ∧ ds = [d, d1, d2, d3, d4] ∧ ps = p ++ p1 ++ p2 ++ p3 ++ p4 ∧ DataW.Trod enc Tryd.prog W base spare held t v d p ∧ DataW.Trod enc Tryd.prog W base spare held t1 v1 d1 p1 ∧
      DataW.Trod enc Tryd.prog W base spare held t2 v2 d2 p2 ∧ DataW.Trod enc Tryd.prog W base spare held t3 v3 d3 p3 ∧ DataW.Trod enc Tryd.prog W base spare held t4 v4 d4 p4 := by
  obtain ⟨v, vs, d, ds', p, q, hargs, rfl, rfl, hd, r0⟩ := trodAll_cons h
  obtain ⟨v1, vs1, d1, ds1, p1, q1, rfl, rfl, rfl, hd1, r1⟩ := trodAll_cons r0
  obtain ⟨v2, vs2, d2, ds2, p2, q2, rfl, rfl, rfl, hd2, r2⟩ := trodAll_cons r1
  obtain ⟨v3, vs3, d3, ds3, p3, q3, rfl, rfl, rfl, hd3, r3⟩ := trodAll_cons r2
  obtain ⟨v4, vs4, d4, ds4, p4, q4, rfl, rfl, rfl, hd4, r4⟩ := trodAll_cons r3
  obtain ⟨rfl, rfl, rfl⟩ := trodAll_nil r4
  exact ⟨v, v1, v2, v3, v4, d, d1, d2, d3, d4, p, p1, p2, p3, p4, by cases args; simp_all, rfl, by simp [List.append_assoc], hd, hd1, hd2, hd3, hd4⟩

/-- what the row asks behind the call -/
theorem law_post {f : Func} {s : ChangeSpec} {W W' : World} {args : Array Value} {ds gs : List (DataW H)} {before : List MemPlace} (hW : DataW.Whole enc Tryd.prog f.params.toList s.vars false W args.toList ds gs before)
    (hb : Below W.heap.size W W') (hv : s.vars = []) (hr : f.resultTypes = #[4]) (hts : ∀ t ∈ f.params.toList, Tryd.prog.readableRec t = true ∧ t < Tryd.prog.types.size)
    (hfn : (s.fn H ds).results = [.lit (.bool true)] ∧ (s.fn H ds).args = ds ∧ (s.fn H ds).vars = []) : s.post enc Tryd.prog f false true false false W args (.bool true) W' := by
  obtain ⟨p, q, hA, hV, e, hfz, hnd⟩ := id hW
  rw [hv] at hV
  obtain ⟨rfl, rfl⟩ := trodVars_none hV
  subst e
  obtain ⟨f1, f2, f3⟩ := hfn
  refine ⟨ds, [], _, [], p, [], hW, ?_, ?_, ?_, hb.frame _, fun h => by cases h⟩
  · rw [List.append_nil, f1, hr]
    exact trodAll_mk1 (shut_bool Tryd.underlying4 true)
  · rw [List.append_nil, f2]
    exact trodAll_below hb hts hA fun x hx => hW.lt x (List.mem_append_left _ hx)
  · rw [List.append_nil, f3, hv]
    rfl

/-! ## Arguments opened -/
theorem isA_of {k : IntKind} : ∀ {n : Nat} {l : List Value}, l.length = n → (∀ i, i < n → ∃ x, l[i]? = some (.int k x)) → isA k n l = true := by
  intro n
  induction n with
  | zero => intro l hl _; cases l with
    | nil => rfl
    | cons x r => cases hl
  | succ n ih =>
    intro l hl h
    cases l with
    | nil => cases hl
    | cons c l =>
      obtain ⟨x, ex⟩ := h 0 (by omega)
      simp only [List.getElem?_cons_zero, Option.some.injEq] at ex
      subst ex
      have hk : kindEq k k = true := by cases k <;> rfl
      simp only [isA, hk]
      exact ih (by simpa using hl) fun i hi => by simpa using h (i + 1) (by omega)

theorem cells_get {k : IntKind} {f : Nat → Int} : ∀ (n i j : Nat), j < n → (cellsOf k f n i)[j]? = some (.int k (f (i + j))) := by
  intro n
  induction n with
  | zero => intro i j h; omega
  | succ n ih =>
    intro i j h
    cases j with
    | zero => simp [cellsOf]
    | succ j =>
      simp only [cellsOf, List.getElem?_cons_succ]
      rw [ih (i + 1) j (by omega)]
      congr 3; omega

set_option maxRecDepth 100000 in
theorem open_arr {t e : TypeId} {n : Nat} {k : IntKind} {W : World} {base base' : Nat} {sp : Nat → Bool} {held : Bool} {r : Reach} {v : Value} {d : DataW H} {ps : List MemPlace} (ht : Tryd.prog.underlying t = some (.array n e)) (he : Tryd.prog.underlying e = some (.int k))
    (hc : Tryd.prog.cellsOf e = 1) (hn : Tryd.prog.cellsOf t = n) (hval : Value.okWide Tryd.prog W r base' t v) (hd : DataW.Trod enc Tryd.prog W base sp held t v d ps) :
    ∃ f : Nat → Int, v = arrOf k n f ∧ ∀ j, j < n → (Lit.int k (f j)).wf = true := by
  simp only [Value.okWide, ht] at hval
  obtain ⟨cs, rfl, h2, _⟩ := hval
  obtain ⟨fuel, hf⟩ := hd
  cases fuel with
  | zero => simp [DataW.trod] at hf
  | succ m =>
    rw [DataW.trod_step] at hf
    unfold DataW.trodStep at hf
    simp only [ht, Value.cells] at hf
    rw [if_pos (by simpa using h2)] at hf
    simp only [Option.map_eq_some_iff] at hf
    obtain ⟨ys, hy, _⟩ := hf
    rw [hn] at h2
    have key : ∀ (L : List Nat) (ys : List (DataW H × List MemPlace)), L.mapM (fun i => DataW.trod enc Tryd.prog W base sp held m e ((cs.toList.drop (i * Tryd.prog.cellsOf e)).take (Tryd.prog.cellsOf e))) = some ys →
        ∀ i ∈ L, ∃ x, (cs.toList.drop i).take 1 = [.int k x] ∧ (Lit.int k x).wf = true := by
      intro L
      induction L with
      | nil => intro _ _ i hi; cases hi
      | cons a L ih =>
        intro ys h i hi
        rw [List.mapM_cons] at h
        simp only [bind, Option.bind_eq_some_iff] at h
        obtain ⟨y, hy, ys', hys, _⟩ := h
        rcases List.mem_cons.1 hi with rfl | hi
        · obtain ⟨x, ex, _, wx⟩ := DataW.trod_int he hy
          rw [hc, Nat.mul_one] at ex
          exact ⟨x, ex, wx⟩
        · exact ih ys' hys i hi
    have hall := key _ _ hy
    have hone : ∀ i, i < n → ∃ x, cs.toList[i]? = some (.int k x) ∧ (Lit.int k x).wf = true := by
      intro i hi
      obtain ⟨x, ex, wx⟩ := hall i (List.mem_range.2 hi)
      refine ⟨x, ?_, wx⟩
      have := congrArg (fun l => l[0]?) ex
      simpa using this
    have hA : isA k n cs.toList = true := isA_of (by simpa using h2) fun i hi => by
      obtain ⟨x, ex, _⟩ := hone i hi
      exact ⟨x, ex⟩
    obtain ⟨f, hf⟩ := isA_eq hA
    refine ⟨f, by rw [arrOf, ← hf], fun j hj => ?_⟩
    obtain ⟨x, ex, wx⟩ := hone j hj
    rw [hf] at ex
    rw [cells_get n 0 j hj, Nat.zero_add] at ex
    cases ex
    exact wx
end

theorem reads_of {ts : List Nat} (h : ts.all (fun t => Tryd.prog.readableRec t && decide (t < Tryd.prog.types.size)) = true) : ∀ t ∈ ts, Tryd.prog.readableRec t = true ∧ t < Tryd.prog.types.size := by
  intro t ht
  have := List.all_eq_true.1 h t ht
  rw [Bool.and_eq_true, decide_eq_true_eq] at this
  exact this

theorem vok_arr' {k : IntKind} {n : Nat} {f : Nat → Int} : vok (arrOf k n f) := fun c hc => cellsOf_ok c hc

theorem ok_mk : ∀ {sh : List Sh} {e : Env} {j : Nat}, ∀ x ∈ mkA sh e j, vok x ∧ adr x = false := by
  intro sh
  induction sh with
  | nil => intro e j x hx; cases hx
  | cons s sh ih =>
    intro e j x hx
    rcases List.mem_cons.1 hx with rfl | hx
    · cases s
      · exact ⟨trivial, rfl⟩
      · exact ⟨vok_arr', rfl⟩
      · exact ⟨trivial, rfl⟩
      · exact ⟨trivial, rfl⟩
    · exact ih x hx

/-- a contract at plain arguments is a contract of the call -/
theorem plain_calls {f : Nat} {sh : List Sh} {e : Env} {v : Value} (h : ∀ g, Ctr Tryd.prog f (mkA sh e 0) g v) (W : World) : Calls Tryd.prog f (mkA sh e 0).toArray W fun r w' => r = .returned v ∧ Below W.heap.size W w' := by
  have := h (fun _ => none) (fun k => (k, 0, 0)) W (by rw [ids_mk]; simp) (by rw [ids_mk]; simp) fun x hx => (ok_mk x hx).1
  have e : (mkA sh e 0).map (ren fun k => (k, 0, 0)) = mkA sh e 0 := by
    have : (mkA sh e 0).map (ren fun k => (k, 0, 0)) = (mkA sh e 0).map (fun x => x) := List.map_congr_left fun x hx => ren_plain (ok_mk x hx).2
    simpa using this
  rw [e] at this
  exact this

theorem range_of {k : IntKind} {x : Int} (h : (Lit.int k x).wf = true) : k.min ≤ x ∧ x ≤ k.max := by
  simp only [Lit.wf, Bool.and_eq_true, decide_eq_true_eq] at h
  exact h

theorem isB_of {x : Int} (h : (Lit.int .u8 x).wf = true) : isB x := by
  obtain ⟨h1, h2⟩ := range_of h
  have e1 : IntKind.u8.min = 0 := by decide
  have e2 : IntKind.u8.max = 255 := by decide
  rw [e1] at h1; rw [e2] at h2
  exact ⟨h1, by omega⟩

end Go.Proofs.YthgefjgbkhkmgaaDoor
