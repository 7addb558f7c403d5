/-
  Each operation's reckoning is the model's: conversions, addresses, indexes, calls; and all operations together.
-/
import Derived.Test.YthgefjgbkhkmgaaDoorEvD
namespace Go.Proofs.YthgefjgbkhkmgaaDoor.Ev
open Go Go.RowKit

section
variable {P : Program} {tab : Tab} {orc : Orc} {sy : Sy} {w0 : World} {A : Nat → Prop} {ρ : Nat → Nat × Nat × Nat} {N : Nat} {t : Slots} {g : Blks} {a : Act} {w : World} {id : Nat} {out : Out} {o : Oper}

/-- what 'ofBV' gives, ended by a run -/
theorem ends_bv (hR : Rel w0 A ρ N t g a w) {r : Option (Bool × Value)} (ho : ofBV r = some out)
    (h : ∀ v, r = some (out.c, v) → vok v ∧ (∀ k ∈ idOf v, A k) ∧ (execOp a.eval o).run P w = .ok (.value (ren ρ v)) w) : Ends P o a w w0 A N t g id out := by
  unfold ofBV at ho
  split at ho
  · cases ho
  · rename_i c v
    cases ho
    obtain ⟨h1, h2, h3⟩ := h v rfl
    exact ends_val hR h1 h2 h3

theorem allU8_spec : ∀ (l : List Value), allU8 l = true → ∀ c ∈ l, ∃ n, c = .int .u8 n := by
  intro l
  induction l with
  | nil => intro _ c hc; cases hc
  | cons x r ih =>
    intro h c hc
    unfold allU8 at h
    split at h
    · rename_i heq; cases heq
    · rename_i heq
      cases heq
      rcases List.mem_cons.1 hc with e | e
      · exact ⟨_, e⟩
      · exact ih h c e
    · cases h

theorem push_all : ∀ (ns : List Int) (s : ByteArray), ns.foldl (fun r n => r.push (UInt8.ofNat n.toNat)) s = ⟨s.data ++ (ns.map fun n => UInt8.ofNat n.toNat).toArray⟩ := by
  intro ns
  induction ns with
  | nil => intro s; simp
  | cons n r ih =>
    intro s
    rw [List.foldl_cons, ih]
    simp [ByteArray.push]

theorem allU8_map : ∀ (l : List Value), allU8 l = true → ∃ ns : List Int, l = ns.map (Value.int .u8) ∧ l.map byteOf = ns.map fun n => UInt8.ofNat n.toNat := by
  intro l
  induction l with
  | nil => intro _; exact ⟨[], rfl, rfl⟩
  | cons x r ih =>
    intro h
    unfold allU8 at h
    split at h
    · rename_i heq; cases heq
    · rename_i n r' heq
      cases heq
      obtain ⟨ns, h1, h2⟩ := ih h
      exact ⟨n :: ns, by simp [h1], by simp [h2, byteOf]⟩
    · cases h

theorem case_convert (hT : TabOk P tab) (hR : Rel w0 A ρ N t g a w) {s d : Nat} {x : Operand} (hop : o.op = .convert s d x) (ho : opF tab orc sy id t g (.convert s d x) = some out) (hc : out.c = true) : Ends P o a w w0 A N t g id out := by
  simp only [opF] at ho
  split at ho
  · rename_i u hu
    obtain ⟨e1, e2, e3⟩ := hR.eval hu
    refine ends_bv hR ho fun v hv => ?_
    rw [hc] at hv
    unfold convF at hv
    split at hv
    · cases hv
    · rename_i yd hyd
      have hyd := hT _ _ hyd
      split at hv
      · rename_i k hk
        split at hv
        · rename_i ys k' n hys
          have hys := hT _ _ hys
          cases hv
          refine ⟨trivial, by simp [idOf], ?_⟩
          rw [ren_plain rfl] at e1
          have hsrc : (convert s d (.int k' n)).run P w = .ok (.int k (k.wrap n)) w := by
            simp only [convert, Sem.run_bind, run_underlying hys.und, run_underlying hyd.und, hk, Result.andThen_ok, Conv.intToInt, Sem.run_pure]
          simp only [execOp, hop, e1, Sem.run_bind, hsrc, Result.andThen_ok, Sem.run_pure, ren]
        · cases hv
      · rename_i hk
        split at hv
        · cases hv
        · rename_i ys hys
          have hys := hT _ _ hys
          split at hv
          · rename_i e he
            split at hv
            · cases hv
            · rename_i ye hye
              have hye := hT _ _ hye
              split at hv
              · rename_i hu8
                split at hv
                · rename_i id' off len cp
                  split at hv
                  · cases hv
                  · rename_i b hb
                    split at hv
                    · cases hv
                    · rename_i hall
                      simp only [Option.some.injEq, Prod.mk.injEq, Nat.ble_eq] at hv
                      obtain ⟨hle, rfl⟩ := hv
                      refine ⟨trivial, by simp [idOf], ?_⟩
                      have hB := (hR.hp id' b hb).2
                      have hlen : ((b.cs.drop off).take len).length = len := by simp; omega
                      have hl := run_loadCells_list (P := P) w ⟨(ρ id').1, off + (ρ id').2.2, none⟩ ((b.cs.drop off).take len) (fun j v hv => by
                        rw [addr_add, Nat.add_right_comm]
                        refine (hB.cell ?_).1
                        have hj := (List.getElem?_eq_some_iff.1 hv).1
                        rw [List.getElem?_take, List.getElem?_drop] at hv
                        split at hv
                        · exact hv
                        · cases hv)
                      rw [hlen] at hl
                      have hconv : ∀ cp', (convert s d (.slice (some ⟨(ρ id').1, off + (ρ id').2.2, none⟩) len cp')).run P w = .ok (.string ⟨(((b.cs.drop off).take len).map byteOf).toArray⟩) w := by
                        intro cp'
                        obtain ⟨ns, hns, hmap⟩ := allU8_map _ hall
                        rw [run_convert_bytes_string w s d e (some ⟨(ρ id').1, off + (ρ id').2.2, none⟩) len cp' (by rw [hys.und, he]) (by rw [hye.und, hu8]) (by rw [hyd.und, hk])]
                        rw [run_bytesToString w _ len cp' ns (by rw [hl, hns]), push_all, hmap]
                        congr 3
                        simp
                      simp only [execOp, hop, e1, ren, Sem.run_bind, hconv, Result.andThen_ok, Sem.run_pure]
                · cases hv
              · cases hv
          · cases hv
      · cases hv
  · cases ho

theorem case_slice (hT : TabOk P tab) (hR : Rel w0 A ρ N t g a w) {ty : Nat} {x : Operand} {lo hi mx : Option Operand} (hop : o.op = .slice ty x lo hi mx) (ho : opF tab orc sy id t g (.slice ty x lo hi mx) = some out) (hc : out.c = true) : Ends P o a w w0 A N t g id out := by
  simp only [opF] at ho
  split at ho
  · rename_i u vs hu hvs
    obtain ⟨e1, e2, e3⟩ := hR.eval hu
    have hlook : ∀ (z : Option Operand), (∀ q, z = some q → q ∈ lo.toList ++ hi.toList ++ mx.toList) → ∀ q, z = some q → ∃ v, look t q = some v := by
      intro z hz q hq
      have hmem := hz q hq
      have : ∀ (l : List Operand) (vs : List Value), lookAll t l = some vs → ∀ q ∈ l, ∃ v, look t q = some v := by
        intro l
        induction l with
        | nil => intro _ _ q hq; cases hq
        | cons y r ih =>
          intro vs h q hq
          simp only [lookAll] at h
          split at h
          · cases h
          · rename_i v hv
            split at h
            · cases h
            · rename_i vs' hr
              rcases List.mem_cons.1 hq with e | e
              · rw [e]; exact ⟨v, hv⟩
              · exact ih vs' hr q e
      exact this _ _ hvs q hmem
    refine ends_bv hR ho fun v hv => ?_
    rw [hc] at hv
    unfold sliceF at hv
    have hmx : mx.bind (look t) = none → mx = none := by
      intro h
      cases mx with
      | none => rfl
      | some q =>
        obtain ⟨v, hv⟩ := hlook (some q) (by intro q' hq'; cases hq'; simp) q rfl
        simp [hv] at h
    have hlo : lo.bind (look t) = none → lo = none := by
      intro h
      cases lo with
      | none => rfl
      | some q =>
        obtain ⟨v, hv⟩ := hlook (some q) (by intro q' hq'; cases hq'; simp) q rfl
        simp [hv] at h
    have hhi : hi.bind (look t) = none → hi = none := by
      intro h
      cases hi with
      | none => rfl
      | some q =>
        obtain ⟨v, hv⟩ := hlook (some q) (by intro q' hq'; cases hq'; simp) q rfl
        simp [hv] at h
    have hsome : ∀ (z : Option Operand) (k : IntKind) (b : Int), z.bind (look t) = some (.int k b) → z.map a.eval = some (.int k b) := by
      intro z k b h
      cases z with
      | none => cases h
      | some q =>
        obtain ⟨f1, _, _⟩ := hR.eval (x := q) (v := .int k b) (by simpa using h)
        simp [f1, ren]
    split at hv
    · rename_i id' off hm
      split at hv
      · cases hv
      · rename_i y hy
        have hy := hT _ _ hy
        split at hv
        · rename_i n el hd hl hh
          split at hv
          · cases hv
          rename_i ye hye
          have hye := hT _ _ hye
          simp only [Option.some.injEq, Prod.mk.injEq, Bool.not_eq_true', Bool.and_eq_true, Nat.ble_eq] at hv
          obtain ⟨⟨hn, hn2⟩, rfl⟩ := hv
          have hn0 : n ≠ 0 := by intro e; rw [e] at hn; cases hn
          have hnc : ¬ n = capX := by unfold capX; omega
          refine ⟨trivial, e3, ?_⟩
          have e : lo.map a.eval = none ∧ hi.map a.eval = none ∧ mx.map a.eval = none := by
            rw [hlo hl, hhi hh, hmx hm]; exact ⟨rfl, rfl, rfl⟩
          obtain ⟨f1, f2, f3⟩ := e
          have hk := sizeOf_run hye w
          simp only [execOp, hop, f1, f2, f3, e1, ren, Instr.sliceAt, Sem.run_bind, run_underlying hy.und, hd, Result.andThen_ok, Instr.sureAddr, Sem.run_pure, Instr.sliceBounds, hk]
          simp [hn0, hnc, Addr.add]
        · cases hv
    · rename_i s hm
      split at hv
      · cases hv
      · rename_i y hy
        have hy := hT _ _ hy
        split at hv
        · rename_i k b hd hl hh
          simp only [Option.some.injEq, Prod.mk.injEq, decide_eq_true_eq] at hv
          obtain ⟨⟨h0, h1⟩, rfl⟩ := hv
          refine ⟨trivial, by simp [idOf], ?_⟩
          have f1 : lo.map a.eval = none := by rw [hlo hl]; rfl
          have f2 := hsome hi k b hh
          have f3 : mx.map a.eval = none := by rw [hmx hm]; rfl
          simp only [execOp, hop, f1, f2, f3, e1, ren, Instr.sliceAt, Sem.run_bind, run_underlying hy.und, hd, Result.andThen_ok, Instr.slice]
          simp [Instr.sliceBounds, run_sliceBound_if, h0, h1]
        · rename_i k1 a1 k b hd hl hh
          simp only [Option.some.injEq, Prod.mk.injEq, decide_eq_true_eq] at hv
          obtain ⟨⟨h0, h1, h2, h3⟩, rfl⟩ := hv
          refine ⟨trivial, by simp [idOf], ?_⟩
          have f1 := hsome lo k1 a1 hl
          have f2 := hsome hi k b hh
          have f3 : mx.map a.eval = none := by rw [hmx hm]; rfl
          simp only [execOp, hop, f1, f2, f3, e1, ren, Instr.sliceAt, Sem.run_bind, run_underlying hy.und, hd, Result.andThen_ok, Instr.slice]
          simp [Instr.sliceBounds, run_sliceBound_if, h0, h1, h2]
          intro hx
          exfalso
          omega
        · cases hv
    · cases hv
  · cases ho

theorem case_fieldAddr (hT : TabOk P tab) (hR : Rel w0 A ρ N t g a w) {ty f : Nat} {x : Operand} (hop : o.op = .fieldAddr ty x f) (ho : opF tab orc sy id t g (.fieldAddr ty x f) = some out) (hc : out.c = true) : Ends P o a w w0 A N t g id out := by
  simp only [opF] at ho
  split at ho
  · rename_i u hu
    obtain ⟨e1, e2, e3⟩ := hR.eval hu
    refine ends_bv hR ho fun v hv => ?_
    rw [hc] at hv
    unfold fieldF at hv
    split at hv
    · rename_i id' off
      split at hv
      · cases hv
      · rename_i y hy
        have hy := hT _ _ hy
        split at hv
        · rename_i fs hd
          split at hv
          · cases hv
          · rename_i fld hfld
            split at hv
            · cases hv
            · rename_i z hz
              have hz := hT _ _ hz
              simp only [Option.some.injEq, Prod.mk.injEq, Bool.not_eq_true'] at hv
              obtain ⟨hn, rfl⟩ := hv
              have hn0 : z.size ≠ 0 := by intro e; rw [e] at hn; cases hn
              refine ⟨trivial, e3, ?_⟩
              have hf : fs[f]? = some fld := by rw [nth_eq] at hfld; simpa using hfld
              simp only [execOp, hop, e1, ren, Instr.fieldAt, Sem.run_bind, run_underlying hy.und, hd, Result.andThen_ok, hf, Instr.sureAddr, Sem.run_pure, fieldPlace, sizeOf_run hz]
              rw [if_neg hn0]
              simp [addr_add]
        · cases hv
    · cases hv
  · cases ho

theorem case_indexAddr (hT : TabOk P tab) (hR : Rel w0 A ρ N t g a w) {ty : Nat} {x ix : Operand} (hop : o.op = .indexAddr ty x ix) (ho : opF tab orc sy id t g (.indexAddr ty x ix) = some out) (hc : out.c = true) : Ends P o a w w0 A N t g id out := by
  simp only [opF] at ho
  split at ho
  · rename_i u i hu hi
    obtain ⟨e1, e2, e3⟩ := hR.eval hu
    obtain ⟨i1, _, _⟩ := hR.eval hi
    refine ends_bv hR ho fun v hv => ?_
    rw [hc] at hv
    unfold idxAddrF at hv
    split at hv
    · rename_i k n
      split at hv
      · cases hv
      · rename_i y hy
        have hy := hT _ _ hy
        split at hv
        · rename_i len el id' off hd
          split at hv
          · cases hv
          · rename_i z hz
            have hz := hT _ _ hz
            simp only [Option.some.injEq, Prod.mk.injEq, decide_eq_true_eq] at hv
            obtain ⟨hb, rfl⟩ := hv
            refine ⟨trivial, e3, ?_⟩
            rw [ren_plain rfl] at i1
            simp only [execOp, hop, e1, i1, ren, Instr.indexAt, Sem.run_bind, asIntOf, run_underlying hy.und, hd, Result.andThen_ok, Instr.sureAddr, Sem.run_pure]
            rw [if_pos hb]
            simp [sizeOf_run hz, addr_add]
        · rename_i el id' off len cp hd
          split at hv
          · cases hv
          · rename_i z hz
            have hz := hT _ _ hz
            simp only [Option.some.injEq, Prod.mk.injEq, decide_eq_true_eq] at hv
            obtain ⟨hb, rfl⟩ := hv
            refine ⟨trivial, e3, ?_⟩
            rw [ren_plain rfl] at i1
            simp only [execOp, hop, e1, i1, ren, Instr.indexAt, Sem.run_bind, asIntOf, run_underlying hy.und, hd, Result.andThen_ok, Sem.run_pure]
            rw [if_pos hb]
            simp [sizeOf_run hz, addr_add]
        · cases hv
    · cases hv
  · cases ho

theorem byteAt_eq (l : List UInt8) : ∀ n, n < l.length → l[n]? = some (byteAt l n) := by
  induction l with
  | nil => intro n h; simp at h
  | cons b r ih => intro n h; cases n with
    | zero => rfl
    | succ n => simpa [byteAt] using ih n (by simpa using h)

theorem case_index (hT : TabOk P tab) (hR : Rel w0 A ρ N t g a w) {ty : Nat} {x ix : Operand} (hop : o.op = .index ty x ix) (ho : opF tab orc sy id t g (.index ty x ix) = some out) (hc : out.c = true) : Ends P o a w w0 A N t g id out := by
  simp only [opF] at ho
  split at ho
  · rename_i u i hu hi
    obtain ⟨e1, e2, e3⟩ := hR.eval hu
    obtain ⟨i1, i2, i3⟩ := hR.eval hi
    refine ends_bv hR ho fun v hv => ?_
    rw [hc] at hv
    unfold idxF at hv
    split at hv
    · rename_i k n
      rw [ren_plain rfl] at i1
      split at hv
      · cases hv
      · rename_i y hy
        have hy := hT _ _ hy
        split at hv
        · rename_i len el cs hd
          split at hv
          · cases hv
          · rename_i z hz
            have hz := hT _ _ hz
            simp only [Option.some.injEq, Prod.mk.injEq, Bool.and_eq_true, decide_eq_true_eq, Nat.ble_eq, Bool.or_eq_true, Nat.beq_eq] at hv
            obtain ⟨⟨⟨hb, hl⟩, hs⟩, rfl⟩ := hv
            rw [ren_plain rfl] at e1
            have hpart : (part el cs (n.toNat * z.size)).run P w = .ok (ldv z cs.toList (n.toNat * z.size)) w ∧ tok (ldv z cs.toList (n.toNat * z.size)) := by
              unfold part ldv
              simp only [Sem.run_bind, isAgg_run hz.und, Result.andThen_ok]
              cases hagg : isAggD z.und with
              | true =>
                simp only [if_true, sizeOf_run hz, Sem.run_bind, Result.andThen_ok, Sem.run_pure]
                refine ⟨?_, ?_⟩
                · congr 2
                  apply Array.ext'
                  simp [Array.toList_extract, List.extract_eq_take_drop]
                · intro c hc'
                  exact e2 c (List.mem_of_mem_drop (List.mem_of_mem_take (by simpa using hc')))
              | false =>
                rw [hagg] at hs
                simp only [Bool.false_eq_true, false_or] at hs
                have hlt : n.toNat * z.size < cs.toList.length := by omega
                have hget : cs[n.toNat * z.size]? = some (cs.toList[n.toNat * z.size]) := by
                  simp at hlt
                  simp [hlt]
                rw [getD_eq]
                have e : cs.toList.getD (n.toNat * z.size) undef = cs.toList[n.toNat * z.size] := by rw [List.getD_eq_getElem?_getD, List.getElem?_eq_getElem hlt]; rfl
                rw [e]
                refine ⟨by simp [hget], ?_⟩
                have hck := e2 (cs.toList[n.toNat * z.size]) (List.getElem_mem hlt)
                generalize cs.toList[n.toNat * z.size] = q at hck
                cases q <;> first | exact hck | (have h1 := hck.1; simp [Value.oneCell'] at h1)
            refine ⟨hpart.2.vok, by rw [idOf_plain hpart.2.adr]; simp, ?_⟩
            rw [ren_plain hpart.2.adr]
            simp only [execOp, hop, e1, i1, Instr.index, Sem.run_bind, asIntOf, run_underlying hy.und, hd, Result.andThen_ok, Sem.run_pure]
            rw [if_pos hb]
            simp only [Sem.run_bind, sizeOf_run hz, Result.andThen_ok, hpart.1]
        · rename_i s hd
          simp only [Option.some.injEq, Prod.mk.injEq, decide_eq_true_eq] at hv
          obtain ⟨⟨h0, h1⟩, rfl⟩ := hv
          refine ⟨trivial, by simp [idOf], ?_⟩
          simp only [ren] at e1
          have hsz : s.size = s.data.toList.length := by rw [Array.length_toList]; rfl
          have hlt : n.toNat < s.data.toList.length := by omega
          have hb : s[n.toNat]? = some (byteAt s.data.toList n.toNat) := by
            have := byteAt_eq s.data.toList n.toNat hlt
            have hs : n.toNat < s.size := by omega
            rw [getElem?_pos s n.toNat hs]
            rw [List.getElem?_eq_getElem hlt] at this
            have := Option.some.inj this
            rw [← this]
            rfl
          simp only [execOp, hop, e1, i1, Instr.index, Sem.run_bind, asIntOf, run_underlying hy.und, hd, Result.andThen_ok, Sem.run_pure, if_pos h0, hb, ren]
        · cases hv
    · cases hv
  · cases ho

theorem case_extract (hR : Rel w0 A ρ N t g a w) {x : Operand} {i : Nat} (hop : o.op = .extract x i) (ho : opF tab orc sy id t g (.extract x i) = some out) : Ends P o a w w0 A N t g id out := by
  simp only [opF] at ho
  split at ho
  · rename_i vs hu
    obtain ⟨e1, e2, e3⟩ := hR.eval hu
    split at ho
    · rename_i v hv
      cases ho
      rw [nth_eq] at hv
      have hk := e2 v (List.mem_of_getElem? hv)
      refine ends_plain hR hk.vok hk.adr ?_
      have hv' : vs[i]? = some v := by simpa using hv
      simp only [execOp, hop, e1, ren, Instr.extract, hv', Sem.run_bind, Sem.run_pure, Result.andThen_ok]
    · cases ho
  · cases ho

theorem case_makeFunc (hR : Rel w0 A ρ N t g a w) {fn : Fn} {first captured : Array Operand} (hop : o.op = .makeFunc fn first captured) (ho : opF tab orc sy id t g (.makeFunc fn first captured) = some out) : Ends P o a w w0 A N t g id out := by
  simp only [opF] at ho
  split at ho
  · rename_i f h1 h2
    cases ho
    have e1 : first = #[] := by apply Array.ext'; simpa using h1
    have e2 : captured = #[] := by apply Array.ext'; simpa using h2
    subst e1; subst e2
    refine ends_plain hR trivial rfl ?_
    simp [execOp, hop, Instr.makeFunc]
  · cases ho

theorem ofNat_wrap {n : Nat} (h : n ≤ 1048576) : IntKind.i64.wrap (Int.ofNat n) = (n : Int) := by
  have e : Int.ofNat n = (n : Int) := rfl
  rw [e]
  exact IntWalk.i64_in _ (by omega)

theorem case_makeSlice (hT : TabOk P tab) (hR : Rel w0 A ρ N t g a w) (hid : ¬ A id) {e : Nat} {l c : Operand} (hop : o.op = .makeSlice e l c) (ho : opF tab orc sy id t g (.makeSlice e l c) = some out) : Ends P o a w w0 A N t g id out := by
  simp only [opF] at ho
  split at ho
  · rename_i y n m hy hl hc
    have hy := hT _ _ hy
    obtain ⟨e1, _, _⟩ := hR.eval hl
    obtain ⟨e2, _, _⟩ := hR.eval hc
    rw [ren_plain rfl] at e1 e2
    split at ho
    · rename_i el hd
      split at ho
      · cases ho
      · rename_i z hz
        have hz := hT _ _ hz
        split at ho
        · rename_i hb
          cases ho
          simp only [Bool.and_eq_true, Nat.ble_eq, Bool.not_eq_true', Nat.beq_eq] at hb
          obtain ⟨⟨⟨⟨hnm, hzl⟩, hbytes⟩, hn⟩, h0⟩ := hb
          subst hnm
          have h0 : n * z.size ≠ 0 := by intro e; rw [e] at h0; cases h0
          obtain ⟨i, hi, hi1, hi2⟩ := info_run hz w
          obtain ⟨zv, hzv, hzz⟩ := zero_run hz w
          have hzs : zv.cells.size = z.size := by rw [← hzl, ← hzz]; simp
          have hrow := zeroRow_range zv.cells n z.size hzs h0
          rw [hzz] at hrow
          refine ends_new hR hid (fun c hc => hz.zok c (zeroRow_mem hc)) [] (Or.inr ⟨_, _, rfl⟩) ?_
          have hw := ofNat_wrap hn
          have hroom : ∀ q, (askRoom q).run P w = .ok () w := by
            intro q; unfold askRoom mark; split <;> simp [Sem.run]
          simp only [execOp, hop, e1, e2, Instr.makeSlice, Sem.run_bind, run_underlying hy.und, hd, Result.andThen_ok, asInt, asIntOf, Sem.run_pure, hi, hw, hi2]
          rw [if_neg (by
            simp only [Bool.or_eq_true, decide_eq_true_eq]
            omega)]
          simp only [Sem.run_bind, Int.toNat_natCast, hroom, Result.andThen_ok, sizeOf_run hz, h0, if_false, hzv, Sem.run_pure, hrow, newRow, newObj, Sem.run]
          have hnc : ¬ n = capX := by unfold capX; omega
          simp [ren, hnc]
        · cases ho
    · cases ho
  · cases ho

theorem Rel.sub (h : Rel w0 A ρ N t g a w) {g' : Blks} (hg : ∀ k b, g' k = some b → g k = some b) : Rel w0 A ρ N t g' a w :=
  ⟨h.df, h.len, h.tm, h.bl, fun id b hb => h.hp id b (hg id b hb), fun i j b c hb hc => h.inj i j b c (hg i b hb) (hg j c hc)⟩

/-- a slice's row gets a new number: its cells are others from there on -/
theorem Rel.move (h : Rel w0 A ρ N t g a w) (hid : ¬ A id) {b : Nat} {k : Blk} (hk : g b = some k) (hown : k.own = true) {cs' : List Value} {w' : World} {rest' : List Value}
    (hw : w' = w.setRow (ρ b).1 (cs' ++ rest').toArray) (hcs : ∀ c ∈ cs', cok c) {el ap : Nat} (hel : k.ty = el) (hap : ap ≠ 0 → (cs' ++ rest').length = (ρ b).2.1 * ap) :
    Rel w0 (fun k => A k ∨ k = id) (fun q => if q = id then ρ b else ρ q) N t (fun q => if q = id then some ⟨cs', el, true, ap⟩ else if q = b then none else g q) a w' := by
  obtain ⟨h1, hblk⟩ := h.hp b k hk
  obtain ⟨rest, h2, hB, hsh, h4, h5⟩ := hblk.mine hown
  have hne : ∀ q, A q → q ≠ id := fun q hq e => hid (e ▸ hq)
  subst hw
  refine ⟨h.df, h.len, ?_, below_setRow h.bl hB _, ?_, ?_⟩
  · intro i v hv
    obtain ⟨q1, q2, q3⟩ := h.tm i v hv
    refine ⟨?_, q2, fun q hq => Or.inl (q3 q hq)⟩
    rw [q1]
    exact (ren_congr fun q hq => if_neg (hne q (q3 q hq))).symm
  · intro q c hc
    by_cases hq : q = id
    · subst hq
      rw [if_pos rfl] at hc
      cases hc
      refine ⟨Or.inr rfl, BlkOk.of_mine (rest := rest') ?_ (by simp only [if_true]; exact hB) (by simp only [if_true]; exact hsh) rfl hcs (by simp only [if_true]; exact hap)⟩
      simp only [if_true]
      rw [← hel]
      exact setRow_heap w (ρ b).1 _ _ _ _ h2
    · rw [if_neg hq] at hc
      by_cases hqb : q = b
      · rw [if_pos hqb] at hc; cases hc
      · rw [if_neg hqb] at hc
        obtain ⟨g1, pre2, r2, fr2, ty2, g2, g2', g3, g4, g5⟩ := h.hp q c hc
        refine ⟨Or.inl g1, pre2, r2, fr2, ty2, ?_, by simp only [if_neg hq]; exact g2', ?_, g4, ?_⟩
        · simp only [if_neg hq]
          rw [setRow_other w (ρ b).1 (ρ q).1 _ (fun e => hqb (h.inj q b c k hc hk e))]
          exact g2
        · simp only [if_neg hq]; exact g3
        · simp only [if_neg hq]; exact g5
  · intro i j x y hx hy he
    have aux : ∀ q z, (if q = id then some (⟨cs', el, true, ap⟩ : Blk) else if q = b then none else g q) = some z → q = id ∨ (q ≠ id ∧ q ≠ b ∧ g q = some z) := by
      intro q z hz
      by_cases hq : q = id
      · exact Or.inl hq
      · rw [if_neg hq] at hz
        by_cases hqb : q = b
        · rw [if_pos hqb] at hz; cases hz
        · rw [if_neg hqb] at hz; exact Or.inr ⟨hq, hqb, hz⟩
    rcases aux i x hx with hi | ⟨hi1, hi2, hi3⟩
    · rcases aux j y hy with hj | ⟨hj1, hj2, hj3⟩
      · rw [hi, hj]
      · simp only [if_pos hi, if_neg hj1] at he
        exact absurd (h.inj b j k y hk hj3 he).symm hj2
    · rcases aux j y hy with hj | ⟨hj1, hj2, hj3⟩
      · simp only [if_neg hi1, if_pos hj] at he
        exact absurd (h.inj i b x k hi3 hk he) hi2
      · simp only [if_neg hi1, if_neg hj1] at he
        exact h.inj i j x y hi3 hj3 he

theorem growBy_le (need : Nat) : ∀ (r c : Nat), c ≤ need + need / 4 + 192 → Builtin.growBy need r c ≤ need + need / 4 + 192 := by
  intro r
  induction r with
  | zero => intro c h; exact h
  | succ r ih =>
    intro c h
    unfold Builtin.growBy
    split
    · exact h
    · exact ih _ (by omega)
theorem next_le {need cap : Nat} (h : cap < need) : Builtin.nextslicecap need cap ≤ 2 * need + 192 := by
  unfold Builtin.nextslicecap
  split
  · omega
  · split
    · omega
    · have := growBy_le need 4 cap (by omega)
      omega

/-- what is appended, in the model -/
theorem appd_run (hT : TabOk P tab) (hR : Rel w0 A ρ N t g a w) {z : Ty} {el xt : Nat} (hz : TyOk P el z) {x : Value} (hx : vok x) {c : Bool} {m : Nat} {new : List Value} (h : appd tab g z xt x = some (c, m, new)) (hc : c = true) :
    new.length = m * z.size ∧ (∀ q ∈ new, cok q) ∧
    ((∃ k, P.underlying xt = some (.int k) ∧ x = .int .i64 (m : Int) ∧ m ≤ 1048576 ∧ z.bytes * m ≤ 281474976710656 ∧ z.zero.length = z.size ∧ z.size ≠ 0 ∧ new = zeroRow z.zero m) ∨
     (∃ e b off cp, P.underlying xt = some (.slice e) ∧ x = .slice (some ⟨b, off, none⟩) m cp ∧ ∀ w', Below w.heap.size w w' → (loadCells ⟨(ρ b).1, off + (ρ b).2.2, none⟩ (m * z.size)).run P w' = .ok new.toArray w')) := by
  unfold appd at h
  split at h
  · cases h
  · rename_i y hy
    have hy := hT _ _ hy
    split at h
    · rename_i k n hd
      simp only [Option.some.injEq, Prod.mk.injEq, hc] at h
      obtain ⟨hb, rfl, rfl⟩ := h
      simp only [Bool.and_eq_true, Nat.ble_eq, Bool.not_eq_true', Nat.beq_eq] at hb
      obtain ⟨⟨⟨b1, b2⟩, b3⟩, b4⟩ := hb
      refine ⟨by rw [zeroRow_length, b3], fun q hq => hz.zok q (zeroRow_mem hq), Or.inl ⟨k, by rw [hy.und, hd], rfl, b1, b2, b3, (by intro e; rw [e] at b4; cases b4), rfl⟩⟩
    · rename_i e b off n cp hd
      split at h
      · cases h
      · rename_i k hk
        simp only [Option.some.injEq, Prod.mk.injEq, hc, Nat.ble_eq] at h
        obtain ⟨hb, rfl, rfl⟩ := h
        have hlen : ((k.cs.drop off).take (n * z.size)).length = n * z.size := by simp; omega
        refine ⟨hlen, ?_, Or.inr ⟨e, b, off, cp, by rw [hy.und, hd], rfl, ?_⟩⟩
        · intro q hq
          obtain ⟨_, _, _, _, _, _, _, _, h4, _⟩ := hR.hp b k hk
          exact h4 q (List.mem_of_mem_drop (List.mem_of_mem_take hq))
        · intro w' hw'
          have hB := ((hR.later hw').hp b k hk).2
          have hl := run_loadCells_list (P := P) w' ⟨(ρ b).1, off + (ρ b).2.2, none⟩ ((k.cs.drop off).take (n * z.size)) (fun j v hv => by
            rw [addr_add, Nat.add_right_comm]
            refine (hB.cell ?_).1
            rw [List.getElem?_take, List.getElem?_drop] at hv
            split at hv
            · exact hv
            · cases hv)
          rw [hlen] at hl
          exact hl
    · cases h

theorem askRoom_run (q : Nat) : (askRoom q).run P w = .ok () w := by
  unfold askRoom mark; split <;> simp [Sem.run]

theorem below_drew (w : World) : Below w.heap.size w w.drew := (Below.refl _ _).drew

theorem zeroCells_length (z : Array Value) (n : Nat) : (Builtin.zeroCells z n).toList.length = n * z.size := by
  simp [Builtin.zeroCells]

/-- an append that must grow -/
theorem append_grows (hT : TabOk P tab) (hR : Rel w0 A ρ N t g a w) {y z : Ty} {el st xt ty : Nat} (hy : TyOk P st y) (hd : y.und = .slice el) (hz : TyOk P el z) {x : Value} (hx : vok x) {c : Bool} {m : Nat} {new : List Value}
    (h : appd tab g z xt x = some (c, m, new)) (hc : c = true) {base : Option Addr} {len cap : Nat} {old : List Value} (hold : ∀ w', Below w.heap.size w w' → (Builtin.firstCells z.size len (.slice base len cap)).run P w' = .ok old.toArray w')
    (hol : old.length = len * z.size) (hneed : cap < len + m) (hsmall : len + m ≤ 1048576) (hbytes : z.bytes ≤ 4096) (hzl : z.zero.length = z.size) :
    ∃ cp rest, (Builtin.append_ #[st, xt] ty #[.slice base len cap, ren ρ x]).run P w = .ok (.slice (some ⟨w.heap.size, 0, none⟩) (len + m) cp) (w.drew.alloc (.cells (old ++ new ++ rest).toArray el)) ∧ (old ++ new ++ rest).length = cp * z.size := by
  obtain ⟨hl, hcok, hcase⟩ := appd_run (P := P) hT hR hz hx h hc
  obtain ⟨zv, hzv, hzz⟩ := zero_run hz w.drew
  have hzs : zv.cells.size = z.size := by rw [← hzl, ← hzz]; simp
  let q : Question := .appendCap (len + m) cap el
  refine ⟨q.cut (w.tape w.drawn q), (Builtin.zeroCells zv.cells (q.cut (w.tape w.drawn q) - (len + m))).toList, ?_, ?_⟩
  · have hnext := next_le hneed
    have hch : (choose q).run P w = .ok (q.cut (w.tape w.drawn q)) w.drew := by
      simp [choose, Sem.run, q, Question.forced]
    have hn1 : ¬ len + m ≤ cap := by omega
    have hn3 : ¬ Builtin.nextslicecap (len + m) cap * z.bytes > 2 ^ 48 := by
      have h1 : Builtin.nextslicecap (len + m) cap * z.bytes ≤ (2 * 1048576 + 192) * 4096 := Nat.mul_le_mul (by omega) hbytes
      have h2 : (2 : Nat) ^ 48 = 281474976710656 := by decide
      omega
    obtain ⟨i1, hi1, hi2, hi3⟩ := info_run hz w
    obtain ⟨i2, hi4, hi5, hi6⟩ := info_run hz w.drew
    have hold1 := hold w.drew (below_drew w)
    rcases hcase with ⟨k, hk, rfl, hm, hbm, _, hz0, rfl⟩ | ⟨e, b, off, cp, hk, rfl, hrun⟩
    · have hw1 : IntKind.i64.wrap (m : Int) = (m : Int) := ofNat_wrap hm
      have hbb : ¬ ((m : Int) * (z.bytes : Int) > 2 ^ 48) := by
        have h1 : ((z.bytes * m : Nat) : Int) ≤ 281474976710656 := by omega
        rw [Int.natCast_mul, Int.mul_comm] at h1
        omega
      have hgt : ¬ ((len + m : Nat) : Int) > IntKind.i64.max := by
        have : IntKind.i64.max = 9223372036854775807 := by decide
        omega
      have hzr : (if m * z.size = 0 then (pure #[] : Sem (Array Value)) else do pure (Builtin.zeroCells (← zeroValue el).cells m)).run P w.drew = .ok (zeroRow z.zero m).toArray w.drew := by
        split
        · rename_i h0
          have : (zeroRow z.zero m) = [] := by
            apply List.eq_nil_of_length_eq_zero; rw [zeroRow_length, hzl]; exact h0
          rw [this]; simp
        · rename_i h0
          have hrow := zeroRow_range zv.cells m z.size hzs h0
          rw [hzz] at hrow
          have e : m * zv.cells.size = m * z.size := by rw [hzs]
          simp only [Sem.run_bind, hzv, Result.andThen_ok, Sem.run_pure, Builtin.zeroCells]
          rw [e, hrow]
      have hnz : (ren ρ (.int .i64 (m : Int))) = .int .i64 (m : Int) := rfl
      simp only [Builtin.append_, hnz, List.getElem?_toArray, List.getElem?_cons_zero, List.getElem?_cons_succ, Sem.run_bind, run_underlying hy.und, hd, Result.andThen_ok, sizeOf_run hz, run_underlying hk, Sem.run_pure, if_true, asInt, asIntOf, hw1]
      rw [if_neg (by omega)]
      simp only [Sem.run_bind, hi1, Result.andThen_ok, hi3]
      rw [if_neg hbb]
      simp only [Sem.run_bind, Sem.run_pure, Result.andThen_ok, Int.toNat_natCast, hn1, if_false]
      simp only [Sem.run_bind, hi1, Result.andThen_ok, hgt, false_and, if_false, hi3]
      rw [if_neg hn3]
      simp only [Sem.run_bind, show choose (.appendCap (len + m) cap el) = choose q from rfl, hch, Result.andThen_ok, hi4, askRoom_run, hold1, Bool.not_true, Bool.false_eq_true, if_false]
      rw [hzr]
      simp only [Result.andThen_ok, hzv, Sem.run_pure, newRow, newObj, Sem.run, Sem.run_bind]
      refine congrArg (Result.ok _) ?_
      show w.drew.alloc _ = w.drew.alloc _
      refine congrArg (fun cs => w.drew.alloc (.cells cs el)) ?_
      apply Array.ext'
      simp
    · have hgt : ¬ ((len + m : Nat) : Int) > IntKind.i64.max := by
        have : IntKind.i64.max = 9223372036854775807 := by decide
        omega
      have hlo : ∀ w', (Builtin.lenOf (ren ρ (.slice (some ⟨b, off, none⟩) m cp))).run P w' = .ok m w' := by intro w'; rfl
      have hfc : (Builtin.firstCells z.size m (ren ρ (.slice (some ⟨b, off, none⟩) m cp))).run P w.drew = .ok new.toArray w.drew := hrun w.drew (below_drew w)
      generalize ren ρ (.slice (some ⟨b, off, none⟩) m cp) = xv at hlo hfc
      simp only [Builtin.append_, List.getElem?_toArray, List.getElem?_cons_zero, List.getElem?_cons_succ, Sem.run_bind, run_underlying hy.und, hd, Result.andThen_ok, sizeOf_run hz, run_underlying hk, Sem.run_pure]
      simp only [Bool.false_eq_true, if_false, hlo, Result.andThen_ok, hn1, Bool.not_false, if_true, Sem.run_bind, hi1, hi3, hgt, false_and]
      rw [if_neg hn3]
      simp only [Sem.run_bind, show choose (.appendCap (len + m) cap el) = choose q from rfl, hch, Result.andThen_ok, hi4, askRoom_run, hold1, hfc]
      simp only [Result.andThen_ok, hzv, Sem.run_pure, newRow, newObj, Sem.run, Sem.run_bind]
      refine congrArg (Result.ok _) ?_
      show w.drew.alloc _ = w.drew.alloc _
      refine congrArg (fun cs => w.drew.alloc (.cells cs el)) ?_
      apply Array.ext'
      simp
  · have hcut : len + m ≤ q.cut (w.tape w.drawn q) := by
      show len + m ≤ (len + m) + _
      omega
    simp only [List.length_append, hol, hl, zeroCells_length, hzs]
    generalize q.cut (w.tape w.drawn q) = cc at hcut
    rw [← Nat.add_mul, ← Nat.add_mul]
    congr 1
    omega

/-- an append that has room -/
theorem append_room (hT : TabOk P tab) (hR : Rel w0 A ρ N t g a w) {y z : Ty} {el st xt ty : Nat} (hy : TyOk P st y) (hd : y.und = .slice el) (hz : TyOk P el z) {x : Value} (hx : vok x) {c : Bool} {m : Nat} {new : List Value}
    (h : appd tab g z xt x = some (c, m, new)) (hc : c = true) {b : Nat} {len cap : Nat} (hneed : len + m ≤ cap) {w' : World}
    (hst : (storeCells ⟨(ρ b).1, len * z.size, none⟩ new 0).run P w = .ok () w') :
    (Builtin.append_ #[st, xt] ty #[.slice (some ⟨(ρ b).1, 0, none⟩) len cap, ren ρ x]).run P w = .ok (.slice (some ⟨(ρ b).1, 0, none⟩) (len + m) cap) w' := by
  obtain ⟨hl, hcok, hcase⟩ := appd_run (P := P) hT hR hz hx h hc
  obtain ⟨zv, hzv, hzz⟩ := zero_run hz w
  obtain ⟨i1, hi1, hi2, hi3⟩ := info_run hz w
  rcases hcase with ⟨k, hk, rfl, hm, hbm, hzl, hz0, rfl⟩ | ⟨e, b', off, cp, hk, rfl, hrun⟩
  · have hzs : zv.cells.size = z.size := by rw [← hzl, ← hzz]; simp
    have hw1 : IntKind.i64.wrap (m : Int) = (m : Int) := ofNat_wrap hm
    have hbb : ¬ ((m : Int) * (z.bytes : Int) > 2 ^ 48) := by
      have h1 : ((z.bytes * m : Nat) : Int) ≤ 281474976710656 := by omega
      rw [Int.natCast_mul, Int.mul_comm] at h1
      omega
    have hzr : (if m * z.size = 0 then (pure #[] : Sem (Array Value)) else do pure (Builtin.zeroCells (← zeroValue el).cells m)).run P w = .ok (zeroRow z.zero m).toArray w := by
      split
      · rename_i h0
        have : (zeroRow z.zero m) = [] := by
          apply List.eq_nil_of_length_eq_zero; rw [zeroRow_length, hzl]; exact h0
        rw [this]; simp
      · rename_i h0
        have hrow := zeroRow_range zv.cells m z.size hzs h0
        rw [hzz] at hrow
        have e : m * zv.cells.size = m * z.size := by rw [hzs]
        simp only [Sem.run_bind, hzv, Result.andThen_ok, Sem.run_pure, Builtin.zeroCells]
        rw [e, hrow]
    have hnz : (ren ρ (.int .i64 (m : Int))) = .int .i64 (m : Int) := rfl
    simp only [Builtin.append_, hnz, List.getElem?_toArray, List.getElem?_cons_zero, List.getElem?_cons_succ, Sem.run_bind, run_underlying hy.und, hd, Result.andThen_ok, sizeOf_run hz, run_underlying hk, Sem.run_pure, if_true, asInt, asIntOf, hw1]
    rw [if_neg (by omega)]
    simp only [Sem.run_bind, hi1, Result.andThen_ok, hi3]
    rw [if_neg hbb]
    simp only [Sem.run_bind, Sem.run_pure, Result.andThen_ok, Int.toNat_natCast, hneed, if_true, Bool.not_true, Bool.false_eq_true, if_false]
    rw [hzr]
    simp only [Result.andThen_ok, addr_add, Nat.zero_add, hst]
  · have hlo : ∀ w', (Builtin.lenOf (ren ρ (.slice (some ⟨b', off, none⟩) m cp))).run P w' = .ok m w' := by intro w'; rfl
    have hfc : (Builtin.firstCells z.size m (ren ρ (.slice (some ⟨b', off, none⟩) m cp))).run P w = .ok new.toArray w := hrun w (Below.refl _ _)
    generalize ren ρ (.slice (some ⟨b', off, none⟩) m cp) = xv at hlo hfc
    simp only [Builtin.append_, List.getElem?_toArray, List.getElem?_cons_zero, List.getElem?_cons_succ, Sem.run_bind, run_underlying hy.und, hd, Result.andThen_ok, sizeOf_run hz, run_underlying hk, Sem.run_pure]
    simp only [Bool.false_eq_true, if_false, hlo, Result.andThen_ok, hneed, Bool.not_false, if_true, Sem.run_bind, hfc, addr_add, Nat.zero_add, hst, Sem.run_pure]

theorem case_append (hT : TabOk P tab) (hR : Rel w0 A ρ N t g a w) (hid : ¬ A id) {c : Call} {st xt : Nat} {s x : Value} (hop : o.op = .call c) (hcal : c.callee = .builtin .append) (hty : c.argTypes.toList = [st, xt])
    (hvs : lookAll t c.args.toList = some [s, x]) (ho : appF tab g id st xt s x = some out) (hc : out.c = true) : Ends P o a w w0 A N t g id out := by
  obtain ⟨v1, v2, v3⟩ := hR.all hvs
  have hargs : c.args.map a.eval = #[ren ρ s, ren ρ x] := by
    apply Array.ext'; simp [v1]
  have hat : c.argTypes = #[st, xt] := by apply Array.ext'; simpa using hty
  have hrun : ∀ v w', (Builtin.append_ #[st, xt] o.type #[ren ρ s, ren ρ x]).run P w = .ok v w' → (execOp a.eval o).run P w = .ok (.value v) w' := by
    intro v w' h
    simp only [execOp, hop, resolve, hcal, hargs, Sem.run_bind, Sem.run_pure, Result.andThen_ok, invoke, builtin, hat, h]
  unfold appF at ho
  split at ho
  · cases ho
  rename_i y hy
  have hy := hT _ _ hy
  split at ho
  case h_2 => cases ho
  rename_i el hd
  split at ho
  · cases ho
  rename_i z hz
  have hz := hT _ _ hz
  split at ho
  · cases ho
  rename_i cc m new happ
  have hxv : vok x := v2 x (by simp)
  split at ho
  · -- nil
    cases ho
    simp only [Bool.and_eq_true, Nat.ble_eq, Bool.not_eq_true', Nat.beq_eq, Nat.blt_eq] at hc
    obtain ⟨⟨⟨⟨⟨c1, c2⟩, c3⟩, c4⟩, c5⟩, c6⟩ := hc
    obtain ⟨cp, rest, r1, r2⟩ := append_grows (P := P) (ty := o.type) hT hR hy hd hz hxv happ c1 (base := none) (len := 0) (cap := 0) (old := []) (fun w' _ => by simp [Builtin.firstCells]) (by simp) (by omega) (by omega) c4 c5
    obtain ⟨hl, hcok, _⟩ := appd_run (P := P) hT hR hz hxv happ c1
    simp only [List.nil_append, Nat.zero_add] at r1 r2
    have hR1 : Rel w0 A ρ N t g a w.drew := hR.later (below_drew w)
    have hn := hR1.new hid (ty := el) hcok rest cp z.size (fun _ => r2)
    intro K Q hK
    unfold Oper.wp
    rw [hrun _ _ r1]
    have hput := hn.put (d := o.dst) (v := .slice (some ⟨id, 0, none⟩) m capX) trivial (by intro k hk; simp only [idOf, List.mem_singleton] at hk; exact Or.inr hk)
    have hren : ren (fun k => if k = id then (w.drew.heap.size, cp, 0) else ρ k) (.slice (some ⟨id, 0, none⟩) m capX) = .slice (some ⟨w.heap.size, 0, none⟩) m cp := by
      simp only [ren, if_true]; rfl
    rw [hren] at hput
    exact hK _ _ _ hput
  · -- a row of the call's own
    rename_i b len cap
    split at ho
    · cases ho
    rename_i k hk
    split at ho
    · cases ho
    rename_i hown
    cases ho
    simp only [Bool.and_eq_true, Nat.ble_eq, Bool.not_eq_true', Nat.beq_eq] at hc
    obtain ⟨⟨⟨⟨⟨⟨c1, c2⟩, c3⟩, c4⟩, c5⟩, c6⟩, c7⟩ := hc
    obtain ⟨hl, hcok, _⟩ := appd_run (P := P) hT hR hz hxv happ c1
    obtain ⟨_, hblk⟩ := hR.hp b k hk
    obtain ⟨rest, q1, hB0, hsh, q3, q4⟩ := hblk.mine hown
    have hold : ∀ w', Below w.heap.size w w' → ∀ cap', (Builtin.firstCells z.size len (.slice (some ⟨(ρ b).1, 0, none⟩) len cap')).run P w' = .ok (k.cs.take (len * z.size)).toArray w' := by
      intro w' hw' cap'
      have hB := ((hR.later hw').hp b k hk).2
      have hl := run_loadCells_list (P := P) w' ⟨(ρ b).1, 0, none⟩ (k.cs.take (len * z.size)) (fun j v hv => by
        rw [addr_add, Nat.zero_add]
        rw [List.getElem?_take] at hv
        split at hv
        · have hq := (hB.cell hv).1
          rw [hsh, Nat.add_zero] at hq
          exact hq
        · cases hv)
      have hlen : (k.cs.take (len * z.size)).length = len * z.size := by simp; omega
      rw [hlen] at hl
      exact hl
    have hol : (k.cs.take (len * z.size)).length = len * z.size := by simp; omega
    have hcs : ∀ q ∈ k.cs.take (len * z.size) ++ new, cok q := by
      intro q hq
      rcases List.mem_append.1 hq with e | e
      · exact q3 q (List.mem_of_mem_take e)
      · exact hcok q e
    -- where it grows
    have grow : ∀ cap', cap' < len + m → ren ρ (.slice (some ⟨b, 0, none⟩) len cap) = .slice (some ⟨(ρ b).1, 0, none⟩) len cap' → Ends P o a w w0 A N t g id ⟨true, .slice (some ⟨id, 0, none⟩) (len + m) capX, [(b, none), (id, some ⟨k.cs.take (len * z.size) ++ new, el, true, z.size⟩)]⟩ := by
      intro cap' hlt hren
      obtain ⟨cp, rest, r1, r2⟩ := append_grows (P := P) (ty := o.type) hT hR hy hd hz hxv happ c1 (base := some ⟨(ρ b).1, 0, none⟩) (len := len) (cap := cap') (old := k.cs.take (len * z.size)) (fun w' hw' => hold w' hw' cap') hol hlt c2 c3 c4
      rw [← hren] at r1
      have hR1 : Rel w0 A ρ N t g a w.drew := hR.later (below_drew w)
      have hn := hR1.new hid (ty := el) hcs rest cp z.size (fun _ => r2)
      intro K Q hK
      unfold Oper.wp
      rw [hrun _ _ r1]
      have hput := hn.put (d := o.dst) (v := .slice (some ⟨id, 0, none⟩) (len + m) capX) trivial (by intro k hk; simp only [idOf, List.mem_singleton] at hk; exact Or.inr hk)
      have hren2 : ren (fun k => if k = id then (w.drew.heap.size, cp, 0) else ρ k) (.slice (some ⟨id, 0, none⟩) (len + m) capX) = .slice (some ⟨w.heap.size, 0, none⟩) (len + m) cp := by
        simp only [ren, if_true]; rfl
      rw [hren2] at hput
      refine hK _ _ _ (hput.sub ?_)
      intro q c hqc
      simp only [eApp] at hqc
      by_cases e : q = id
      · rw [if_pos e] at hqc ⊢; exact hqc
      · rw [if_neg e] at hqc ⊢
        by_cases e2 : q = b
        · rw [if_pos e2] at hqc; cases hqc
        · rw [if_neg e2] at hqc; exact hqc
    have fin : Ends P o a w w0 A N t g id ⟨true, .slice (some ⟨id, 0, none⟩) (len + m) capX, [(b, none), (id, some ⟨k.cs.take (len * z.size) ++ new, el, true, z.size⟩)]⟩ := by
      cases hcap : Nat.beq cap capX with
      | false =>
        rw [hcap] at c7
        simp only [Nat.blt_eq] at c7
        refine grow cap c7 ?_
        simp only [ren, hsh]
        rw [if_neg]
        intro e; rw [e, Nat.beq_refl] at hcap; cases hcap
      | true =>
        have hcapx : cap = capX := Nat.eq_of_beq_eq_true hcap
        rw [hcap] at c7
        simp only [Bool.and_eq_true, Nat.beq_eq] at c7
        obtain ⟨c8, c9⟩ := c7
        have hren : ren ρ (.slice (some ⟨b, 0, none⟩) len cap) = .slice (some ⟨(ρ b).1, 0, none⟩) len (ρ b).2.1 := by
          simp only [ren, hcapx, if_true, hsh]
        by_cases hroom : len + m ≤ (ρ b).2.1
        · have hz0 : z.size ≠ 0 := by intro e; rw [e] at c5; cases c5
          have htot := q4 (by rw [c8]; exact hz0)
          rw [c8] at htot
          have hfit : len * z.size + new.length ≤ (k.cs ++ rest).length := by
            rw [htot, hl, ← Nat.add_mul]
            exact Nat.mul_le_mul_right _ hroom
          have hst := run_storeCells_at P (ρ b).1 (len * z.size) k.ty new 0 (k.cs ++ rest).toArray w q1 (by simpa using hfit) (fun v hv => (hcok v hv).1)
          have hrr := append_room (P := P) (ty := o.type) hT hR hy hd hz hxv happ c1 (b := b) (len := len) (cap := (ρ b).2.1) hroom hst
          rw [← hren] at hrr
          intro K Q hK
          unfold Oper.wp
          rw [hrun _ _ hrr]
          have htake : (k.cs ++ rest).take (len * z.size) = k.cs.take (len * z.size) := List.take_append_of_le_length c6
          have hmv := hR.move hid hk hown (cs' := k.cs.take (len * z.size) ++ new) (rest' := (k.cs ++ rest).drop (len * z.size + new.length)) (el := el) (ap := z.size)
            (w' := w.setRow (ρ b).1 ((k.cs ++ rest).toArray.toList.take (len * z.size + 0) ++ new ++ (k.cs ++ rest).toArray.toList.drop (len * z.size + 0 + new.length)).toArray)
            (by simp only [Nat.add_zero]; rw [htake]) hcs c9 (fun _ => by
              rw [← htot]
              simp only [List.length_append, List.length_drop, hol]
              simp only [List.length_append] at hfit
              omega)
          have hput := hmv.put (d := o.dst) (v := .slice (some ⟨id, 0, none⟩) (len + m) capX) trivial (by intro k hk; simp only [idOf, List.mem_singleton] at hk; exact Or.inr hk)
          have hren2 : ren (fun q => if q = id then ρ b else ρ q) (.slice (some ⟨id, 0, none⟩) (len + m) capX) = .slice (some ⟨(ρ b).1, 0, none⟩) (len + m) (ρ b).2.1 := by
            simp only [ren, if_true, hsh]
          rw [hren2] at hput
          refine hK _ _ _ (hput.sub ?_)
          intro q c hqc
          simp only [eApp] at hqc
          exact hqc
        · exact grow (ρ b).2.1 (by omega) hren
    intro K Q hK
    exact fin K Q hK
  · cases ho

theorem callFunc_run {f : Nat} (h : Enters P f) (args : Array Value) : (callFunc f args).run P w = .ok (.enter f args) w := by
  obtain ⟨fn, h1, h2, h3⟩ := h
  have h2 : ¬ fn.body = none := by intro e; rw [e] at h2; cases h2
  have h3 : ¬ fn.name = "runtime.NumGoroutine" := by simpa using h3
  unfold callFunc
  simp [h1, h2, h3]

theorem idsIn_spec {g : Blks} : ∀ (l : List Nat), idsIn g l = true → ∀ i ∈ l, ∃ b, g i = some b := by
  intro l
  induction l with
  | nil => intro _ i hi; cases hi
  | cons x r ih =>
    intro h i hi
    simp only [idsIn] at h
    split at h
    · rename_i b hb
      rcases List.mem_cons.1 hi with e | e
      · rw [e]; exact ⟨b, hb⟩
      · exact ih h i e
    · cases h

/-- how a call ends -/
theorem case_call (hT : TabOk P tab) (hO : OrcOk P orc) (hR : Rel w0 A ρ N t g a w) (hid : ¬ A id) {c : Call} (hop : o.op = .call c) (ho : opF tab orc sy id t g (.call c) = some out) (hc : out.c = true) : Ends P o a w w0 A N t g id out := by
  simp only [opF] at ho
  split at ho
  · rename_i f hf
    split at ho
    · rename_i k first captured vs hk hvs
      split at ho
      · rename_i h1 h2
        have e1 : first = #[] := by apply Array.ext'; simpa using h1
        have e2 : captured = #[] := by apply Array.ext'; simpa using h2
        subst e1; subst e2
        obtain ⟨f1, _, _⟩ := hR.eval hk
        obtain ⟨v1, v2, v3⟩ := hR.all hvs
        split at ho
        case h_2 => cases ho
        rename_i hin
        have hin := idsIn_spec _ hin
        unfold ofBV at ho
        split at ho
        · cases ho
        · rename_i cc v hov
          cases ho
          obtain ⟨c12, c3, c4⟩ := hO.ctr k vs g cc v hov hc
          have hargs : c.args.map a.eval = (vs.map (ren ρ)).toArray := by
            apply Array.ext'; simp [v1]
          rcases c12 with ⟨c1, c2⟩ | ⟨x1, x2⟩
          · have hcalls := c2 ρ w (fun i hi => by
              obtain ⟨b, hb⟩ := hin i hi
              obtain ⟨_, pre, rest, fr, ty, q1, q1', _, q3, _⟩ := hR.hp i b hb
              exact ⟨b, hb, pre, rest, fr, ty, q1, q1', (fun h => by cases h), q3, fun h => absurd rfl h⟩) (fun i hi j hj he => by
              obtain ⟨b, hb⟩ := hin i hi
              obtain ⟨b', hb'⟩ := hin j hj
              exact hR.inj i j b b' hb hb' he) v2
            intro K Q hK
            unfold Oper.wp
            have hrun : (execOp a.eval o).run P w = .ok (.enter k (vs.map (ren ρ)).toArray) w := by
              simp only [execOp, hop, resolve, hf, f1, ren, Deferred.ofValue, hargs, Sem.run_bind, Sem.run_pure, Result.andThen_ok, invoke]
              rw [callFunc_run c1]
              simp
            rw [hrun]
            refine Calls.mono hcalls ?_
            rintro e w' ⟨rfl, hb⟩
            have h2 := (hR.later hb).put (d := o.dst) (v := v) c4 (by rw [idOf_plain c3]; simp)
            rw [ren_plain c3] at h2
            exact hK ρ _ w' (h2.mono fun _ h => Or.inl h)
          · refine ends_plain hR c4 c3 ?_
            have hren : (vs.map (ren ρ)) = vs := by
              have : vs.map (ren ρ) = vs.map (fun x => x) := List.map_congr_left fun x hx => ren_plain (x1 x hx)
              simpa using this
            simp only [execOp, hop, resolve, hf, f1, ren, Deferred.ofValue, hargs, hren, Sem.run_bind, Sem.run_pure, Result.andThen_ok, invoke]
            simp only [Array.empty_append, Array.append_empty, x2 w]
      · cases ho
    · cases ho
  · rename_i hb
    split at ho
    · rename_i ty v hty hvs
      split at ho
      · cases ho
      · rename_i r hr
        cases ho
        obtain ⟨v1, v2, v3⟩ := hR.all hvs
        have hargs : c.args.map a.eval = #[ren ρ v] := by
          apply Array.ext'; simp [v1]
        have hat : c.argTypes = #[ty] := by apply Array.ext'; simpa using hty
        unfold lenF at hr
        split at hr
        · cases hr
        · rename_i y hy
          have hy := hT _ _ hy
          have hres : vok r ∧ adr r = false ∧ (Builtin.len_ #[ty] o.type #[ren ρ v]).run P w = .ok r w := by
            split at hr
            · rename_i s hd
              cases hr
              exact ⟨trivial, rfl, by simp [Builtin.len_, run_underlying hy.und, hd, ren, goInt]⟩
            · rename_i n el hd
              cases hr
              exact ⟨trivial, rfl, by simp [Builtin.len_, run_underlying hy.und, hd, goInt]⟩
            · rename_i el ad n cp hd
              cases hr
              refine ⟨trivial, rfl, ?_⟩
              cases ad with
              | none => simp [Builtin.len_, run_underlying hy.und, hd, ren, goInt]
              | some ad => obtain ⟨b, of, sp⟩ := ad; simp [Builtin.len_, run_underlying hy.und, hd, ren, goInt]
            · cases hr
          refine ends_plain hR hres.1 hres.2.1 ?_
          simp only [execOp, hop, resolve, hb, hargs, Sem.run_bind, Sem.run_pure, Result.andThen_ok, invoke, builtin, hat, hres.2.2]
    · cases ho
  · rename_i hb
    split at ho
    · rename_i ty xt v x hty hvs
      exact case_append hT hR hid hop hb hty hvs ho hc
    · cases ho
  · cases ho

/-- each operation that the evaluator takes ends as it says -/
theorem op_ends (hT : TabOk P tab) (hO : OrcOk P orc) (hR : Rel w0 A ρ N t g a w) (hid : ¬ A id) (ho : opF tab orc sy id t g o.op = some out) (hc : out.c = true) : Ends P o a w w0 A N t g id out := by
  cases hop : o.op <;> rw [hop] at ho
  case move x => exact case_move hR (Or.inl hop) ho
  case assign x => exact case_move hR (Or.inr hop) ho
  case pick c x y => exact case_pick hR hop ho hc
  case alloc e => exact case_alloc hT hR hid hop ho
  case box e x => exact case_box hR hid hop ho
  case build e p => exact case_build hT hR hop ho
  case buildSlice e n p => exact case_buildSlice hT hR hid hop ho
  case load e x => exact case_load hT hR hop ho hc
  case store e x y => exact case_store hT hR hop ho hc
  case binOp op ty x y ty' => exact case_binOp hT hR hop ho hc
  case unOp op ty x => exact case_unOp hR hop ho
  case convert s d x => exact case_convert hT hR hop ho hc
  case makeFunc f x y => exact case_makeFunc hR hop ho
  case makeSlice e l c => exact case_makeSlice hT hR hid hop ho
  case slice ty x lo hi mx => exact case_slice hT hR hop ho hc
  case fieldAddr ty x f => exact case_fieldAddr hT hR hop ho hc
  case indexAddr ty x i => exact case_indexAddr hT hR hop ho hc
  case index ty x i => exact case_index hT hR hop ho hc
  case extract x i => exact case_extract hR hop ho
  case call c => exact case_call hT hO hR hid hop ho hc
  all_goals cases ho
end
end Go.Proofs.YthgefjgbkhkmgaaDoor.Ev
