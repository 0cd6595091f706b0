/- The engine's operations are sound, one by one: those that make memory or write into it. No condition. -/
import Derived.Test.YtkaigfcjejabfaaGreatDoorXL
set_option linter.unusedSimpArgs false
set_option linter.unusedVariables false
namespace Go.Proofs.YtkaigfcjejabfaaGreatDoor
open Go
namespace X

section
variable {P : Program} {G : Nat → Option AV} {w : World} {σ : Nat → Prop} {μ : Mu}
variable {X : Prog} {C : Oracle} {B : Nat} {H : Heap} {e : Env} {a : Act} {o : Oper} {r : AV × Heap}

theorem alloc_size (o : Obj) : (w.alloc o).heap.size = w.heap.size + 1 := by simp
theorem alloc_new (o : Obj) : (w.alloc o).heap[w.heap.size]? = some o := by show (w.heap.push o)[w.heap.size]? = _; simp
theorem alloc_old (o : Obj) {b : Nat} (h : b < w.heap.size) : (w.alloc o).heap[b]? = w.heap[b]? := by
  show (w.heap.push o)[b]? = w.heap[b]?
  rw [Array.getElem?_push, if_neg (Nat.ne_of_lt h)]

/-- A row of the model's is made, and is a block of the engine's. -/
theorem HR.row (h : HR G B σ μ H w) {w' : World} {sz : Nat} {es : List AV} {c : Array Value} {ty : TypeId} {vs : List Value} (hsize : w'.heap.size = w.heap.size + 1)
    (hold : ∀ b, b < w.heap.size → w'.heap[b]? = w.heap[b]?) (hnew : w'.heap[w.heap.size]? = some (.cells c ty (0, 0))) (hes : ∀ e ∈ es, e.cells.length = sz ∧ e.cells.all AV.storable = true)
    (hvs : RVs w σ μ (es.flatMap AV.cells) vs) (hc : ∀ i, i < vs.length → c[i]? = vs[i]?) (hl : es.length * sz ≤ c.size) (ho : Same w w' := by exact ⟨rfl, rfl, rfl⟩) :
    HR G B σ (μ.put H.length ⟨w.heap.size, 0, sz, es.length, c.size⟩) (H ++ [.arr sz es]) w' ∧ Step B σ μ w σ (μ.put H.length ⟨w.heap.size, 0, sz, es.length, c.size⟩) w' :=
  h.alloc rfl (by omega) hold (fun hs hm => ⟨rfl, rfl, hes, by simpa using hl, c, ty, hnew, rfl, vs, hvs.mono hs hm, fun i hi => by rw [Nat.zero_add]; exact hc i hi⟩) ho

theorem put_new (m : BM) : (μ.put H.length m) H.length = some m := by simp [Mu.put]

theorem ok_box {t : TypeId} {inf : TypeInfo} (hinf : P.info? t = some inf) {op : Op} {y : Arg} {x : Value} (hx : xop X C (.box inf.size y) e H = some r) (hr : HR G B σ μ H w) (hv : RV w σ μ (y.ev e) x)
    (hop : (execOp a.eval { o with op := op }).run P w = .ok (.value (.pointer (some ⟨w.heap.size, 0, none⟩))) (w.alloc (.cells x.cells t))) : OpOK P op o a w (Post G B σ μ w r) := by
  simp only [xop] at hx
  split at hx
  · rename_i hb
    cases hx
    have hcs := hv.cellsOf hb.2
    have hlen := hcs.length
    obtain ⟨g1, g2⟩ := hr.row (w' := w.alloc (.cells x.cells t)) (sz := inf.size) (es := [y.ev e]) (c := x.cells) (ty := t) (vs := x.cells.toList) (by simp) (fun b hb => alloc_old _ hb) (alloc_new _)
      (by simpa using hb) (by simpa using hcs) (fun i hi => by simp) (by simp [← hb.1, hlen])
    exact .value hop ⟨_, _, g1, by have := RV.ptr (w := w.alloc (.cells x.cells t)) (σ := σ) _ H.length 0 0 _ (put_new (μ := μ) (H := H) ⟨w.heap.size, 0, inf.size, 1, x.cells.size⟩); simpa using this, g2⟩
  · cases hx

theorem ok_alloc {t : TypeId} {own : Bool} {xo : XOp} (hc : compOp P G own (.alloc t) = some xo) (hx : xop X C xo e H = some r) (hr : HR G B σ μ H w) (he : ER σ μ e w a) :
    OpOK P (.alloc t) o a w (Post G B σ μ w r) := by
  simp only [compOp, Option.bind_eq_some_iff, Option.map_eq_some_iff] at hc
  obtain ⟨inf, hinf, z, hz, v, hv, rfl⟩ := hc
  refine ok_box hinf hx hr (x := z) (RV.ofValue hv) ?_
  simp [execOp, Instr.alloc, zeroValue, typeInfo, hinf, hz, newVar, newRow]

theorem ok_boxOp {t : TypeId} {x : Operand} {own : Bool} {xo : XOp} (hc : compOp P G own (.box t x) = some xo) (hx : xop X C xo e H = some r) (hr : HR G B σ μ H w) (he : ER σ μ e w a) :
    OpOK P (.box t x) o a w (Post G B σ μ w r) := by
  simp only [compOp, Option.bind_eq_some_iff, Option.map_eq_some_iff] at hc
  obtain ⟨inf, hinf, y, hy, rfl⟩ := hc
  refine ok_box hinf hx hr (x := a.eval x) (RV.arg hr he hy) ?_
  simp [execOp, Instr.box, newVar, newRow]

/-! ### stores -/

theorem splice_get {α : Type} {A vs xs : List α} {ro k : Nat} (h : ∀ i, i < vs.length → A[ro + i]? = vs[i]?) (hk : k + xs.length ≤ vs.length) (hl : ro + vs.length ≤ A.length) (i : Nat) (hi : i < vs.length) :
    (A.take (ro + k) ++ xs ++ A.drop (ro + k + xs.length))[ro + i]? = (vs.take k ++ xs ++ vs.drop (k + xs.length))[i]? := by
  have h1 : (A.take (ro + k)).length = ro + k := by rw [List.length_take]; omega
  have h2 : (vs.take k).length = k := by rw [List.length_take]; omega
  simp only [List.append_assoc, List.getElem?_append, h1, h2]
  by_cases a1 : i < k
  · rw [if_pos (by omega), if_pos a1, List.getElem?_take_of_lt (by omega), List.getElem?_take_of_lt a1]; exact h i hi
  · rw [if_neg (by omega), if_neg a1]
    by_cases a2 : i < k + xs.length
    · rw [if_pos (by omega), if_pos (by omega)]; congr 1; omega
    · rw [if_neg (by omega), if_neg (by omega), List.getElem?_drop, List.getElem?_drop, show ro + k + xs.length + (ro + i - (ro + k) - xs.length) = ro + i by omega, show k + xs.length + (i - k - xs.length) = i by omega]; exact h i hi

theorem splice_in {α : Type} {F us : List α} {k off sz : Nat} (h1 : off + us.length ≤ sz) (h2 : k + sz ≤ F.length) :
    F.take k ++ (((F.drop k).take sz).take off ++ us ++ ((F.drop k).take sz).drop (off + us.length)) ++ F.drop (k + sz) = F.take (k + off) ++ us ++ F.drop (k + off + us.length) := by
  apply List.ext_getElem?
  intro i
  simp only [List.append_assoc, List.getElem?_append, List.length_take, List.length_drop, List.getElem?_take, List.getElem?_drop]
  repeat' split
  all_goals first | omega | (congr 1; omega) | (rw [List.getElem?_eq_none (by omega)]) | rfl | skip
  all_goals (try (rw [List.getElem?_eq_none (by omega)]))

theorem flat_set {sz : Nat} {es : List AV} {i : Nat} {x y : AV} (h : ∀ e ∈ es, e.cells.length = sz) (hi : es[i]? = some x) (hy : y.cells.length = sz) :
    (es.set i y).flatMap AV.cells = (es.flatMap AV.cells).take (i * sz) ++ y.cells ++ (es.flatMap AV.cells).drop (i * sz + sz) := by
  have hlt := (List.getElem?_eq_some_iff.1 hi).1
  rw [List.set_eq_take_append_cons_drop, if_pos hlt, List.flatMap_append, List.flatMap_cons, flat_take i h, flat_drop (i + 1) h, Nat.succ_mul, List.append_assoc]

theorem setCells_cells {x : AV} {off : Nat} {cs : List AV} (hl : off + cs.length ≤ x.cells.length) (h1 : ∀ c ∈ cs, c.storable = true) (hx : x.cells.all AV.storable = true) :
    (x.setCells off cs).cells = x.cells.take off ++ cs ++ x.cells.drop (off + cs.length) ∧ (x.setCells off cs).cells.all AV.storable = true := by
  have key : (x.setCells off cs).cells = x.cells.take off ++ cs ++ x.cells.drop (off + cs.length) := by
    cases x with
    | agg ds => simp [AV.setCells, AV.cells]
    | _ =>
      simp [AV.cells] at hl ⊢
      match cs, hl, h1 with
      | [], hl, _ =>
        have : off = 0 ∨ off = 1 := by simp at hl; omega
        rcases this with rfl | rfl <;> simp [AV.setCells]
      | [c], hl, h1 =>
        have : off = 0 := by simp at hl; omega
        subst this
        have hc := h1 c (by simp)
        cases c <;> simp_all [AV.setCells, AV.storable]
      | _ :: _ :: _, hl, _ => simp at hl; omega
  refine ⟨key, ?_⟩
  rw [key, List.all_append, List.all_append]
  simp only [Bool.and_eq_true]
  refine ⟨⟨List.all_eq_true.2 fun c hc => List.all_eq_true.1 hx c (List.mem_of_mem_take hc), List.all_eq_true.2 h1⟩, List.all_eq_true.2 fun c hc => List.all_eq_true.1 hx c (List.mem_of_mem_drop hc)⟩

/-- Cells are put into a live block. -/
theorem BR.put {m : BM} {sz : Nat} {es : List AV} (h : BR w σ μ m (.arr sz es)) {w' : World} {σ' : Nat → Prop} {μ' : Mu} (hs : ∀ b, σ b → σ' b ∧ w'.heap[b]? = w.heap[b]?) (hm : ∀ b n, μ b = some n → μ' b = some n)
    {c : Array Value} {ty : TypeId} (hc : w.heap[m.rb]? = some (.cells c ty (0, 0))) {k : Nat} {us : List AV} {xs : List Value} (hus : RVs w σ μ us xs) (hk : k + us.length ≤ es.length * sz) {es' : List AV}
    (hes' : ∀ e ∈ es', e.cells.length = sz ∧ e.cells.all AV.storable = true) (hlen : es'.length = es.length)
    (hfl : es'.flatMap AV.cells = (es.flatMap AV.cells).take k ++ us ++ (es.flatMap AV.cells).drop (k + us.length))
    (hw' : w'.heap[m.rb]? = some (.cells (c.toList.take (m.ro + k) ++ xs ++ c.toList.drop (m.ro + k + xs.length)).toArray ty (0, 0))) : BR w' σ' μ' m (.arr sz es') := by
  obtain ⟨h1, h2, h3, h4, c', ty', h5, h6, vs, h7, h8⟩ := h
  rw [hc] at h5
  cases h5
  have hl := hus.length
  have hvl := h7.length
  rw [flat_length fun e he => (h3 e he).1] at hvl
  have hcs : m.ro + es.length * sz ≤ c.size := by rw [h6, ← h2, ← h1]; exact h4
  refine ⟨h1, by rw [hlen]; exact h2, hes', h4, _, ty, hw', ?_, vs.take k ++ xs ++ vs.drop (k + xs.length), ?_, ?_⟩
  · simp; omega
  · rw [hfl, ← hl]
    exact (((h7.take k).append hus).append (h7.drop _)).mono hs hm
  · intro i hi
    have hA : ∀ j, j < vs.length → c.toList[m.ro + j]? = vs[j]? := fun j hj => by rw [← h8 j hj]; simp
    have hkl : k + xs.length ≤ vs.length := by omega
    have hln : (vs.take k ++ xs ++ vs.drop (k + xs.length)).length = vs.length := by simp; omega
    rw [List.getElem?_toArray]
    exact splice_get hA hkl (by simp; omega) i (by omega)

theorem ok_store {t : TypeId} {p x : Operand} {own : Bool} {xo : XOp} (hc : compOp P G own (.store t p x) = some xo) (hx : xop X C xo e H = some r) (hr : HR G B σ μ H w) (he : ER σ μ e w a) :
    OpOK P (.store t p x) o a w (Post G B σ μ w r) := by
  simp only [compOp, Option.bind_eq_some_iff, Option.map_eq_some_iff] at hc
  obtain ⟨inf, hinf, y, hy, z, hz, rfl⟩ := hc
  have h1 := RV.arg hr he hy
  have h2 := RV.arg hr he hz
  simp only [xop, Option.map_eq_some_iff] at hx
  obtain ⟨H', hH, rfl⟩ := hx
  unfold storeAV at hH
  split at hH
  · rename_i b i off hp
    split at hH
    · rename_i sz es hb
      simp only [Option.bind_eq_some_iff] at hH
      obtain ⟨x0, hx0, hH⟩ := hH
      split at hH
      · rename_i hcond
        cases hH
        obtain ⟨c1, c2, c3, c4⟩ := hcond
        rw [hp] at h1
        obtain ⟨m, h1', hm⟩ := h1.ptr_inv
        have hbr := hr.blk b _ m hb hm
        obtain ⟨b1, b2, b3, b4, c, ty, b5, b6, vs, b7, b8⟩ := hbr
        have hcs := h2.cellsOf c2
        have hlen := hcs.length
        have hst : ∀ c ∈ (z.ev e).cells, c.storable = true := List.all_eq_true.1 c2
        have h0 := b3 x0 (List.mem_of_getElem? hx0)
        have hall : ∀ e ∈ es, e.cells.length = sz := fun e he => (b3 e he).1
        have hil := (List.getElem?_eq_some_iff.1 hx0).1
        have hie : i * sz + sz ≤ es.length * sz := by rw [← Nat.succ_mul]; exact Nat.mul_le_mul_right _ hil
        obtain ⟨s1, s2⟩ := setCells_cells (x := x0) (off := off) (cs := (z.ev e).cells) (by omega) hst h0.2
        have hsl : (x0.setCells off (z.ev e).cells).cells.length = sz := by rw [s1]; simp; omega
        have hcs' : m.ro + es.length * sz ≤ c.size := by rw [b6, ← b2, ← b1]; exact b4
        have hone : ∀ v ∈ (a.eval x).cells.toList, v.oneCell' = true := by
          intro v hv
          obtain ⟨j, hj, rfl⟩ := List.mem_iff_getElem.1 hv
          have hj' : j < (z.ev e).cells.length := by omega
          obtain ⟨q, hq1, hq2⟩ := hcs.get (List.getElem?_eq_getElem hj')
          rw [List.getElem?_eq_getElem hj] at hq1
          cases hq1
          exact hq2.oneCell (hst _ (List.getElem_mem hj'))
        have hrun := run_storeCells_at P m.rb (m.ro + i * m.sz + off) ty (a.eval x).cells.toList 0 c w b5 (by rw [b1]; omega) hone
        have hexec : (execOp a.eval { o with op := .store t p x }).run P w = .ok .skip (w.setRow m.rb (c.toList.take (m.ro + (i * sz + off)) ++ (a.eval x).cells.toList ++ c.toList.drop (m.ro + (i * sz + off) + (a.eval x).cells.toList.length)).toArray) := by
          have hsz : ¬ (a.eval x).cells.size ≠ inf.size := by
            have : (a.eval x).cells.size = (a.eval x).cells.toList.length := by simp
            omega
          rw [Nat.add_zero, b1, Nat.add_assoc] at hrun
          simp only [execOp, h1', Instr.storeAt, Instr.sureAddr, pure_bind, storeVar, Sem.run_bind, sizeOf, typeInfo, run_program, hinf, Sem.run_pure, Result.andThen_ok, Sem.run_ite, hsz, if_false, b1, Nat.add_assoc] at hrun ⊢
          rw [hrun]
          rfl
        have hw1 := setRow_heap w m.rb c (c.toList.take (m.ro + (i * sz + off)) ++ (a.eval x).cells.toList ++ c.toList.drop (m.ro + (i * sz + off) + (a.eval x).cells.toList.length)).toArray ty (0, 0) b5
        obtain ⟨g1, g2⟩ := hr.upd (w' := w.setRow m.rb (c.toList.take (m.ro + (i * sz + off)) ++ (a.eval x).cells.toList ++ c.toList.drop (m.ro + (i * sz + off) + (a.eval x).cells.toList.length)).toArray) hb trivial hm (by simp [World.setRow]) (fun q hq => setRow_other w m.rb q _ hq)
          (k' := .arr sz (es.set i (x0.setCells off (z.ev e).cells))) (fun hs => by
            refine BR.put (hr.blk b _ m hb hm) hs (fun _ _ h => h) b5 (k := i * sz + off) hcs (by omega) ?_ (by simp) ?_ hw1
            · intro q hq
              rcases List.mem_or_eq_of_mem_set hq with h | rfl
              · exact b3 q h
              · exact ⟨hsl, s2⟩
            · rw [flat_set hall hx0 hsl, s1, flat_mem hall hx0]
              have hfl := flat_length hall
              generalize es.flatMap AV.cells = F at hfl
              exact splice_in (by omega) (by omega))
        exact .skip hexec ⟨_, _, g1, .tuple _ _ [] (.nil _), g2⟩
      · cases hH
    · cases hH
  · cases hH
end
end X
end Go.Proofs.YtkaigfcjejabfaaGreatDoor
