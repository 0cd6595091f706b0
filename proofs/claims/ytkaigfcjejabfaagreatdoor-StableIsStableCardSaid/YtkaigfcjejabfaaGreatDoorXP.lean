/- The engine's operations are sound, one by one: those that read memory. No condition. -/
import Derived.Test.YtkaigfcjejabfaaGreatDoorXO
set_option linter.unusedSimpArgs false
set_option linter.unusedVariables false
namespace Go.Proofs.YtkaigfcjejabfaaGreatDoor
open Go
namespace X

section
variable {P : Program} {G : Nat → Option AV} {w : World} {σ : Nat → Prop} {μ : Mu}
variable {X : Prog} {C : Oracle} {B : Nat} {H : Heap} {e : Env} {a : Act} {o : Oper} {r : AV × Heap}

theorem cell_of {rb off : Nat} {c : Array Value} {ty : TypeId} {fz : Nat × Nat} (h : w.heap[rb]? = some (.cells c ty fz)) : w.cell? ⟨rb, off, none⟩ = c[off]? := by
  simp [World.cell?, h]

theorem flat_length {sz : Nat} : ∀ {es : List AV}, (∀ e ∈ es, e.cells.length = sz) → (es.flatMap AV.cells).length = es.length * sz
  | [], _ => by simp
  | e :: es, h => by
    rw [List.flatMap_cons, List.length_append, h e (by simp), flat_length fun x hx => h x (by simp [hx]), List.length_cons, Nat.succ_mul]; omega

theorem flat_get {sz off : Nat} (ho : off < sz) : ∀ {es : List AV} {i : Nat} {x : AV}, (∀ e ∈ es, e.cells.length = sz) → es[i]? = some x → (es.flatMap AV.cells)[i * sz + off]? = x.cells[off]?
  | [], i, x, _, hi => by simp at hi
  | e :: es, 0, x, h, hi => by
    simp at hi; subst hi
    rw [List.flatMap_cons, List.getElem?_append_left (by rw [h e (by simp)]; omega)]
    simp
  | e :: es, i + 1, x, h, hi => by
    simp at hi
    have hl := h e (by simp)
    rw [List.flatMap_cons, List.getElem?_append_right (by rw [hl, Nat.succ_mul]; omega), ← flat_get ho (fun y hy => h y (by simp [hy])) hi]
    congr 1
    rw [hl, Nat.succ_mul]; omega

theorem flat_drop {sz : Nat} : ∀ {es : List AV} (k : Nat), (∀ e ∈ es, e.cells.length = sz) → (es.drop k).flatMap AV.cells = (es.flatMap AV.cells).drop (k * sz)
  | [], k, _ => by simp
  | e :: es, 0, h => by simp
  | e :: es, k + 1, h => by
    rw [List.drop_succ_cons, flat_drop k fun y hy => h y (by simp [hy]), List.flatMap_cons, Nat.succ_mul, Nat.add_comm (k * sz) sz, ← List.drop_drop, ← h e (by simp), List.drop_left]

theorem flat_take {sz : Nat} : ∀ {es : List AV} (k : Nat), (∀ e ∈ es, e.cells.length = sz) → (es.take k).flatMap AV.cells = (es.flatMap AV.cells).take (k * sz)
  | [], k, _ => by simp
  | e :: es, 0, h => by simp
  | e :: es, k + 1, h => by
    rw [List.take_succ_cons, List.flatMap_cons, flat_take k fun y hy => h y (by simp [hy]), List.flatMap_cons, Nat.succ_mul, Nat.add_comm (k * sz) sz, ← h e (by simp), List.take_length_add_append]

/-- What stands at a place of a live block. -/
theorem BR.at {m : BM} {sz : Nat} {es : List AV} (h : BR w σ μ m (.arr sz es)) {i : Nat} {x : AV} (hi : es[i]? = some x) {off : Nat} {v : AV} (hv : x.cells[off]? = some v) :
    ∃ y, w.cell? ⟨m.rb, m.ro + i * m.sz + off, none⟩ = some y ∧ RV w σ μ v y := by
  obtain ⟨h1, h2, h3, h4, c, ty, h5, h6, vs, h7, h8⟩ := h
  have hx := h3 x (List.mem_of_getElem? hi)
  have ho : off < sz := by rw [← hx.1]; exact (List.getElem?_eq_some_iff.1 hv).1
  have hg : (es.flatMap AV.cells)[i * sz + off]? = some v := by rw [flat_get ho (fun e he => (h3 e he).1) hi, hv]
  obtain ⟨y, hy, hr⟩ := h7.get hg
  refine ⟨y, ?_, hr⟩
  rw [cell_of h5, Nat.add_assoc, h1, h8 _ (List.getElem?_eq_some_iff.1 hy).1, hy]

theorem addr_add (b off n : Nat) : (⟨b, off, none⟩ : Addr).add n = ⟨b, off + n, none⟩ := by
  unfold Addr.add; split <;> simp_all

theorem cells_exist {rb : Nat} : ∀ {cs : List AV} {off : Nat}, (∀ i v, cs[i]? = some v → ∃ y, w.cell? ⟨rb, off + i, none⟩ = some y ∧ RV w σ μ v y) →
    ∃ xs, RVs w σ μ cs xs ∧ ∀ j x, xs[j]? = some x → w.cell? ((⟨rb, off, none⟩ : Addr).add j) = some x
  | [], off, _ => ⟨[], .nil _, fun j x h => by simp at h⟩
  | c :: cs, off, h => by
    obtain ⟨y, h1, h2⟩ := h 0 c (by simp)
    obtain ⟨xs, h3, h4⟩ := cells_exist (rb := rb) (cs := cs) (off := off + 1) (fun i v hi => by
      obtain ⟨y, h1, h2⟩ := h (i + 1) v (by simpa using hi)
      exact ⟨y, by rw [← h1]; congr 2; omega, h2⟩)
    refine ⟨y :: xs, .cons _ _ _ _ _ h2 h3, ?_⟩
    intro j x hj
    rw [addr_add]
    cases j with
    | zero => simp at hj; subst hj; exact h1
    | succ j =>
      simp at hj
      rw [← h4 j x hj, addr_add]
      congr 2; omega

/-- A variable is loaded. -/
theorem run_loadVar {t : TypeId} {n : Option Nat} (ht : isAggT P t = some n) {rb off : Nat} {cs : List AV} (hcs : ∀ i v, cs[i]? = some v → ∃ y, w.cell? ⟨rb, off + i, none⟩ = some y ∧ RV w σ μ v y) {v : AV}
    (hv : pickAV n cs 0 = some v) :
    ∃ x, (loadVar t ⟨rb, off, none⟩).run P w = .ok x w ∧ RV w σ μ v x := by
  have agg : ∀ i : TypeInfo, P.info? t = some i → (isAgg t).run P w = .ok true w → (if 0 + i.size ≤ cs.length then some (AV.agg ((cs.drop 0).take i.size)) else none) = some v →
      ∃ x, (loadVar t ⟨rb, off, none⟩).run P w = .ok x w ∧ RV w σ μ v x := by
    intro i hi hag hv
    simp only [Nat.zero_add, List.drop_zero] at hv
    split at hv
    · rename_i hn
      cases hv
      obtain ⟨xs, h1, h2⟩ := cells_exist (rb := rb) (off := off) (cs := cs.take i.size) (w := w) (σ := σ) (μ := μ) (fun j u hj => hcs j u (by
        have hlt := (List.getElem?_eq_some_iff.1 hj).1
        rw [List.getElem?_take_of_lt (by simp at hlt; omega)] at hj; exact hj))
      have hl : xs.length = i.size := by rw [← h1.length]; simp; omega
      have hrun := run_loadCells_list (P := P) w _ xs h2
      rw [hl] at hrun
      exact ⟨.agg xs.toArray, by simp [loadVar, hag, sizeOf, typeInfo, hi, hrun], .agg _ _ _ h1⟩
    · cases hv
  unfold isAggT at ht
  split at ht
  · rename_i fs i hu hi
    cases ht
    exact agg i hi (by simp [isAgg, run_underlying hu]) hv
  · rename_i n' el i hu hi
    cases ht
    exact agg i hi (by simp [isAgg, run_underlying hu]) hv
  · rename_i hns hna hu hi
    cases ht
    obtain ⟨y, h1, h2⟩ := hcs 0 v hv
    refine ⟨y, ?_, h2⟩
    have ha : (isAgg t).run P w = .ok false w := by
      simp only [isAgg, Sem.run_bind, run_underlying hu, Result.andThen_ok]
      rfl
    rw [Nat.add_zero] at h1
    simp [loadVar, ha, h1]
  · cases ht

theorem load_at {t : TypeId} {n : Option Nat} (hn : isAggT P t = some n) {pv v : AV} {x : Value} (h1 : RV w σ μ pv x) (hv : loadAV H n pv = some v) (hr : HR G B σ μ H w) :
    ∃ rb off z, x = .pointer (some ⟨rb, off, none⟩) ∧ (loadVar t ⟨rb, off, none⟩).run P w = .ok z w ∧ RV w σ μ v z := by
  unfold loadAV at hv
  split at hv
  · rename_i b i off
    obtain ⟨m, rfl, hm⟩ := h1.ptr_inv
    split at hv
    · rename_i sz es hb
      simp only [Option.bind_eq_some_iff] at hv
      obtain ⟨x0, hx0, hv⟩ := hv
      have hbr := hr.blk b _ m hb hm
      obtain ⟨z, hz, hzr⟩ := run_loadVar (P := P) (w := w) (σ := σ) (μ := μ) (rb := m.rb) (off := m.ro + i * m.sz + off) hn (cs := x0.cells.drop off) (v := v) (by
        intro j u hj
        rw [List.getElem?_drop] at hj
        obtain ⟨y, h3, h4⟩ := hbr.at hx0 hj
        exact ⟨y, by rw [← h3]; congr 2; omega, h4⟩) (by
        cases n with
        | none => simpa [pickAV, List.getElem?_drop] using hv
        | some n =>
          simp only [pickAV] at hv ⊢
          split at hv
          · rename_i hle
            rw [if_pos (by simp; omega)]
            simpa using hv
          · cases hv)
      exact ⟨_, _, z, rfl, hz, hzr⟩
    · cases hv
  · rename_i cs
    obtain ⟨rb, off, c, ty, fz, vs, rfl, g1, g2, g3, g4⟩ := h1.vptr_inv
    obtain ⟨z, hz, hzr⟩ := run_loadVar (P := P) (w := w) (σ := σ) (μ := noMu) (rb := rb) (off := off) hn (cs := cs) (v := v) (by
      intro j u hj
      obtain ⟨y, h3, h4⟩ := g4.get hj
      exact ⟨y, by rw [cell_of g2, g3 _ (List.getElem?_eq_some_iff.1 h3).1, h3], h4⟩) hv
    exact ⟨_, _, z, rfl, hz, hzr.mono (fun _ h => ⟨h, rfl⟩) fun _ _ h => by cases h⟩
  · cases hv

theorem ok_load {t : TypeId} {x : Operand} {own : Bool} {xo : XOp} (hc : compOp P G own (.load t x) = some xo) (hx : xop X C xo e H = some r) (hr : HR G B σ μ H w) (he : ER σ μ e w a) :
    OpOK P (.load t x) o a w (Post G B σ μ w r) := by
  simp only [compOp, Option.bind_eq_some_iff, Option.map_eq_some_iff] at hc
  obtain ⟨n, hn, y, hy, rfl⟩ := hc
  have h1 := RV.arg hr he hy
  simp only [xop, Option.map_eq_some_iff] at hx
  obtain ⟨v, hv, rfl⟩ := hx
  obtain ⟨rb, off, z, h1', hz, hzr⟩ := load_at (P := P) hn h1 hv hr
  exact .quiet hr rfl (by simp [execOp, h1', Instr.loadAt, Instr.sureAddr, hz]) hzr

theorem ok_fieldAddr {s : TypeId} {x : Operand} {k : Nat} {own : Bool} {xo : XOp} (hc : compOp P G own (.fieldAddr s x k) = some xo) (hx : xop X C xo e H = some r) (hr : HR G B σ μ H w) (he : ER σ μ e w a) :
    OpOK P (.fieldAddr s x k) o a w (Post G B σ μ w r) := by
  simp only [compOp] at hc
  split at hc
  · rename_i fs hu
    simp only [Option.bind_eq_some_iff] at hc
    obtain ⟨f, hf, i, hi, hc⟩ := hc
    split at hc
    · rename_i hpos
      rw [Option.map_eq_some_iff] at hc
      obtain ⟨y, hy, rfl⟩ := hc
      have h1 := RV.arg hr he hy
      have hz : ¬ i.size = 0 := by omega
      have hrun : ∀ rb off, a.eval x = .pointer (some ⟨rb, off, none⟩) → (execOp a.eval { o with op := .fieldAddr s x k }).run P w = .ok (.value (.pointer (some ⟨rb, off + f.offset, none⟩))) w := by
        intro rb off hv
        simp [execOp, hv, Instr.fieldAt, run_underlying hu, hf, Instr.sureAddr, fieldPlace, sizeOf, typeInfo, hi, hz, addr_add]
      simp only [xop] at hx
      split at hx
      · rename_i b i' o' hp
        cases hx
        rw [hp] at h1
        cases h1' : a.eval x <;> rw [h1'] at h1 <;> cases h1
        rename_i m hm
        refine .quiet hr rfl (hrun _ _ h1') ?_
        have := RV.ptr (w := w) (σ := σ) μ b i' (o' + f.offset) m hm
        rwa [← Nat.add_assoc] at this
      · rename_i cs hp
        split at hx
        · rename_i hle
          cases hx
          rw [hp] at h1
          cases h1' : a.eval x <;> rw [h1'] at h1 <;> cases h1
          rename_i rb off c ty fz vs g1 g2 g3 g4
          refine .quiet hr rfl (hrun _ _ h1') (.vptr _ _ _ _ c ty fz (vs.drop f.offset) g1 g2 ?_ (g4.drop _))
          intro j hj
          simp at hj
          rw [Nat.add_assoc, g3 _ (by omega), List.getElem?_drop]
        · cases hx
      · cases hx
    · cases hc
  · cases hc

theorem run_part {t : TypeId} {n : Option Nat} (ht : isAggT P t = some n) {cs : List AV} {xs : List Value} (hcs : RVs w σ μ cs xs) {off : Nat} {v : AV}
    (hv : pickAV n cs off = some v) :
    ∃ x, (part t xs.toArray off).run P w = .ok x w ∧ RV w σ μ v x := by
  have hlen := hcs.length
  have agg : ∀ i : TypeInfo, P.info? t = some i → (isAgg t).run P w = .ok true w → (if off + i.size ≤ cs.length then some (AV.agg ((cs.drop off).take i.size)) else none) = some v →
      ∃ x, (part t xs.toArray off).run P w = .ok x w ∧ RV w σ μ v x := by
    intro i hi hag hv
    split at hv
    · cases hv
      refine ⟨.agg ((xs.drop off).take i.size).toArray, ?_, .agg _ _ _ ((hcs.drop _).take _)⟩
      simp [part, hag, sizeOf, typeInfo, hi]
    · cases hv
  unfold isAggT at ht
  split at ht
  · rename_i fs i hu hi
    cases ht
    exact agg i hi (by simp [isAgg, run_underlying hu]) hv
  · rename_i n' el i hu hi
    cases ht
    exact agg i hi (by simp [isAgg, run_underlying hu]) hv
  · rename_i hns hna hu hi
    cases ht
    obtain ⟨y, h1, h2⟩ := hcs.get hv
    refine ⟨y, ?_, h2⟩
    have ha : (isAgg t).run P w = .ok false w := by
      simp only [isAgg, Sem.run_bind, run_underlying hu, Result.andThen_ok]
      rfl
    simp [part, ha, h1]
  · cases ht

theorem ok_field {s : TypeId} {x : Operand} {k : Nat} {own : Bool} {xo : XOp} (hc : compOp P G own (.field s x k) = some xo) (hx : xop X C xo e H = some r) (hr : HR G B σ μ H w) (he : ER σ μ e w a) :
    OpOK P (.field s x k) o a w (Post G B σ μ w r) := by
  simp only [compOp] at hc
  split at hc
  · rename_i fs hu
    simp only [Option.bind_eq_some_iff, Option.map_eq_some_iff] at hc
    obtain ⟨f, hf, n, hn, y, hy, rfl⟩ := hc
    have h1 := RV.arg hr he hy
    simp only [xop] at hx
    split at hx
    · rename_i cs hp
      rw [hp] at h1
      cases h1' : a.eval x <;> rw [h1'] at h1 <;> cases h1
      rename_i xs hxs
      rw [Option.map_eq_some_iff] at hx
      obtain ⟨v, hv, rfl⟩ := hx
      obtain ⟨z, hz, hzr⟩ := run_part (P := P) hn hxs hv
      exact .quiet hr rfl (by simp [execOp, h1', Instr.field, run_underlying hu, hf, asAgg, hz]) hzr
    · cases hx
  · cases hc

theorem idx_some {n : Int} {len j : Nat} (h : idx n len = some j) : 0 ≤ n ∧ n < len ∧ n.toNat = j ∧ j < len := by
  unfold idx at h
  split at h
  · cases h; omega
  · cases h

theorem flat_mem {es : List AV} {i : Nat} {x : AV} {sz : Nat} (h : ∀ e ∈ es, e.cells.length = sz) (hi : es[i]? = some x) : x.cells = ((es.flatMap AV.cells).drop (i * sz)).take sz := by
  rw [← flat_drop i h]
  have hlt := (List.getElem?_eq_some_iff.1 hi).1
  have hx := (List.getElem?_eq_some_iff.1 hi).2
  rw [List.drop_eq_getElem_cons hlt, hx, List.flatMap_cons, ← h x (List.mem_of_getElem? hi), List.take_left]

theorem ok_indexAddr {t : TypeId} {x i : Operand} {own : Bool} {xo : XOp} (hc : compOp P G own (.indexAddr t x i) = some xo) (hx : xop X C xo e H = some r) (hr : HR G B σ μ H w) (he : ER σ μ e w a) :
    OpOK P (.indexAddr t x i) o a w (Post G B σ μ w r) := by
  simp only [compOp] at hc
  split at hc
  · rename_i el hu
    simp only [Option.bind_eq_some_iff, Option.map_eq_some_iff] at hc
    obtain ⟨inf, hinf, y, hy, z, hz, rfl⟩ := hc
    have h1 := RV.arg hr he hy
    have h2 := RV.arg hr he hz
    simp only [xop, Option.bind_eq_some_iff, Option.map_eq_some_iff] at hx
    obtain ⟨n, hn, v, hv, rfl⟩ := hx
    unfold AV.asInt at hn
    split at hn
    · rename_i k m hm
      have hnm : m = n := by simpa using hn
      subst hnm
      rw [hm] at h2
      cases h2' : a.eval i <;> rw [h2'] at h2 <;> cases h2
      have hrun : ∀ rb off len cap, a.eval x = .slice (some ⟨rb, off, none⟩) len cap → 0 ≤ m → m < len →
          (execOp a.eval { o with op := .indexAddr t x i }).run P w = .ok (.value (.pointer (some ⟨rb, off + m.toNat * inf.size, none⟩))) w := by
        intro rb off len cap hv h0 hl
        simp [execOp, hv, h2', Instr.indexAt, asIntOf, run_underlying hu, h0, hl, sizeOf, typeInfo, hinf, addr_add]
      unfold indexAddrAV at hv
      split at hv
      · rename_i es hp
        simp only [Option.bind_eq_some_iff] at hv
        obtain ⟨j, hj, x0, hx0, hv⟩ := hv
        obtain ⟨b0, b1, b2, b3⟩ := idx_some hj
        split at hv
        · rename_i hsz
          cases hv
          rw [hp] at h1
          rcases h1.vslice_inv with ⟨rfl, _⟩ | ⟨rb, off, c, ty, fz, vs, sz, cap, h1', g1, g2, g3, g4, g5, g6⟩
          · simp at hx0
          · skip
            have hall : ∀ e ∈ es, e.cells.length = sz := fun e he => (g4 e he).1
            have hs : sz = inf.size := by rw [← hall x0 (List.mem_of_getElem? hx0), hsz]
            subst hs
            have hr1 := hrun _ _ _ _ h1' b0 b1
            rw [b2] at hr1
            refine .quiet hr rfl hr1 (.vptr _ _ _ _ c ty fz ((vs.drop (j * inf.size)).take inf.size) g1 g2 ?_ ?_)
            · intro q hq
              simp at hq
              rw [Nat.add_assoc, g3 _ (by omega), List.getElem?_take_of_lt (by omega), List.getElem?_drop]
            · rw [flat_mem hall hx0]; exact (g5.drop _).take _
        · cases hv
      · rename_i b off len hp
        simp only [Option.bind_eq_some_iff] at hv
        obtain ⟨j, hj, hv⟩ := hv
        obtain ⟨b0, b1, b2, b3⟩ := idx_some hj
        split at hv
        · rename_i sz' es hb
          split at hv
          · rename_i hsz
            cases hv
            subst hsz
            rw [hp] at h1
            obtain ⟨cap, m', h1', hm', g1, g2, g3⟩ := h1.slice_inv
            have hbr := hr.blk b _ m' hb hm'
            have hms : m'.sz = inf.size := hbr.1
            have hr1 := hrun _ _ _ _ h1' b0 b1
            rw [b2] at hr1
            refine .quiet hr rfl hr1 ?_
            have := RV.ptr (w := w) (σ := σ) μ b (off + j) 0 m' hm'
            rw [Nat.add_zero, Nat.add_mul, ← Nat.add_assoc] at this
            rw [← hms]; exact this
          · cases hv
        · cases hv
      · cases hv
    · cases hn
  · cases hc

theorem map_args {lo : Option Operand} {l : Option Nat} (h : (lo = none ∧ l = none) ∨ ∃ x k n, lo = some x ∧ a.eval x = .int k (n : Nat) ∧ l = some n) :
    ((lo.map a.eval) = none ∧ l = none) ∨ ∃ k n, (lo.map a.eval) = some (.int k (n : Nat)) ∧ l = some n := by
  rcases h with ⟨rfl, rfl⟩ | ⟨x, k, n, rfl, h, rfl⟩ <;> simp [*]

theorem ok_slice_sl {t el : TypeId} {x : Operand} {lo hi : Option Operand} {own : Bool} {xo : XOp} (hu : P.underlying t = some (.slice el)) (hc : compOp P G own (.slice t x lo hi none) = some xo) (hx : xop X C xo e H = some r)
    (hr : HR G B σ μ H w) (he : ER σ μ e w a) : OpOK P (.slice t x lo hi none) o a w (Post G B σ μ w r) := by
  simp only [compOp, hu, Option.bind_eq_some_iff, Option.map_eq_some_iff] at hc
  obtain ⟨y, hy, y1, hy1, y2, hy2, inf, hinf, rfl⟩ := hc
  have h1 := RV.arg hr he hy
  simp only [xop, Option.bind_eq_some_iff, Option.map_eq_some_iff] at hx
  obtain ⟨l, hl, h, hh, v, hx, rfl⟩ := hx
  have hlo := map_args (optArg_some hr he hy1 hl)
  have hhi := map_args (optArg_some hr he hy2 hh)
  have hrun : ∀ base len cap, a.eval x = .slice base len cap → l.getD 0 ≤ h.getD len → h.getD len ≤ cap → len ≤ cap →
      (execOp a.eval { o with op := .slice t x lo hi none }).run P w = .ok (.value (.slice (if cap = l.getD 0 then base else base.map (·.add (l.getD 0 * inf.size))) (h.getD len - l.getD 0) (cap - l.getD 0))) w := by
    intro base len cap hv g1 g2 g3
    have hbd := run_sliceBounds (P := P) (w := w) (isSl := true) (len := len) (cap := cap) hlo hhi g1 g2 g3
    simp [execOp, hv, Instr.sliceAt, run_underlying hu, Instr.slice, hbd, sizeOf, typeInfo, hinf]
  unfold sliceAV at hx
  split at hx
  · rename_i hp
    split at hx
    · rename_i hb
      cases hx
      rw [hp] at h1
      have h1' := h1.nilslice_inv
      have hr1 := hrun _ _ _ h1' (by omega) (by omega) (by omega)
      refine .quiet hr rfl hr1 ?_
      simp [hb.1, hb.2]
      exact .nilslice _
    · cases hx
  · rename_i es hp
    dsimp only at hx
    split at hx
    · rename_i hb
      cases hx
      rw [hp] at h1
      rcases h1.vslice_inv with ⟨rfl, base, cap, h1'⟩ | ⟨rb, off, c, ty, fz, vs, sz, cap, h1', g1, g2, g3, g4, g5, g6⟩
      · have hb1 : l.getD 0 ≤ h.getD 0 := by simpa using hb.1
        have hb2 : h.getD 0 = 0 := by simpa using hb.2
        have hr1 := hrun _ _ _ h1' (by omega) (by omega) (by omega)
        refine .quiet hr rfl hr1 ?_
        rw [show h.getD 0 - l.getD 0 = 0 by omega]
        simp
        exact .vslice0 _ _ _
      · have hr1 := hrun _ _ _ h1' hb.1 (by omega) g6
        refine .quiet hr rfl hr1 ?_
        have hall : ∀ e ∈ es, e.cells.length = sz := fun e he => (g4 e he).1
        have hlen : ((es.take (h.getD es.length)).drop (l.getD 0)).length = h.getD es.length - l.getD 0 := by simp; omega
        by_cases hz : h.getD es.length - l.getD 0 = 0
        · have : (es.take (h.getD es.length)).drop (l.getD 0) = [] := List.eq_nil_of_length_eq_zero (by omega)
          simp only [this, hz]
          exact .vslice0 _ _ _
        · rw [if_neg (by omega)]
          have hl0 : l.getD 0 < es.length := by omega
          have hpos : ¬ es = [] := fun e => by rw [e] at hl0; simp at hl0
          have hs : l.getD 0 * inf.size = l.getD 0 * sz := by
            rcases hb.2.2 with h0 | h0
            · rw [h0]; simp
            · obtain ⟨x0, hx0⟩ := List.exists_mem_of_ne_nil _ hpos
              rw [List.all_eq_true] at h0
              have := h0 x0 hx0
              rw [← hall x0 hx0, eq_of_beq this]
          simp only [Option.map_some, addr_add, hs]
          have hall2 : ∀ e ∈ (es.take (h.getD es.length)), e.cells.length = sz := fun e he => hall e (List.mem_of_mem_take he)
          have key := RV.vslice (w := w) (σ := σ) μ ((es.take (h.getD es.length)).drop (l.getD 0)) rb (off + l.getD 0 * sz) c ty fz ((vs.take (h.getD es.length * sz)).drop (l.getD 0 * sz)) sz (cap - l.getD 0) g1 g2 (by
              intro j hj
              have h7 := flat_length hall
              have h8 := g5.length
              simp at hj
              rw [Nat.add_assoc, g3 _ (by omega), List.getElem?_drop, List.getElem?_take_of_lt (by omega)])
            (fun e he => g4 e (List.mem_of_mem_take (List.mem_of_mem_drop he)))
            (by rw [flat_drop _ hall2, flat_take _ hall]; exact (g5.take _).drop _) (by rw [hlen]; omega)
          rw [hlen] at key
          exact key
    · cases hx
  · rename_i b off len hp
    split at hx
    · rename_i sz' es hbk
      dsimp only at hx
      split at hx
      · rename_i hb
        rw [hp] at h1
        obtain ⟨cap, m, h1', hm, g1, g2, g3⟩ := h1.slice_inv
        have hbr := hr.blk b _ m hbk hm
        have hn : m.n = es.length := hbr.2.1
        have hsz : m.sz = inf.size := by rw [hbr.1, hb.2.2]
        have hr1 := hrun _ _ _ h1' hb.1 (by omega) g1
        split at hx
        · rename_i hor
          cases hx
          refine .quiet hr rfl hr1 ?_
          have key := RV.slice (w := w) (σ := σ) μ b (off + l.getD 0) (h.getD len - l.getD 0) (cap - l.getD 0) m hm (by omega) (by omega) (by rw [show off + l.getD 0 + (cap - l.getD 0) = off + cap by omega]; exact g3)
          rcases hor with hlt | h0
          · rw [if_neg (by omega)]
            simpa [addr_add, Nat.add_mul, Nat.add_assoc, hsz] using key
          · rw [h0] at key ⊢
            simp at key ⊢
            split <;> simpa [addr_add] using key
        · rename_i hor
          cases hx
          refine .quiet hr rfl hr1 ?_
          rw [show h.getD len - l.getD 0 = 0 by omega]
          exact .vslice0 _ _ _
      · cases hx
    · cases hx
  · cases hx
end
end X
end Go.Proofs.YtkaigfcjejabfaaGreatDoor
