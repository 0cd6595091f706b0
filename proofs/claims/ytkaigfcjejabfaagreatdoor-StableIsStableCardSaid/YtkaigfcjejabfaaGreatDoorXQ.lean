/- The engine's operations are sound: slices that are made and copied; every operation but a call. No condition. -/
import Derived.Test.YtkaigfcjejabfaaGreatDoorXS
set_option linter.unusedSimpArgs false
set_option linter.unusedVariables false
namespace Go.Proofs.YtkaigfcjejabfaaGreatDoor
open Go
namespace X

section
variable {P : Program} {G : Nat → Option AV} {w : World} {σ : Nat → Prop} {μ : Mu}
variable {X : Prog} {C : Oracle} {B : Nat} {H : Heap} {e : Env} {a : Act} {o : Oper} {r : AV × Heap}

theorem ok_mkSlice {t : TypeId} {l c : Operand} {own : Bool} {xo : XOp} (hc : compOp P G own (.makeSlice t l c) = some xo) (hx : xop X C xo e H = some r) (hr : HR G B σ μ H w) (he : ER σ μ e w a) :
    OpOK P (.makeSlice t l c) o a w (Post G B σ μ w r) := by
  simp only [compOp] at hc
  split at hc
  · rename_i el hu
    simp only [Option.bind_eq_some_iff] at hc
    obtain ⟨inf, hinf, z, hz, v, hv, hc⟩ := hc
    split at hc
    · rename_i hcond
      obtain ⟨c1, c2, c3⟩ := hcond
      simp only [Option.bind_eq_some_iff, Option.map_eq_some_iff] at hc
      obtain ⟨l', hl', c', hc', rfl⟩ := hc
      simp only [xop, Option.bind_eq_some_iff] at hx
      obtain ⟨nl, hnl, nc, hnc, hx⟩ := hx
      split at hx
      · rename_i hb
        cases hx
        obtain ⟨d1, d2, d3⟩ := hb
        obtain ⟨kl, el1⟩ := RV.nat (RV.arg hr he hl') hnl
        obtain ⟨kc, el2⟩ := RV.nat (RV.arg hr he hc') hnc
        have hvz := RV.ofValue (w := w) (σ := σ) (μ := μ) hv
        have hcs := hvz.cellsOf c2
        have hz0 := zeros_ok (n := nc) hcs c1 c3
        have hrun := run_make (P := P) w t el inf z hu hinf hz kl kc nl nc (by omega) (by omega) (by rw [Int.mul_comm, ← Int.natCast_mul]; omega) (by omega)
        rw [← el1, ← el2] at hrun
        simp only [Int.toNat_natCast] at hrun
        have hsz : (madeCells z.cells (nc * inf.size)).size = nc * inf.size := size_madeCells _ _
        obtain ⟨g1, g2⟩ := hr.row (w' := w.alloc (.cells (madeCells z.cells (nc * inf.size)) el)) (sz := inf.size) (es := List.replicate nc v) (c := madeCells z.cells (nc * inf.size)) (ty := el) (vs := (madeCells z.cells (nc * inf.size)).toList)
          (by simp) (fun b hb => alloc_old _ hb) (alloc_new _) (fun q hq => by rw [List.eq_of_mem_replicate hq]; exact ⟨c1, c2⟩) (by unfold madeCells; exact hz0) (fun i hi => by simp) (by rw [hsz]; simp)
        refine .value (x := .slice (some ⟨w.heap.size, 0, none⟩) nl nc) (w' := w.alloc (.cells (madeCells z.cells (nc * inf.size)) el)) ?_ ⟨_, _, g1, ?_, g2⟩
        · simp only [execOp, Sem.run_bind, hrun, Result.andThen_ok, Sem.run_pure]
        · have := RV.slice (w := w.alloc (.cells (madeCells z.cells (nc * inf.size)) el)) (σ := σ) _ H.length 0 nl nc _ (put_new (μ := μ) (H := H) ⟨w.heap.size, 0, inf.size, (List.replicate nc v).length, (madeCells z.cells (nc * inf.size)).size⟩) d1 (by simp) (by show 0 + (0 + nc) * inf.size ≤ (madeCells z.cells (nc * inf.size)).size; rw [hsz]; simp)
          simpa using this
      · cases hx
    · cases hc
  · cases hc

theorem ok_copy {t u el : TypeId} {inf : TypeInfo} (ht : P.underlying t = some (.slice el)) (hi : P.info? el = some inf) (h0 : 0 < inf.size) {x y : Operand} {x' y' : Arg} (hx' : compArg G x = some x') (hy' : compArg G y = some y')
    (hx : xop X C (.copy inf.size x' y') e H = some r) (hr : HR G B σ μ H w) (he : ER σ μ e w a) : OpOK P (.call { callee := .builtin .copy, args := #[x, y], argTypes := #[t, u] }) o a w (Post G B σ μ w r) := by
  have h1 := RV.arg hr he hx'
  have h2 := RV.arg hr he hy'
  have hexec : ∀ {v : Value} {w' : World}, (Builtin.copy_ #[t, u] o.type #[a.eval x, a.eval y]).run P w = .ok v w' →
      (execOp a.eval { o with op := .call { callee := .builtin .copy, args := #[x, y], argTypes := #[t, u] } }).run P w = .ok (.value v) w' := by
    intro v w' h
    rw [exec_builtin]
    have hb : ∀ s, builtin .copy #[t, u] o.type s #[a.eval x, a.eval y] = (do pure (.value (← Builtin.copy_ #[t, u] o.type #[a.eval x, a.eval y]))) := fun _ => rfl
    simp only [List.map_toArray, List.map_cons, List.map_nil, hb]
    simp [h]
  simp only [xop, Option.bind_eq_some_iff] at hx
  obtain ⟨ys, hys, hx⟩ := hx
  unfold copyAV at hx
  split at hx
  · cases hx
  · rename_i hsz
    simp only [Bool.not_eq_true', Bool.not_eq_false] at hsz
    obtain ⟨news, n1, n2, n3⟩ := src_ok (P := P) h2 hys hsz hr
    have hone := n1.one (allSz_flat hsz)
    have hmem := allSz_mem hsz
    have hall2 : ∀ e ∈ ys, e.cells.length = inf.size := fun e h => (hmem e h).1
    have hfl := flat_length hall2
    have hnl : news.length = ys.length * inf.size := by rw [← n1.length, hfl]
    split at hx
    · rename_i hp
      cases hx
      rw [hp] at h1
      have n30 := n3 0 (by omega) w rfl
      refine .quiet (x := .int .i64 0) hr rfl (hexec ?_) (.int _ _ _)
      rw [h1.nilslice_inv]
      simp [Builtin.copy_, run_underlying ht, n2 w, sizeOf, typeInfo, hi, n30, goInt]
    · rename_i b off len hp
      rw [hp] at h1
      obtain ⟨cap, m, h1', hm, k1, k2, k3⟩ := h1.slice_inv
      split at hx
      · rename_i sz' es hb
        split at hx
        · rename_i hcond
          cases hx
          obtain ⟨hss, hle⟩ := hcond
          subst hss
          obtain ⟨b1, b2, b3, b4, c, ty, b5, b6, vs, b7, b8⟩ := hr.blk b _ m hb hm
          have hall : ∀ e ∈ es, e.cells.length = inf.size := fun e h => (b3 e h).1
          have hq : (ys.take len).length = min ys.length len := by rw [List.length_take, Nat.min_comm]
          have n3n := n3 (min ys.length len) (by omega) w rfl
          have hn2 : RVs w σ μ ((ys.take len).flatMap AV.cells) (news.take (min ys.length len * inf.size)) := by
            have : ys.take len = ys.take (min ys.length len) := by rw [List.take_eq_take_iff]; omega
            rw [this, flat_take _ hall2]; exact n1.take _
          have hfl2 := flat_length fun e h => hall2 e (List.mem_of_mem_take (i := len) h)
          rw [hq] at hfl2
          have hl2 : (news.take (min ys.length len * inf.size)).length = min ys.length len * inf.size := by rw [← hn2.length, hfl2]
          have hcs' : m.ro + es.length * inf.size ≤ c.size := by rw [b6, ← b2, ← b1]; exact b4
          have hmul : off * inf.size + min ys.length len * inf.size ≤ es.length * inf.size := by rw [← Nat.add_mul]; exact Nat.mul_le_mul_right _ (by omega)
          have hst := run_storeCells_at P m.rb (m.ro + off * inf.size) ty (news.take (min ys.length len * inf.size)) 0 c w b5 (by omega) (fun v hv => hone v (List.mem_of_mem_take hv))
          simp only [Nat.add_zero] at hst
          have hw1 := setRow_heap w m.rb c (c.toList.take (m.ro + off * inf.size) ++ news.take (min ys.length len * inf.size) ++ c.toList.drop (m.ro + off * inf.size + (news.take (min ys.length len * inf.size)).length)).toArray ty (0, 0) b5
          obtain ⟨g1, g2⟩ := hr.upd (w' := w.setRow m.rb (c.toList.take (m.ro + off * inf.size) ++ news.take (min ys.length len * inf.size) ++ c.toList.drop (m.ro + off * inf.size + (news.take (min ys.length len * inf.size)).length)).toArray) hb trivial hm
            (by simp [World.setRow]) (fun q hq => setRow_other w m.rb q _ hq) (k' := .arr inf.size (es.take off ++ ys.take len ++ es.drop (off + min ys.length len))) (fun hs => by
              refine BR.put (hr.blk b _ m hb hm) hs (fun _ _ h => h) b5 (k := off * inf.size) hn2 (by rw [hfl2]; exact hmul) ?_ (by simp; omega) ?_ hw1
              · intro q hq
                simp only [List.mem_append] at hq
                rcases hq with (h | h) | h
                · exact b3 q (List.mem_of_mem_take h)
                · exact hmem q (List.mem_of_mem_take h)
                · exact b3 q (List.mem_of_mem_drop h)
              · rw [List.flatMap_append, List.flatMap_append, flat_take off hall, flat_drop _ hall, hfl2, Nat.add_mul off])
          refine .value (x := .int .i64 (min ys.length len : Nat)) (hexec ?_) ⟨_, _, g1, .int _ _ _, g2⟩
          rw [h1']
          have hmin : Nat.min ys.length len = min ys.length len := rfl
          simp only [Builtin.copy_, List.getElem?_toArray, List.getElem?_cons_zero, List.getElem?_cons_succ, Sem.run_bind, run_underlying ht, Result.andThen_ok, n2 w, sizeOf, typeInfo, run_program, hi, Sem.run_pure, hmin, n3n, b1, hst, goInt]
        · cases hx
      · cases hx
    · cases hx

theorem ok_clear {t el : TypeId} {inf : TypeInfo} {z : Value} {v : AV} (ht : P.underlying t = some (.slice el)) (hi : P.info? el = some inf) (hz : inf.zero = some z) (hv : ofValue z = some v) (hc1 : v.cells.length = inf.size) (hc2 : v.cells.all AV.storable = true) (h0 : 0 < inf.size)
    {x : Operand} {x' : Arg} (hx' : compArg G x = some x')
    (hx : xop X C (.clear inf.size v x') e H = some r) (hr : HR G B σ μ H w) (he : ER σ μ e w a) : OpOK P (.call { callee := .builtin .clear, args := #[x], argTypes := #[t] }) o a w (Post G B σ μ w r) := by
  have h1 := RV.arg hr he hx'
  have hexec : ∀ {v : Value} {w' : World}, (Builtin.clear_ #[t] o.type #[a.eval x]).run P w = .ok v w' →
      (execOp a.eval { o with op := .call { callee := .builtin .clear, args := #[x], argTypes := #[t] } }).run P w = .ok (.value v) w' := by
    intro v w' h
    rw [exec_builtin]
    have hb : ∀ s, builtin .clear #[t] o.type s #[a.eval x] = (do pure (.value (← Builtin.clear_ #[t] o.type #[a.eval x]))) := fun s => rfl
    simp only [List.map_toArray, List.map_cons, List.map_nil, hb]
    simp [h]
  simp only [xop, Option.map_eq_some_iff] at hx
  obtain ⟨H', hx, rfl⟩ := hx
  unfold clearAV at hx
  have hu : RV w σ μ (.tuple []) (.tuple #[]) := .tuple _ _ [] (.nil _)
  split at hx
  · rename_i hp
    cases hx
    rw [hp] at h1
    refine .quiet (x := .tuple #[]) hr rfl (hexec ?_) hu
    rw [h1.nilslice_inv]
    simp [Builtin.clear_, run_underlying ht]
  · rename_i b off len hp
    rw [hp] at h1
    obtain ⟨cap, m, h1', hm, k1, k2, k3⟩ := h1.slice_inv
    split at hx
    · rename_i hl
      cases hx
      subst hl
      refine .quiet (x := .tuple #[]) hr rfl (hexec ?_) hu
      rw [h1']
      simp [Builtin.clear_, run_underlying ht]
    · rename_i hl
      split at hx
      · rename_i sz' es hb
        split at hx
        · rename_i hcond
          cases hx
          obtain ⟨hss, hle⟩ := hcond
          subst hss
          obtain ⟨b1, b2, b3, b4, c, ty, b5, b6, vs, b7, b8⟩ := hr.blk b _ m hb hm
          have hall : ∀ e ∈ es, e.cells.length = inf.size := fun e h => (b3 e h).1
          have hvz := RV.ofValue (w := w) (σ := σ) (μ := μ) hv
          have hcs := hvz.cellsOf hc2
          have hz0 := zeros_ok (n := len) hcs hc1 h0
          have hzl : z.cells.size = inf.size := by have := hcs.length; rw [hc1] at this; simpa using this.symm
          have hn2 : RVs w σ μ ((List.replicate len v).flatMap AV.cells) (Builtin.zeroCells z.cells len).toList := by
            have hr0 := hz0
            rw [hzl] at hr0
            unfold Builtin.zeroCells
            rw [hzl]
            exact hr0
          have hone : ∀ v ∈ (Builtin.zeroCells z.cells len).toList, v.oneCell' = true := hn2.one (by
            intro q hq
            obtain ⟨p, hp1, hp2⟩ := List.mem_flatMap.1 hq
            rw [List.eq_of_mem_replicate hp1] at hp2
            exact List.all_eq_true.1 hc2 q hp2)
          have hfl2 : ((List.replicate len v).flatMap AV.cells).length = len * inf.size := by
            have := flat_length (es := List.replicate len v) (sz := inf.size) fun e h => by rw [List.eq_of_mem_replicate h]; exact hc1
            simpa using this
          have hl2 : (Builtin.zeroCells z.cells len).toList.length = len * inf.size := by rw [← hn2.length, hfl2]
          have hcs' : m.ro + es.length * inf.size ≤ c.size := by rw [b6, ← b2, ← b1]; exact b4
          have hmul : off * inf.size + len * inf.size ≤ es.length * inf.size := by rw [← Nat.add_mul]; exact Nat.mul_le_mul_right _ hle
          have hst := run_storeCells_at P m.rb (m.ro + off * inf.size) ty (Builtin.zeroCells z.cells len).toList 0 c w b5 (by omega) (fun v hv => hone v hv)
          simp only [Nat.add_zero] at hst
          have hw1 := setRow_heap w m.rb c (c.toList.take (m.ro + off * inf.size) ++ (Builtin.zeroCells z.cells len).toList ++ c.toList.drop (m.ro + off * inf.size + (Builtin.zeroCells z.cells len).toList.length)).toArray ty (0, 0) b5
          obtain ⟨g1, g2⟩ := hr.upd (w' := w.setRow m.rb (c.toList.take (m.ro + off * inf.size) ++ (Builtin.zeroCells z.cells len).toList ++ c.toList.drop (m.ro + off * inf.size + (Builtin.zeroCells z.cells len).toList.length)).toArray) hb trivial hm
            (by simp [World.setRow]) (fun q hq => setRow_other w m.rb q _ hq) (k' := .arr inf.size (es.take off ++ List.replicate len v ++ es.drop (off + len))) (fun hs => by
              refine BR.put (hr.blk b _ m hb hm) hs (fun _ _ h => h) b5 (k := off * inf.size) hn2 (by rw [hfl2]; exact hmul) ?_ (by simp; omega) ?_ hw1
              · intro q hq
                simp only [List.mem_append] at hq
                rcases hq with (h | h) | h
                · exact b3 q (List.mem_of_mem_take h)
                · rw [List.eq_of_mem_replicate h]; exact ⟨hc1, hc2⟩
                · exact b3 q (List.mem_of_mem_drop h)
              · rw [List.flatMap_append, List.flatMap_append, flat_take off hall, flat_drop _ hall, hfl2, Nat.add_mul off])
          refine .value (x := .tuple #[]) (hexec ?_) ⟨_, _, g1, .tuple _ _ [] (.nil _), g2⟩
          rw [h1']
          have hzv : (zeroValue el).run P w = .ok z w := by simp [zeroValue, typeInfo, hi, hz]
          obtain ⟨len', rfl⟩ : ∃ k, len = k + 1 := ⟨len - 1, by omega⟩
          simp only [Builtin.clear_, List.getElem?_toArray, List.getElem?_cons_zero, List.getElem?_cons_succ, Sem.run_bind, run_underlying ht, Result.andThen_ok, hzv, Sem.run_pure, b1, hst]
        · cases hx
      · cases hx
  · cases hx

theorem toList1 {α : Type} {a : Array α} {x : α} (h : a.toList = [x]) : a = #[x] := by apply Array.ext'; simpa using h
theorem toList2 {α : Type} {a : Array α} {x y : α} (h : a.toList = [x, y]) : a = #[x, y] := by apply Array.ext'; simpa using h

theorem ok_builtin {b : Builtin} {args : Array Operand} {tys : Array TypeId} {xo : XOp} (hc : compBuiltin P G b tys.toList args.toList = some xo) (hx : xop X C xo e H = some r) (hr : HR G B σ μ H w) (he : ER σ μ e w a) :
    OpOK P (.call { callee := .builtin b, args := args, argTypes := tys }) o a w (Post G B σ μ w r) := by
  unfold compBuiltin at hc
  split at hc
  · rename_i t x ht hx1
    rw [Option.map_eq_some_iff] at hc
    obtain ⟨y, hy, rfl⟩ := hc
    rw [toList1 ht, toList1 hx1]
    exact ok_len hy hx hr he
  · rename_i t u x y ht hx1
    rw [toList2 ht, toList2 hx1]
    split at hc
    · rename_i el hu
      simp only [Option.bind_eq_some_iff] at hc
      obtain ⟨inf, hinf, z, hz, hc⟩ := hc
      split at hc
      · rename_i el2 hu2
        split at hc
        · rename_i hcond
          simp only [Option.bind_eq_some_iff, Option.map_eq_some_iff] at hc
          obtain ⟨x', hx', y', hy', rfl⟩ := hc
          exact ok_append hu hu2 (by simp) hinf hz hcond.1 hx' hy' hx hr he
        · cases hc
      · rename_i hu2
        split at hc
        · rename_i hcond
          simp only [Option.bind_eq_some_iff, Option.map_eq_some_iff] at hc
          obtain ⟨x', hx', y', hy', rfl⟩ := hc
          exact ok_append hu hu2 (by simp) hinf hz hcond.1 hx' hy' hx hr he
        · cases hc
      · cases hc
    · cases hc
  · rename_i t u x y ht hx1
    rw [toList2 ht, toList2 hx1]
    split at hc
    · rename_i el hu
      simp only [Option.bind_eq_some_iff] at hc
      obtain ⟨inf, hinf, hc⟩ := hc
      split at hc
      · rename_i hpos
        simp only [Option.bind_eq_some_iff, Option.map_eq_some_iff] at hc
        obtain ⟨x', hx', y', hy', rfl⟩ := hc
        exact ok_copy hu hinf hpos hx' hy' hx hr he
      · cases hc
    · cases hc
  · rename_i t x ht hx1
    rw [toList1 ht, toList1 hx1]
    split at hc
    · rename_i el hu
      simp only [Option.bind_eq_some_iff] at hc
      obtain ⟨inf, hinf, z, hz, v, hv, hc⟩ := hc
      split at hc
      · rename_i hcond
        rw [Option.map_eq_some_iff] at hc
        obtain ⟨x', hx', rfl⟩ := hc
        exact ok_clear hu hinf hz hv hcond.1 hcond.2.1 hcond.2.2 hx' hx hr he
      · cases hc
    · cases hc
  · rw [Option.map_eq_some_iff] at hc
    obtain ⟨ys, hys, rfl⟩ := hc
    exact ok_mm (mx := true) hys hx hr he
  · rw [Option.map_eq_some_iff] at hc
    obtain ⟨ys, hys, rfl⟩ := hc
    exact ok_mm (mx := false) hys hx hr he
  · cases hc

/-- No call of a function. -/
def notCall : Op → Bool
  | .call { callee := .value _, .. } => false
  | _ => true

/-- Every operation that is no call of a function. -/
theorem ok_op {op : Op} {own : Bool} {xo : XOp} (hc : compOp P G own op = some xo) (hn : notCall op = true) (hx : xop X C xo e H = some r) (hr : HR G B σ μ H w) (he : ER σ μ e w a) :
    OpOK P op o a w (Post G B σ μ w r) := by
  cases op with
  | move x => exact ok_move hc hx hr he
  | assign x => exact ok_assign hc hx hr he
  | pick c x y => exact ok_pick hc hx hr he
  | alloc t => exact ok_alloc hc hx hr he
  | box t x => exact ok_boxOp hc hx hr he
  | build t ps => exact ok_build hc hx hr he
  | buildSlice t n ps => exact ok_buildSlice hc hx hr he
  | load t x => exact ok_load hc hx hr he
  | store t p x => exact ok_store hc hx hr he
  | nilCheck x => exact ok_nilCheck hc hx hr he
  | binOp op t x y t2 => exact ok_bin hc hx hr he
  | unOp op t x => exact ok_un hc hx hr he
  | convert s d x => exact ok_convert hc hx hr he
  | makeInterface t x => exact ok_mkIface hc hx hr he
  | makeFunc fn f c => exact ok_mkFunc hc hx hr he
  | makeMap t res =>
    cases res with
    | none => simp only [compOp, Option.some.injEq] at hc; subst hc; exact ok_mkMap hx hr he
    | some x => simp [compOp] at hc
  | makeSlice t l c => exact ok_mkSlice hc hx hr he
  | slice t x lo hi mx =>
    cases mx with
    | some m => simp [compOp] at hc
    | none =>
      have hu : P.underlying t = some .string ∨ ∃ el, P.underlying t = some (.slice el) := by
        simp only [compOp, Option.bind_eq_some_iff] at hc
        obtain ⟨_, _, _, _, _, _, hc⟩ := hc
        split at hc
        · rename_i h; exact .inl h
        · rename_i el h; exact .inr ⟨el, h⟩
        · cases hc
      rcases hu with hu | ⟨el, hu⟩
      · exact ok_slice_str hu hc hx hr he
      · exact ok_slice_sl hu hc hx hr he
  | fieldAddr s x k => exact ok_fieldAddr hc hx hr he
  | field s x k => exact ok_field hc hx hr he
  | indexAddr t x i => exact ok_indexAddr hc hx hr he
  | index t x i => exact ok_indexStr hc hx hr he
  | lookup t m k ok => exact ok_lookup hc hx hr he
  | mapUpdate t m k x => exact ok_mapUpdate hc hx hr he
  | extract x i => exact ok_extract hc hx hr he
  | call c =>
    obtain ⟨callee, args, tys⟩ := c
    cases callee with
    | builtin b => exact ok_builtin hc hx hr he
    | value f => simp [notCall] at hn
    | invoke r m => simp [compOp] at hc
  | _ => simp [compOp] at hc
end
end X
end Go.Proofs.YtkaigfcjejabfaaGreatDoor
