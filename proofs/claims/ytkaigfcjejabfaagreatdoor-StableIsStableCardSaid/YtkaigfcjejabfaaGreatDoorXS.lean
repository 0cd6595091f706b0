/- The engine's operations are sound, one by one: slices that are made, appended to and copied. No condition. -/
import Derived.Test.YtkaigfcjejabfaaGreatDoorXT
set_option linter.unusedSimpArgs false
set_option linter.unusedVariables false
namespace Go.Proofs.YtkaigfcjejabfaaGreatDoor
open Go
namespace X

section
variable {P : Program} {G : Nat → Option AV} {w : World} {σ : Nat → Prop} {μ : Mu}
variable {X : Prog} {C : Oracle} {B : Nat} {H : Heap} {e : Env} {a : Act} {o : Oper} {r : AV × Heap}

theorem allSz_mem {sz : Nat} {ys : List AV} (h : allSz sz ys = true) : ∀ e ∈ ys, e.cells.length = sz ∧ e.cells.all AV.storable = true := by
  intro e he
  have := List.all_eq_true.1 h e he
  simp only [Bool.and_eq_true, beq_iff_eq] at this
  exact this

theorem RVs.one {us : List AV} {xs : List Value} (h : RVs w σ μ us xs) (hu : ∀ u ∈ us, u.storable = true) : ∀ v ∈ xs, v.oneCell' = true := by
  intro v hv
  obtain ⟨j, hj, rfl⟩ := List.mem_iff_getElem.1 hv
  have hj' : j < us.length := by rw [h.length]; exact hj
  obtain ⟨q, hq1, hq2⟩ := h.get (List.getElem?_eq_getElem hj')
  rw [List.getElem?_eq_getElem hj] at hq1
  cases hq1
  exact hq2.oneCell (hu _ (List.getElem_mem hj'))

theorem allSz_flat {sz : Nat} {ys : List AV} (h : allSz sz ys = true) : ∀ u ∈ ys.flatMap AV.cells, u.storable = true := by
  intro u hu
  obtain ⟨e0, he0, hu0⟩ := List.mem_flatMap.1 hu
  exact List.all_eq_true.1 (allSz_mem h e0 he0).2 u hu0

theorem flat_bytes : ∀ s : List UInt8, (s.map fun c => AV.int .u8 c.toNat).flatMap AV.cells = s.map fun c => AV.int .u8 c.toNat
  | [] => rfl
  | c :: s => by rw [List.map_cons, List.flatMap_cons, flat_bytes s]; rfl

/-- What is handed to append or copy as a source. -/
theorem src_ok {y : AV} {Y : Value} {ys : List AV} {sz : Nat} (hy : RV w σ μ y Y) (hel : elems H y = some ys) (hsz : allSz sz ys = true) (hr : HR G B σ μ H w) :
    ∃ news, RVs w σ μ (ys.flatMap AV.cells) news ∧ (∀ w' : World, (Builtin.lenOf Y).run P w' = .ok ys.length w') ∧
      ∀ n, n ≤ ys.length → ∀ w' : World, w'.heap = w.heap → (Builtin.firstCells sz n Y).run P w' = .ok (news.take (n * sz)).toArray w' := by
  have hmem := allSz_mem hsz
  have hfl := flat_length fun e h => (hmem e h).1
  have cellsAt : ∀ (rb off : Nat) (c : Array Value) (ty : TypeId) (fz : Nat × Nat) (vs : List Value), w.heap[rb]? = some (.cells c ty fz) → (∀ i, i < vs.length → c[off + i]? = vs[i]?) → vs.length = ys.length * sz →
      ∀ n, n ≤ ys.length → ∀ w' : World, w'.heap = w.heap → (loadCells ⟨rb, off, none⟩ (n * sz)).run P w' = .ok (vs.take (n * sz)).toArray w' := by
    intro rb off c ty fz vs h1 h2 h3 n hn w' hw'
    have hle : n * sz ≤ ys.length * sz := Nat.mul_le_mul_right _ hn
    have hl : (vs.take (n * sz)).length = n * sz := by rw [List.length_take]; omega
    have := run_loadCells_list (P := P) w' ⟨rb, off, none⟩ (vs.take (n * sz)) (fun j v hj => by
      have hjl := (List.getElem?_eq_some_iff.1 hj).1
      rw [hl] at hjl
      rw [List.getElem?_take_of_lt hjl] at hj
      rw [addr_add, cell_of (c := c) (ty := ty) (fz := fz) (by rw [hw']; exact h1), h2 j (by omega), hj])
    rw [hl] at this
    exact this
  unfold elems at hel
  split at hel
  · cases hel
    rw [hy.nilslice_inv]
    exact ⟨[], .nil _, fun w' => by simp [Builtin.lenOf], fun n hn w' _ => by simp [Builtin.firstCells]⟩
  · cases hel
    rcases hy.vslice_inv with ⟨rfl, base, cap, rfl⟩ | ⟨rb, off, c, ty, fz, vs, sz', cap, rfl, g1, g2, g3, g4, g5, g6⟩
    · refine ⟨[], .nil _, fun w' => by simp [Builtin.lenOf], fun n hn w' _ => ?_⟩
      have : n = 0 := by simpa using hn
      subst this
      cases base <;> simp [Builtin.firstCells, loadCells, loadCellsFrom]
    · refine ⟨vs, g5.mono (fun _ h => ⟨h, rfl⟩) (fun _ _ h => by cases h), fun w' => by simp [Builtin.lenOf], fun n hn w' hw' => ?_⟩
      have := cellsAt rb off c ty fz vs g2 g3 (by rw [← g5.length, hfl]) n hn w' hw'
      simpa [Builtin.firstCells] using this
  · rename_i b off len
    split at hel
    · rename_i sz' es hb
      split at hel
      · rename_i hle
        cases hel
        obtain ⟨cap, m, rfl, hm, g1, g2, g3⟩ := hy.slice_inv
        obtain ⟨b1, b2, b3, b4, c, ty, b5, b6, vs, b7, b8⟩ := hr.blk b _ m hb hm
        have hall : ∀ e ∈ es, e.cells.length = sz' := fun e h => (b3 e h).1
        have hlen : ((es.drop off).take len).length = len := by simp; omega
        by_cases h0 : len = 0
        · subst h0
          refine ⟨[], by simpa using RVs.nil μ, fun w' => by simp [Builtin.lenOf], fun n hn w' _ => ?_⟩
          have : n = 0 := by simpa using hn
          subst this
          simp [Builtin.firstCells, loadCells, loadCellsFrom]
        · have hss : sz' = sz := by
            have hlt : off < es.length := by omega
            have hin : es[off] ∈ (es.drop off).take len := by
              rw [List.drop_eq_getElem_cons hlt]
              cases len with
              | zero => exact absurd rfl h0
              | succ n => rw [List.take_succ_cons]; exact List.mem_cons_self
            rw [← hall _ (List.getElem_mem hlt), (hmem _ hin).1]
          subst hss
          have hv2 : RVs w σ μ (((es.drop off).take len).flatMap AV.cells) ((vs.drop (off * sz')).take (len * sz')) := by
            rw [flat_take len (fun e h => hall e (List.mem_of_mem_drop h)), flat_drop off hall]
            exact (b7.drop _).take _
          refine ⟨_, hv2, fun w' => by simp [Builtin.lenOf, hlen], fun n hn w' hw' => ?_⟩
          have hvl := b7.length
          rw [flat_length hall] at hvl
          have := cellsAt m.rb (m.ro + off * m.sz) c ty (0, 0) ((vs.drop (off * sz')).take (len * sz')) b5 (by
            intro i hi
            simp only [List.length_take, List.length_drop] at hi
            rw [Nat.add_assoc, b1, b8 _ (by omega), List.getElem?_take_of_lt (by omega), List.getElem?_drop]) (by rw [← hv2.length, hfl]) n hn w' hw'
          simpa [Builtin.firstCells] using this
      · cases hel
    · cases hel
  · rename_i s
    cases hel
    rw [hy.str_inv]
    refine ⟨s.map fun c => .int .u8 c.toNat, ?_, fun w' => by simp [Builtin.lenOf, bytes_le], fun n hn w' _ => ?_⟩
    · rw [flat_bytes]
      refine RVs.of_get (by simp) ?_
      intro i v x hv hx
      simp only [List.getElem?_map, Option.map_eq_some_iff] at hv hx
      obtain ⟨c, hc, rfl⟩ := hv
      obtain ⟨c', hc', rfl⟩ := hx
      rw [hc] at hc'
      cases hc'
      exact .int _ _ _
    · have h1 : n = 0 ∨ sz = 1 := by
        cases s with
        | nil => left; simpa using hn
        | cons c s => right; have := (hmem (.int .u8 c.toNat) (by simp)).1; simpa [AV.cells] using this.symm
      have key : ((ByteArray.mk s.toArray).extract 0 n).data.map (fun b : UInt8 => Value.int .u8 b.toNat) = ((s.map fun c : UInt8 => Value.int .u8 c.toNat).take n).toArray := by
        apply Array.ext'
        simp [ByteArray.data_extract, List.map_take]
      rcases h1 with rfl | rfl
      · simp only [Builtin.firstCells, Nat.zero_mul, Sem.run_pure, key]
      · simp only [Builtin.firstCells, Nat.mul_one, Sem.run_pure, key]
  · cases hel

theorem append_get {α : Type} {A vs news : List α} {ro k l : Nat} (hA : ∀ i, i < vs.length → A[ro + i]? = vs[i]?) (hv : k + l = vs.length) (hl : ro + k + l + news.length ≤ A.length) (i : Nat) (hi : i < l + news.length) :
    (A.take (ro + k + l) ++ news ++ A.drop (ro + k + l + news.length))[ro + k + i]? = (vs.drop k ++ news)[i]? := by
  have h1 : (A.take (ro + k + l)).length = ro + k + l := by rw [List.length_take]; omega
  have h2 : (vs.drop k).length = l := by rw [List.length_drop]; omega
  simp only [List.append_assoc, List.getElem?_append, h1, h2]
  by_cases a1 : i < l
  · rw [if_pos (by omega), if_pos a1, List.getElem?_take_of_lt (by omega), List.getElem?_drop, Nat.add_assoc]; exact hA _ (by omega)
  · rw [if_neg (by omega), if_neg a1, if_pos (by omega)]
    congr 1; omega

/-- 'append' where there is room. -/
theorem run_append_in {t u el ty : TypeId} {inf : TypeInfo} {d : TypeDesc} (ht : P.underlying t = some (.slice el)) (hu : P.underlying u = some d) (hd : ∀ k, d ≠ .int k) (hi : P.info? el = some inf) {y : Value} {m : Nat} {news : List Value}
    (hl : (Builtin.lenOf y).run P w = .ok m w) (hf : (Builtin.firstCells inf.size m y).run P w = .ok news.toArray w) {g off sLen sCap : Nat} {cur : Array Value} {cty : TypeId} (hg : w.heap[g]? = some (.cells cur cty (0, 0)))
    (h1 : ∀ v ∈ news, v.oneCell' = true) (hroom : sLen + m ≤ sCap) (hfit : off + sLen * inf.size + news.length ≤ cur.size) :
    (Builtin.append_ #[t, u] ty #[.slice (some ⟨g, off, none⟩) sLen sCap, y]).run P w =
      .ok (.slice (some ⟨g, off, none⟩) (sLen + m) sCap) (w.setRow g (cur.toList.take (off + sLen * inf.size) ++ news ++ cur.toList.drop (off + sLen * inf.size + news.length)).toArray) := by
  have hst := run_storeCells_at P g (off + sLen * inf.size) cty news 0 cur w hg (by simpa using hfit) h1
  simp only [Nat.add_zero] at hst
  have hz : (match d with | .int _ => true | _ => false) = false := by cases d <;> first | rfl | exact (hd _ rfl).elim
  simp [Builtin.append_, run_underlying ht, run_underlying hu, hz, sizeOf, typeInfo, hi, hl, hroom, hf, addr_add, hst]

/-- 'append' where there is none: a row of its own. -/
theorem run_append_new {t u el ty : TypeId} {inf : TypeInfo} {d : TypeDesc} {z : Value} (ht : P.underlying t = some (.slice el)) (hu : P.underlying u = some d) (hd : ∀ k, d ≠ .int k) (hi : P.info? el = some inf) (hz : inf.zero = some z)
    {y : Value} {m : Nat} {olds news : List Value} (hl : (Builtin.lenOf y).run P w = .ok m w) {base : Option Addr} {sLen sCap : Nat}
    (hfo : (Builtin.firstCells inf.size sLen (.slice base sLen sCap)).run P w.drew = .ok olds.toArray w.drew) (hf : (Builtin.firstCells inf.size m y).run P w.drew = .ok news.toArray w.drew)
    (hroom : sCap < sLen + m) (hby : (sLen + m) * inf.bytes ≤ 140737488355328) (hb0 : 0 < inf.bytes) :
    (Builtin.append_ #[t, u] ty #[.slice base sLen sCap, y]).run P w =
      .ok (.slice (some ⟨w.heap.size, 0, none⟩) (sLen + m) (grownCap w (sLen + m) sCap el)) (w.drew.alloc (.cells (olds.toArray ++ news.toArray ++ Builtin.zeroCells z.cells (grownCap w (sLen + m) sCap el - (sLen + m))) el)) := by
  have hz' : (match d with | .int _ => true | _ => false) = false := by cases d <;> first | rfl | exact (hd _ rfl).elim
  have hn : ¬ (sLen + m ≤ sCap) := by omega
  have hfit : Builtin.nextslicecap (sLen + m) sCap * inf.bytes ≤ 281474976710656 := growslice_fits hroom hby
  have h48 : ¬ (281474976710656 < Builtin.nextslicecap (sLen + m) sCap * inf.bytes) := by omega
  have hbz : ¬ inf.bytes = 0 := by omega
  simp [Builtin.append_, run_underlying ht, run_underlying hu, hz', sizeOf, typeInfo, zeroValue, hi, hz, hl, hn, h48, hbz, Question.forced, hf, hfo, newRow, grownCap]
  congr 2
  apply Array.ext'
  simp [List.append_assoc]

theorem exec_append {t u : TypeId} {x y : Operand} {v : Value} {w' : World} (h : (Builtin.append_ #[t, u] o.type #[a.eval x, a.eval y]).run P w = .ok v w') :
    (execOp a.eval { o with op := .call { callee := .builtin .append, args := #[x, y], argTypes := #[t, u] } }).run P w = .ok (.value v) w' := by
  rw [exec_builtin]
  have hb : ∀ s, builtin .append #[t, u] o.type s #[a.eval x, a.eval y] = (do pure (.value (← Builtin.append_ #[t, u] o.type #[a.eval x, a.eval y]))) := fun _ => rfl
  simp only [List.map_toArray, List.map_cons, List.map_nil, hb]
  simp [h]

theorem ok_append {t u el : TypeId} {inf : TypeInfo} {d : TypeDesc} {z : Value} (ht : P.underlying t = some (.slice el)) (hu : P.underlying u = some d) (hd : ∀ k, d ≠ .int k) (hi : P.info? el = some inf) (hz : inf.zero = some z)
    (hzs : z.cells.size = inf.size) {x y : Operand} {x' y' : Arg} (hx' : compArg G x = some x') (hy' : compArg G y = some y') (hx : xop X C (.append inf.size inf.bytes x' y') e H = some r) (hr : HR G B σ μ H w) (he : ER σ μ e w a) :
    OpOK P (.call { callee := .builtin .append, args := #[x, y], argTypes := #[t, u] }) o a w (Post G B σ μ w r) := by
  have h1 := RV.arg hr he hx'
  have h2 := RV.arg hr he hy'
  simp only [xop, Option.bind_eq_some_iff] at hx
  obtain ⟨ys, hys, hx⟩ := hx
  unfold appendAV at hx
  split at hx
  · cases hx
  · rename_i hsz
    simp only [Bool.not_eq_true', Bool.not_eq_false] at hsz
    obtain ⟨news, n1, n2, n3⟩ := src_ok (P := P) h2 hys hsz hr
    have hone := n1.one (allSz_flat hsz)
    have hmem := allSz_mem hsz
    have hfl := flat_length fun e h => (hmem e h).1
    have hnl : news.length = ys.length * inf.size := by rw [← n1.length, hfl]
    have htk : news.take (ys.length * inf.size) = news := List.take_of_length_le (by omega)
    have n3w : (Builtin.firstCells inf.size ys.length (a.eval y)).run P w = .ok news.toArray w := by rw [n3 _ (Nat.le_refl _) w rfl, htk]
    have n3d : (Builtin.firstCells inf.size ys.length (a.eval y)).run P w.drew = .ok news.toArray w.drew := by rw [n3 _ (Nat.le_refl _) w.drew rfl, htk]
    split at hx
    · rename_i hp
      rw [hp] at h1
      have h1' := h1.nilslice_inv
      split at hx
      · rename_i h0
        cases hx
        have : news = [] := List.eq_nil_of_length_eq_zero (by rw [hnl, h0]; simp)
        subst this
        refine .quiet (x := .slice none 0 0) hr rfl (exec_append ?_) (hp ▸ RV.nilslice _)
        have hz' : (match d with | .int _ => true | _ => false) = false := by cases d <;> first | rfl | exact (hd _ rfl).elim
        have n2' := n2 w
        rw [h0] at n2' n3w
        rw [h1']
        simp [Builtin.append_, run_underlying ht, run_underlying hu, hz', sizeOf, typeInfo, hi, n2', n3w]
      · rename_i h0
        split at hx
        · rename_i hcond
          cases hx
          have hrun := run_append_new (P := P) (w := w) (ty := o.type) ht hu hd hi hz (n2 w) (base := none) (sLen := 0) (sCap := 0) (olds := []) (news := news) (by simp [Builtin.firstCells]) n3d (by omega) (by rw [Nat.zero_add]; exact hcond.1) hcond.2
          rw [← h1', Nat.zero_add] at hrun
          have hge := grownCap_ge w ys.length 0 el
          generalize grownCap w ys.length 0 el = q at hrun hge
          have hcs : (([] : List Value).toArray ++ news.toArray ++ Builtin.zeroCells z.cells (q - ys.length)).size = q * inf.size := by
            simp only [Array.size_append, List.size_toArray, size_zeroCells, hzs, hnl, List.length_nil, Nat.zero_add, ← Nat.add_mul]
            congr 1; omega
          obtain ⟨g0, s0⟩ := hr.same (w' := w.drew) rfl
          obtain ⟨g1, g2⟩ := g0.row (w' := w.drew.alloc (.cells (([] : List Value).toArray ++ news.toArray ++ Builtin.zeroCells z.cells (q - ys.length)) el)) (sz := inf.size) (es := ys)
            (ty := el) (vs := news) (by simp) (fun b hb => alloc_old _ hb) (alloc_new _) hmem (n1.step s0) (fun i hi => by
              rw [Array.getElem?_append_left (by simp; omega)]; simp) (by rw [hcs]; exact Nat.mul_le_mul_right _ (by omega))
          refine .value (exec_append hrun) ⟨_, _, g1, ?_, s0.trans g2⟩
          have := RV.slice (w := w.drew.alloc (.cells (([] : List Value).toArray ++ news.toArray ++ Builtin.zeroCells z.cells (q - ys.length)) el)) (σ := σ) _ H.length 0 ys.length q _
            (put_new (μ := μ) (H := H) ⟨w.drew.heap.size, 0, inf.size, ys.length, (([] : List Value).toArray ++ news.toArray ++ Builtin.zeroCells z.cells (q - ys.length)).size⟩) (by omega) (by simp only; omega) (by simp only; rw [hcs, Nat.zero_add, Nat.zero_add]; exact Nat.le_refl _)
          simpa using this
        · cases hx
    · rename_i b off len hp
      rw [hp] at h1
      obtain ⟨cap, m, h1', hm, k1, k2, k3⟩ := h1.slice_inv
      split at hx
      · rename_i h0
        cases hx
        have : news = [] := List.eq_nil_of_length_eq_zero (by rw [hnl, h0]; simp)
        subst this
        refine .quiet hr rfl (exec_append (v := .slice (some ⟨m.rb, m.ro + off * m.sz, none⟩) len cap) ?_) (hp ▸ h1' ▸ h1)
        have hz' : (match d with | .int _ => true | _ => false) = false := by cases d <;> first | rfl | exact (hd _ rfl).elim
        have n2' := n2 w
        rw [h0] at n2' n3w
        rw [h1']
        simp [Builtin.append_, run_underlying ht, run_underlying hu, hz', sizeOf, typeInfo, hi, n2', n3w, k1, storeCells]
      · rename_i h0
        split at hx
        · rename_i sz' es hb
          split at hx
          · cases hx
          · rename_i hss
            have hss' : sz' = inf.size := by simpa using hss
            subst hss'
            have hbr := hr.blk b _ m hb hm
            obtain ⟨b1, b2, b3, b4, c, ty, b5, b6, vs, b7, b8⟩ := hbr
            have hall : ∀ e ∈ es, e.cells.length = inf.size := fun e h => (b3 e h).1
            have hvl := b7.length
            rw [flat_length hall] at hvl
            have hown := hr.own b _ m hb trivial hm
            have hnotrb : ∀ c j n, (H.set b .dead)[c]? = some j → j.alive → μ c = some n → n.rb ≠ m.rb := by
              intro c j n hc hj hn e
              by_cases hcb : c = b
              · subst hcb
                rw [List.getElem?_set_self (hr.dom c m hm)] at hc
                cases hc
                exact hj
              · rw [List.getElem?_set_ne (fun e => hcb e.symm)] at hc
                exact hcb (hr.inj c b j _ n m hc hj hb trivial hn hm e)
            have hml : ((es.drop off ++ ys).flatMap AV.cells) = (es.flatMap AV.cells).drop (off * inf.size) ++ ys.flatMap AV.cells := by rw [List.flatMap_append, flat_drop off hall]
            have hes2 : ∀ e ∈ es.drop off ++ ys, e.cells.length = inf.size ∧ e.cells.all AV.storable = true := by
              intro e0 he0
              rcases List.mem_append.1 he0 with h | h
              · exact b3 e0 (List.mem_of_mem_drop h)
              · exact hmem e0 h
            have hcap : m.ro + (off + cap) * inf.size ≤ c.size := by rw [b6, ← b1]; exact k3
            split at hx
            · rename_i hend
              split at hx
              · rename_i hby
                cases hx
                have hl2 : (es.drop off ++ ys).length = len + ys.length := by simp; omega
                have hold : (vs.drop (off * inf.size)).length = len * inf.size := by
                  rw [List.length_drop, ← hvl, ← hend, Nat.add_mul]; omega
                by_cases hroom : len + ys.length ≤ cap
                · -- in place
                  have hfit : m.ro + off * m.sz + len * inf.size + news.length ≤ c.size := by
                    have hm1 : (off + (len + ys.length)) * inf.size ≤ (off + cap) * inf.size := Nat.mul_le_mul_right _ (by omega)
                    rw [hnl, b1]
                    have : (off + (len + ys.length)) * inf.size = off * inf.size + (len * inf.size + ys.length * inf.size) := by rw [Nat.add_mul, Nat.add_mul]
                    omega
                  have hrun := run_append_in (P := P) (w := w) (ty := o.type) ht hu hd hi (n2 w) n3w b5 hone hroom hfit
                  rw [← h1'] at hrun
                  rw [b1] at hrun hfit
                  have hw1 := setRow_heap w m.rb c (c.toList.take (m.ro + off * inf.size + len * inf.size) ++ news ++ c.toList.drop (m.ro + off * inf.size + len * inf.size + news.length)).toArray ty (0, 0) b5
                  have hkl := hr.kill b
                  obtain ⟨g1, g2⟩ := hkl.new (w' := w.setRow m.rb (c.toList.take (m.ro + off * inf.size + len * inf.size) ++ news ++ c.toList.drop (m.ro + off * inf.size + len * inf.size + news.length)).toArray)
                    (k := .arr inf.size (es.drop off ++ ys)) (m := ⟨m.rb, m.ro + off * inf.size, inf.size, len + ys.length, m.csz⟩) (by simp [World.setRow]) hown.1 (by simp [World.setRow]; exact hown.2.1) hown.2.2 hnotrb
                    (fun q _ hq => setRow_other w m.rb q _ hq) (fun hs hmu => by
                      refine ⟨rfl, hl2.symm, hes2, ?_, _, ty, hw1, ?_, vs.drop (off * inf.size) ++ news, ?_, ?_⟩
                      · have : (len + ys.length) * inf.size = len * inf.size + ys.length * inf.size := Nat.add_mul _ _ _
                        show m.ro + off * inf.size + (len + ys.length) * inf.size ≤ m.csz
                        omega
                      · simp; omega
                      · rw [hml]; exact ((b7.drop _).append n1).mono hs hmu
                      · intro i hi
                        simp only [List.length_append, hold] at hi
                        rw [List.getElem?_toArray]
                        show (c.toList.take (m.ro + off * inf.size + len * inf.size) ++ news ++ _)[m.ro + off * inf.size + i]? = _
                        have hA : ∀ j, j < vs.length → c.toList[m.ro + j]? = vs[j]? := fun j hj => by rw [← b8 j hj]; simp
                        have hkl2 : off * inf.size + len * inf.size = vs.length := by rw [← Nat.add_mul, hend, hvl]
                        exact append_get hA hkl2 (by simp only [Array.length_toList]; omega) i hi)
                  refine .value (exec_append hrun) ⟨_, _, by simpa using g1, ?_, g2⟩
                  have := RV.slice (w := w.setRow m.rb (c.toList.take (m.ro + off * inf.size + len * inf.size) ++ news ++ c.toList.drop (m.ro + off * inf.size + len * inf.size + news.length)).toArray) (σ := σ) _ H.length 0 (len + ys.length) cap _
                    (put_new (μ := μ) (H := H) ⟨m.rb, m.ro + off * inf.size, inf.size, len + ys.length, m.csz⟩) hroom (by simp only; omega) (by
                      simp only [Nat.zero_add]
                      have : (off + cap) * inf.size = off * inf.size + cap * inf.size := Nat.add_mul _ _ _
                      omega)
                  simpa using this
                · -- a row of its own
                  have hrun := run_append_new (P := P) (w := w) (ty := o.type) ht hu hd hi hz (n2 w) (base := some ⟨m.rb, m.ro + off * m.sz, none⟩) (sLen := len) (sCap := cap) (olds := vs.drop (off * inf.size)) (news := news) (by
                    have := run_loadCells_list (P := P) w.drew ⟨m.rb, m.ro + off * m.sz, none⟩ (vs.drop (off * inf.size)) (fun j v hj => by
                      rw [World.cell?_drew, addr_add, cell_of (c := c) (ty := ty) (fz := (0, 0)) b5]
                      rw [List.getElem?_drop] at hj
                      rw [b1, Nat.add_assoc, b8 _ (List.getElem?_eq_some_iff.1 hj).1, hj])
                    rw [hold] at this
                    simpa [Builtin.firstCells] using this) n3d (by omega) hby.1 hby.2
                  rw [← h1'] at hrun
                  have hge := grownCap_ge w (len + ys.length) cap el
                  generalize grownCap w (len + ys.length) cap el = q at hrun hge
                  have hcs : ((vs.drop (off * inf.size)).toArray ++ news.toArray ++ Builtin.zeroCells z.cells (q - (len + ys.length))).size = q * inf.size := by
                    simp only [Array.size_append, List.size_toArray, size_zeroCells, hzs, hnl, hold, ← Nat.add_mul]
                    congr 1; omega
                  have hkl := hr.kill b
                  obtain ⟨g0, s0⟩ := hkl.same (w' := w.drew) rfl
                  obtain ⟨g1, g2⟩ := g0.row (w' := w.drew.alloc (.cells ((vs.drop (off * inf.size)).toArray ++ news.toArray ++ Builtin.zeroCells z.cells (q - (len + ys.length))) el)) (sz := inf.size) (es := es.drop off ++ ys)
                    (ty := el) (vs := vs.drop (off * inf.size) ++ news) (by simp) (fun b hb => alloc_old _ hb) (alloc_new _) hes2 (by rw [hml]; exact ((b7.drop _).append n1).step s0) (fun i hi => by
                      rw [Array.getElem?_append_left (by simpa using hi)]; simp) (by rw [hcs, hl2]; exact Nat.mul_le_mul_right _ (by omega))
                  refine .value (exec_append hrun) ⟨_, _, g1, ?_, s0.trans g2⟩
                  have := RV.slice (w := w.drew.alloc (.cells ((vs.drop (off * inf.size)).toArray ++ news.toArray ++ Builtin.zeroCells z.cells (q - (len + ys.length))) el)) (σ := σ) _ (H.set b .dead).length 0 (len + ys.length) q _
                    (put_new (μ := μ) (H := H.set b .dead) ⟨w.drew.heap.size, 0, inf.size, (es.drop off ++ ys).length, ((vs.drop (off * inf.size)).toArray ++ news.toArray ++ Builtin.zeroCells z.cells (q - (len + ys.length))).size⟩) (by omega) (by simp only [hl2]; omega) (by simp only; rw [hcs, Nat.zero_add, Nat.zero_add]; exact Nat.le_refl _)
                  simpa using this
              · cases hx
            · rename_i hend
              split at hx
              · rename_i hin
                cases hx
                have hroom : len + ys.length ≤ cap := by omega
                have hle : (off + len) * inf.size + ys.length * inf.size ≤ es.length * inf.size := by rw [← Nat.add_mul]; exact Nat.mul_le_mul_right _ hin
                have hcs' : m.ro + es.length * inf.size ≤ c.size := by rw [b6, ← b2, ← b1]; exact b4
                have hfit : m.ro + off * m.sz + len * inf.size + news.length ≤ c.size := by
                  rw [hnl, b1]
                  have : (off + len) * inf.size = off * inf.size + len * inf.size := Nat.add_mul _ _ _
                  omega
                have hrun := run_append_in (P := P) (w := w) (ty := o.type) ht hu hd hi (n2 w) n3w b5 hone hroom hfit
                rw [← h1'] at hrun
                rw [b1, show m.ro + off * inf.size + len * inf.size = m.ro + (off + len) * inf.size by rw [Nat.add_mul]; omega] at hrun
                have hw1 := setRow_heap w m.rb c (c.toList.take (m.ro + (off + len) * inf.size) ++ news ++ c.toList.drop (m.ro + (off + len) * inf.size + news.length)).toArray ty (0, 0) b5
                obtain ⟨g1, g2⟩ := hr.upd (w' := w.setRow m.rb (c.toList.take (m.ro + (off + len) * inf.size) ++ news ++ c.toList.drop (m.ro + (off + len) * inf.size + news.length)).toArray) hb trivial hm (by simp [World.setRow])
                  (fun q hq => setRow_other w m.rb q _ hq) (k' := .arr inf.size (es.take (off + len) ++ ys ++ es.drop (off + len + ys.length))) (fun hs => by
                    refine BR.put (hr.blk b _ m hb hm) hs (fun _ _ h => h) b5 (k := (off + len) * inf.size) n1 (by rw [hfl]; exact hle) ?_ (by simp; omega) ?_ hw1
                    · intro q hq
                      simp only [List.mem_append] at hq
                      rcases hq with (h | h) | h
                      · exact b3 q (List.mem_of_mem_take h)
                      · exact hmem q h
                      · exact b3 q (List.mem_of_mem_drop h)
                    · rw [List.flatMap_append, List.flatMap_append, flat_take _ hall, flat_drop _ hall, hfl, Nat.add_mul (off + len)])
                refine .value (exec_append hrun) ⟨_, _, g1, ?_, g2⟩
                have := RV.slice (w := w.setRow m.rb (c.toList.take (m.ro + (off + len) * inf.size) ++ news ++ c.toList.drop (m.ro + (off + len) * inf.size + news.length)).toArray) (σ := σ) μ b off (len + ys.length) cap m hm hroom k2 k3
                rw [b1] at this
                exact this
              · cases hx
        · cases hx
    · cases hx
end
end X
end Go.Proofs.YtkaigfcjejabfaaGreatDoor
