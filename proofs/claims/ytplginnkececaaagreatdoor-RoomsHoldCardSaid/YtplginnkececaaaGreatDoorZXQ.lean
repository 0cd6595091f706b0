/- The engine's operations are sound, one by one: slices that are made, appended to and copied. The engine's operations are sound: slices that are made and copied; every operation but a call. No condition. -/
import Derived.Test.YtplginnkececaaaGreatDoorZXT
set_option linter.unusedSimpArgs false
set_option linter.unusedVariables false
namespace Go.Proofs.YtplginnkececaaaGreatDoor
open Go
namespace X

section
variable {P : Program} {G : Nat → Option AV} {w : World} {σ : Nat → Prop} {μ : Mu}
variable {X : Prog} {C : Oracle} {B : Nat} {H : Heap} {e : Env} {a : Act} {o : Oper} {r : AV × Heap}

theorem allSz_mem {sz : Nat} {ys : List AV} (h : allSz sz ys = true) : ∀ e ∈ ys, e.cells.length = sz ∧ e.cells.all AV.storable = true := by
  intro e he
  have := List.all_eq_true.1 h e he
  simp only [Bool.and_eq_true, beq_iff_eq] at this
  exact this

theorem RVs.one {us : List AV} {xs : List Value} (h : RVs w σ μ us xs) (hu : ∀ u ∈ us, u.storable = true) : ∀ v ∈ xs, v.oneCell' = true := by
  intro v hv
  obtain ⟨j, hj, rfl⟩ := List.mem_iff_getElem.1 hv
  have hj' : j < us.length := by rw [h.length]; exact hj
  obtain ⟨q, hq1, hq2⟩ := h.get (List.getElem?_eq_getElem hj')
  rw [List.getElem?_eq_getElem hj] at hq1
  cases hq1
  exact hq2.oneCell (hu _ (List.getElem_mem hj'))

theorem allSz_flat {sz : Nat} {ys : List AV} (h : allSz sz ys = true) : ∀ u ∈ ys.flatMap AV.cells, u.storable = true := by
  intro u hu
  obtain ⟨e0, he0, hu0⟩ := List.mem_flatMap.1 hu
  exact List.all_eq_true.1 (allSz_mem h e0 he0).2 u hu0

theorem flat_bytes : ∀ s : List UInt8, (s.map fun c => AV.int .u8 c.toNat).flatMap AV.cells = s.map fun c => AV.int .u8 c.toNat
  | [] => rfl
  | c :: s => by rw [List.map_cons, List.flatMap_cons, flat_bytes s]; rfl

theorem src_ok {y : AV} {Y : Value} {ys : List AV} {sz : Nat} (hy : RV w σ μ y Y) (hel : elems H y = some ys) (hsz : allSz sz ys = true) (hr : HR G B σ μ H w) :
    ∃ news, RVs w σ μ (ys.flatMap AV.cells) news ∧ (∀ w' : World, (Builtin.lenOf Y).run P w' = .ok ys.length w') ∧
      ∀ n, n ≤ ys.length → ∀ w' : World, w'.heap = w.heap → (Builtin.firstCells sz n Y).run P w' = .ok (news.take (n * sz)).toArray w' := by
  have hmem := allSz_mem hsz
  have hfl := flat_length fun e h => (hmem e h).1
  have cellsAt : ∀ (rb off : Nat) (c : Array Value) (ty : TypeId) (fz : Nat × Nat) (vs : List Value), w.heap[rb]? = some (.cells c ty fz) → (∀ i, i < vs.length → c[off + i]? = vs[i]?) → vs.length = ys.length * sz →
      ∀ n, n ≤ ys.length → ∀ w' : World, w'.heap = w.heap → (loadCells ⟨rb, off, none⟩ (n * sz)).run P w' = .ok (vs.take (n * sz)).toArray w' := by
    intro rb off c ty fz vs h1 h2 h3 n hn w' hw'
    have hle : n * sz ≤ ys.length * sz := Nat.mul_le_mul_right _ hn
    have hl : (vs.take (n * sz)).length = n * sz := by rw [List.length_take]; omega
    have := run_loadCells_list (P := P) w' ⟨rb, off, none⟩ (vs.take (n * sz)) (fun j v hj => by
      have hjl := (List.getElem?_eq_some_iff.1 hj).1
      rw [hl] at hjl
      rw [List.getElem?_take_of_lt hjl] at hj
      rw [addr_add, cell_of (c := c) (ty := ty) (fz := fz) (by rw [hw']; exact h1), h2 j (by omega), hj])
    rw [hl] at this
    exact this
  unfold elems at hel
  split at hel
  · cases hel
    rw [hy.nilslice_inv]
    exact ⟨[], .nil _, fun w' => by simp [Builtin.lenOf], fun n hn w' _ => by simp [Builtin.firstCells]⟩
  · cases hel
    rcases hy.vslice_inv with ⟨rfl, base, cap, rfl⟩ | ⟨rb, off, c, ty, fz, vs, sz', cap, rfl, g1, g2, g3, g4, g5, g6⟩
    · refine ⟨[], .nil _, fun w' => by simp [Builtin.lenOf], fun n hn w' _ => ?_⟩
      have : n = 0 := by simpa using hn
      subst this
      cases base <;> simp [Builtin.firstCells, loadCells, loadCellsFrom]
    · refine ⟨vs, g5.mono (fun _ h => ⟨h, rfl⟩) (fun _ _ h => by cases h), fun w' => by simp [Builtin.lenOf], fun n hn w' hw' => ?_⟩
      have := cellsAt rb off c ty fz vs g2 g3 (by rw [← g5.length, hfl]) n hn w' hw'
      simpa [Builtin.firstCells] using this
  · rename_i b off len
    split at hel
    · rename_i sz' es hb
      split at hel
      · rename_i hle
        cases hel
        obtain ⟨cap, m, rfl, hm, g1, g2, g3⟩ := hy.slice_inv
        obtain ⟨b1, b2, b3, b4, c, ty, b5, b6, vs, b7, b8⟩ := hr.blk b _ m hb hm
        have hall : ∀ e ∈ es, e.cells.length = sz' := fun e h => (b3 e h).1
        have hlen : ((es.drop off).take len).length = len := by simp; omega
        by_cases h0 : len = 0
        · subst h0
          refine ⟨[], by simpa using RVs.nil μ, fun w' => by simp [Builtin.lenOf], fun n hn w' _ => ?_⟩
          have : n = 0 := by simpa using hn
          subst this
          simp [Builtin.firstCells, loadCells, loadCellsFrom]
        · have hss : sz' = sz := by
            have hlt : off < es.length := by omega
            have hin : es[off] ∈ (es.drop off).take len := by
              rw [List.drop_eq_getElem_cons hlt]
              cases len with
              | zero => exact absurd rfl h0
              | succ n => rw [List.take_succ_cons]; exact List.mem_cons_self
            rw [← hall _ (List.getElem_mem hlt), (hmem _ hin).1]
          subst hss
          have hv2 : RVs w σ μ (((es.drop off).take len).flatMap AV.cells) ((vs.drop (off * sz')).take (len * sz')) := by
            rw [flat_take len (fun e h => hall e (List.mem_of_mem_drop h)), flat_drop off hall]
            exact (b7.drop _).take _
          refine ⟨_, hv2, fun w' => by simp [Builtin.lenOf, hlen], fun n hn w' hw' => ?_⟩
          have hvl := b7.length
          rw [flat_length hall] at hvl
          have := cellsAt m.rb (m.ro + off * m.sz) c ty (0, 0) ((vs.drop (off * sz')).take (len * sz')) b5 (by
            intro i hi
            simp only [List.length_take, List.length_drop] at hi
            rw [Nat.add_assoc, b1, b8 _ (by omega), List.getElem?_take_of_lt (by omega), List.getElem?_drop]) (by rw [← hv2.length, hfl]) n hn w' hw'
          simpa [Builtin.firstCells] using this
      · cases hel
    · cases hel
  · rename_i s
    cases hel
    rw [hy.str_inv]
    refine ⟨s.map fun c => .int .u8 c.toNat, ?_, fun w' => by simp [Builtin.lenOf, bytes_le], fun n hn w' _ => ?_⟩
    · rw [flat_bytes]
      refine RVs.of_get (by simp) ?_
      intro i v x hv hx
      simp only [List.getElem?_map, Option.map_eq_some_iff] at hv hx
      obtain ⟨c, hc, rfl⟩ := hv
      obtain ⟨c', hc', rfl⟩ := hx
      rw [hc] at hc'
      cases hc'
      exact .int _ _ _
    · have h1 : n = 0 ∨ sz = 1 := by
        cases s with
        | nil => left; simpa using hn
        | cons c s => right; have := (hmem (.int .u8 c.toNat) (by simp)).1; simpa [AV.cells] using this.symm
      have key : ((ByteArray.mk s.toArray).extract 0 n).data.map (fun b : UInt8 => Value.int .u8 b.toNat) = ((s.map fun c : UInt8 => Value.int .u8 c.toNat).take n).toArray := by
        apply Array.ext'
        simp [ByteArray.data_extract, List.map_take]
      rcases h1 with rfl | rfl
      · simp only [Builtin.firstCells, Nat.zero_mul, Sem.run_pure, key]
      · simp only [Builtin.firstCells, Nat.mul_one, Sem.run_pure, key]
  · cases hel

theorem append_get {α : Type} {A vs news : List α} {ro k l : Nat} (hA : ∀ i, i < vs.length → A[ro + i]? = vs[i]?) (hv : k + l = vs.length) (hl : ro + k + l + news.length ≤ A.length) (i : Nat) (hi : i < l + news.length) :
    (A.take (ro + k + l) ++ news ++ A.drop (ro + k + l + news.length))[ro + k + i]? = (vs.drop k ++ news)[i]? := by
  have h1 : (A.take (ro + k + l)).length = ro + k + l := by rw [List.length_take]; omega
  have h2 : (vs.drop k).length = l := by rw [List.length_drop]; omega
  simp only [List.append_assoc, List.getElem?_append, h1, h2]
  by_cases a1 : i < l
  · rw [if_pos (by omega), if_pos a1, List.getElem?_take_of_lt (by omega), List.getElem?_drop, Nat.add_assoc]; exact hA _ (by omega)
  · rw [if_neg (by omega), if_neg a1, if_pos (by omega)]
    congr 1; omega

theorem run_append_in {t u el ty : TypeId} {inf : TypeInfo} {d : TypeDesc} (ht : P.underlying t = some (.slice el)) (hu : P.underlying u = some d) (hd : ∀ k, d ≠ .int k) (hi : P.info? el = some inf) {y : Value} {m : Nat} {news : List Value}
    (hl : (Builtin.lenOf y).run P w = .ok m w) (hf : (Builtin.firstCells inf.size m y).run P w = .ok news.toArray w) {g off sLen sCap : Nat} {cur : Array Value} {cty : TypeId} (hg : w.heap[g]? = some (.cells cur cty (0, 0)))
    (h1 : ∀ v ∈ news, v.oneCell' = true) (hroom : sLen + m ≤ sCap) (hfit : off + sLen * inf.size + news.length ≤ cur.size) :
    (Builtin.append_ #[t, u] ty #[.slice (some ⟨g, off, none⟩) sLen sCap, y]).run P w =
      .ok (.slice (some ⟨g, off, none⟩) (sLen + m) sCap) (w.setRow g (cur.toList.take (off + sLen * inf.size) ++ news ++ cur.toList.drop (off + sLen * inf.size + news.length)).toArray) := by
  have hst := run_storeCells_at P g (off + sLen * inf.size) cty news 0 cur w hg (by simpa using hfit) h1
  simp only [Nat.add_zero] at hst
  have hz : (match d with | .int _ => true | _ => false) = false := by cases d <;> first | rfl | exact (hd _ rfl).elim
  simp [Builtin.append_, run_underlying ht, run_underlying hu, hz, sizeOf, typeInfo, hi, hl, hroom, hf, addr_add, hst]

theorem run_append_new {t u el ty : TypeId} {inf : TypeInfo} {d : TypeDesc} {z : Value} (ht : P.underlying t = some (.slice el)) (hu : P.underlying u = some d) (hd : ∀ k, d ≠ .int k) (hi : P.info? el = some inf) (hz : inf.zero = some z)
    {y : Value} {m : Nat} {olds news : List Value} (hl : (Builtin.lenOf y).run P w = .ok m w) {base : Option Addr} {sLen sCap : Nat}
    (hfo : (Builtin.firstCells inf.size sLen (.slice base sLen sCap)).run P w.drew = .ok olds.toArray w.drew) (hf : (Builtin.firstCells inf.size m y).run P w.drew = .ok news.toArray w.drew)
    (hroom : sCap < sLen + m) (hby : (sLen + m) * inf.bytes ≤ 140737488355328) (hb0 : 0 < inf.bytes) :
    (Builtin.append_ #[t, u] ty #[.slice base sLen sCap, y]).run P w =
      .ok (.slice (some ⟨w.heap.size, 0, none⟩) (sLen + m) (grownCap w (sLen + m) sCap el)) (w.drew.alloc (.cells (olds.toArray ++ news.toArray ++ Builtin.zeroCells z.cells (grownCap w (sLen + m) sCap el - (sLen + m))) el)) := by
  have hz' : (match d with | .int _ => true | _ => false) = false := by cases d <;> first | rfl | exact (hd _ rfl).elim
  have hn : ¬ (sLen + m ≤ sCap) := by omega
  have hfit : Builtin.nextslicecap (sLen + m) sCap * inf.bytes ≤ 281474976710656 := growslice_fits hroom hby
  have h48 : ¬ (281474976710656 < Builtin.nextslicecap (sLen + m) sCap * inf.bytes) := by omega
  have hbz : ¬ inf.bytes = 0 := by omega
  simp [Builtin.append_, run_underlying ht, run_underlying hu, hz', sizeOf, typeInfo, zeroValue, hi, hz, hl, hn, h48, hbz, Question.forced, hf, hfo, newRow, grownCap]
  congr 2
  apply Array.ext'
  simp [List.append_assoc]

theorem exec_append {t u : TypeId} {x y : Operand} {v : Value} {w' : World} (h : (Builtin.append_ #[t, u] o.type #[a.eval x, a.eval y]).run P w = .ok v w') :
    (execOp a.eval { o with op := .call { callee := .builtin .append, args := #[x, y], argTypes := #[t, u] } }).run P w = .ok (.value v) w' := by
  rw [exec_builtin]
  have hb : ∀ s, builtin .append #[t, u] o.type s #[a.eval x, a.eval y] = (do pure (.value (← Builtin.append_ #[t, u] o.type #[a.eval x, a.eval y]))) := fun _ => rfl
  simp only [List.map_toArray, List.map_cons, List.map_nil, hb]
  simp [h]

theorem ok_append {t u el : TypeId} {inf : TypeInfo} {d : TypeDesc} {z : Value} (ht : P.underlying t = some (.slice el)) (hu : P.underlying u = some d) (hd : ∀ k, d ≠ .int k) (hi : P.info? el = some inf) (hz : inf.zero = some z)
    (hzs : z.cells.size = inf.size) {x y : Operand} {x' y' : Arg} (hx' : compArg G x = some x') (hy' : compArg G y = some y') (hx : xop X C (.append inf.size inf.bytes x' y') e H = some r) (hr : HR G B σ μ H w) (he : ER σ μ e w a) :
    OpOK P (.call { callee := .builtin .append, args := #[x, y], argTypes := #[t, u] }) o a w (Post G B σ μ w r) := by
  have h1 := RV.arg hr he hx'
  have h2 := RV.arg hr he hy'
  simp only [xop, Option.bind_eq_some_iff] at hx
  obtain ⟨ys, hys, hx⟩ := hx
  unfold appendAV at hx
  split at hx
  · cases hx
  · rename_i hsz
    simp only [Bool.not_eq_true', Bool.not_eq_false] at hsz
    obtain ⟨news, n1, n2, n3⟩ := src_ok (P := P) h2 hys hsz hr
    have hone := n1.one (allSz_flat hsz)
    have hmem := allSz_mem hsz
    have hfl := flat_length fun e h => (hmem e h).1
    have hnl : news.length = ys.length * inf.size := by rw [← n1.length, hfl]
    have htk : news.take (ys.length * inf.size) = news := List.take_of_length_le (by omega)
    have n3w : (Builtin.firstCells inf.size ys.length (a.eval y)).run P w = .ok news.toArray w := by rw [n3 _ (Nat.le_refl _) w rfl, htk]
    have n3d : (Builtin.firstCells inf.size ys.length (a.eval y)).run P w.drew = .ok news.toArray w.drew := by rw [n3 _ (Nat.le_refl _) w.drew rfl, htk]
    split at hx
    · rename_i hp
      rw [hp] at h1
      have h1' := h1.nilslice_inv
      split at hx
      · rename_i h0
        cases hx
        have : news = [] := List.eq_nil_of_length_eq_zero (by rw [hnl, h0]; simp)
        subst this
        refine .quiet (x := .slice none 0 0) hr rfl (exec_append ?_) (hp ▸ RV.nilslice _)
        have hz' : (match d with | .int _ => true | _ => false) = false := by cases d <;> first | rfl | exact (hd _ rfl).elim
        have n2' := n2 w
        rw [h0] at n2' n3w
        rw [h1']
        simp [Builtin.append_, run_underlying ht, run_underlying hu, hz', sizeOf, typeInfo, hi, n2', n3w]
      · rename_i h0
        split at hx
        · rename_i hcond
          cases hx
          have hrun := run_append_new (P := P) (w := w) (ty := o.type) ht hu hd hi hz (n2 w) (base := none) (sLen := 0) (sCap := 0) (olds := []) (news := news) (by simp [Builtin.firstCells]) n3d (by omega) (by rw [Nat.zero_add]; exact hcond.1) hcond.2
          rw [← h1', Nat.zero_add] at hrun
          have hge := grownCap_ge w ys.length 0 el
          generalize grownCap w ys.length 0 el = q at hrun hge
          have hcs : (([] : List Value).toArray ++ news.toArray ++ Builtin.zeroCells z.cells (q - ys.length)).size = q * inf.size := by
            simp only [Array.size_append, List.size_toArray, size_zeroCells, hzs, hnl, List.length_nil, Nat.zero_add, ← Nat.add_mul]
            congr 1; omega
          obtain ⟨g0, s0⟩ := hr.same (w' := w.drew) rfl
          obtain ⟨g1, g2⟩ := g0.row (w' := w.drew.alloc (.cells (([] : List Value).toArray ++ news.toArray ++ Builtin.zeroCells z.cells (q - ys.length)) el)) (sz := inf.size) (es := ys)
            (ty := el) (vs := news) (by simp) (fun b hb => alloc_old _ hb) (alloc_new _) hmem (n1.step s0) (fun i hi => by
              rw [Array.getElem?_append_left (by simp; omega)]; simp) (by rw [hcs]; exact Nat.mul_le_mul_right _ (by omega))
          refine .value (exec_append hrun) ⟨_, _, g1, ?_, s0.trans g2⟩
          have := RV.slice (w := w.drew.alloc (.cells (([] : List Value).toArray ++ news.toArray ++ Builtin.zeroCells z.cells (q - ys.length)) el)) (σ := σ) _ H.length 0 ys.length q _
            (put_new (μ := μ) (H := H) ⟨w.drew.heap.size, 0, inf.size, ys.length, (([] : List Value).toArray ++ news.toArray ++ Builtin.zeroCells z.cells (q - ys.length)).size⟩) (by omega) (by simp only; omega) (by simp only; rw [hcs, Nat.zero_add, Nat.zero_add]; exact Nat.le_refl _)
          simpa using this
        · cases hx
    · rename_i b off len hp
      rw [hp] at h1
      obtain ⟨cap, m, h1', hm, k1, k2, k3⟩ := h1.slice_inv
      split at hx
      · rename_i h0
        cases hx
        have : news = [] := List.eq_nil_of_length_eq_zero (by rw [hnl, h0]; simp)
        subst this
        refine .quiet hr rfl (exec_append (v := .slice (some ⟨m.rb, m.ro + off * m.sz, none⟩) len cap) ?_) (hp ▸ h1' ▸ h1)
        have hz' : (match d with | .int _ => true | _ => false) = false := by cases d <;> first | rfl | exact (hd _ rfl).elim
        have n2' := n2 w
        rw [h0] at n2' n3w
        rw [h1']
        simp [Builtin.append_, run_underlying ht, run_underlying hu, hz', sizeOf, typeInfo, hi, n2', n3w, k1, storeCells]
      · rename_i h0
        split at hx
        · rename_i sz' es hb
          split at hx
          · cases hx
          · rename_i hss
            have hss' : sz' = inf.size := by simpa using hss
            subst hss'
            have hbr := hr.blk b _ m hb hm
            obtain ⟨b1, b2, b3, b4, c, ty, b5, b6, vs, b7, b8⟩ := hbr
            have hall : ∀ e ∈ es, e.cells.length = inf.size := fun e h => (b3 e h).1
            have hvl := b7.length
            rw [flat_length hall] at hvl
            have hown := hr.own b _ m hb trivial hm
            have hnotrb : ∀ c j n, (H.set b .dead)[c]? = some j → j.alive → μ c = some n → n.rb ≠ m.rb := by
              intro c j n hc hj hn e
              by_cases hcb : c = b
              · subst hcb
                rw [List.getElem?_set_self (hr.dom c m hm)] at hc
                cases hc
                exact hj
              · rw [List.getElem?_set_ne (fun e => hcb e.symm)] at hc
                exact hcb (hr.inj c b j _ n m hc hj hb trivial hn hm e)
            have hml : ((es.drop off ++ ys).flatMap AV.cells) = (es.flatMap AV.cells).drop (off * inf.size) ++ ys.flatMap AV.cells := by rw [List.flatMap_append, flat_drop off hall]
            have hes2 : ∀ e ∈ es.drop off ++ ys, e.cells.length = inf.size ∧ e.cells.all AV.storable = true := by
              intro e0 he0
              rcases List.mem_append.1 he0 with h | h
              · exact b3 e0 (List.mem_of_mem_drop h)
              · exact hmem e0 h
            have hcap : m.ro + (off + cap) * inf.size ≤ c.size := by rw [b6, ← b1]; exact k3
            split at hx
            · rename_i hend
              split at hx
              · rename_i hby
                cases hx
                have hl2 : (es.drop off ++ ys).length = len + ys.length := by simp; omega
                have hold : (vs.drop (off * inf.size)).length = len * inf.size := by
                  rw [List.length_drop, ← hvl, ← hend, Nat.add_mul]; omega
                by_cases hroom : len + ys.length ≤ cap
                · -- in place
                  have hfit : m.ro + off * m.sz + len * inf.size + news.length ≤ c.size := by
                    have hm1 : (off + (len + ys.length)) * inf.size ≤ (off + cap) * inf.size := Nat.mul_le_mul_right _ (by omega)
                    rw [hnl, b1]
                    have : (off + (len + ys.length)) * inf.size = off * inf.size + (len * inf.size + ys.length * inf.size) := by rw [Nat.add_mul, Nat.add_mul]
                    omega
                  have hrun := run_append_in (P := P) (w := w) (ty := o.type) ht hu hd hi (n2 w) n3w b5 hone hroom hfit
                  rw [← h1'] at hrun
                  rw [b1] at hrun hfit
                  have hw1 := setRow_heap w m.rb c (c.toList.take (m.ro + off * inf.size + len * inf.size) ++ news ++ c.toList.drop (m.ro + off * inf.size + len * inf.size + news.length)).toArray ty (0, 0) b5
                  have hkl := hr.kill b
                  obtain ⟨g1, g2⟩ := hkl.new (w' := w.setRow m.rb (c.toList.take (m.ro + off * inf.size + len * inf.size) ++ news ++ c.toList.drop (m.ro + off * inf.size + len * inf.size + news.length)).toArray)
                    (k := .arr inf.size (es.drop off ++ ys)) (m := ⟨m.rb, m.ro + off * inf.size, inf.size, len + ys.length, m.csz⟩) (by simp [World.setRow]) hown.1 (by simp [World.setRow]; exact hown.2.1) hown.2.2 hnotrb
                    (fun q _ hq => setRow_other w m.rb q _ hq) (fun hs hmu => by
                      refine ⟨rfl, hl2.symm, hes2, ?_, _, ty, hw1, ?_, vs.drop (off * inf.size) ++ news, ?_, ?_⟩
                      · have : (len + ys.length) * inf.size = len * inf.size + ys.length * inf.size := Nat.add_mul _ _ _
                        show m.ro + off * inf.size + (len + ys.length) * inf.size ≤ m.csz
                        omega
                      · simp; omega
                      · rw [hml]; exact ((b7.drop _).append n1).mono hs hmu
                      · intro i hi
                        simp only [List.length_append, hold] at hi
                        rw [List.getElem?_toArray]
                        show (c.toList.take (m.ro + off * inf.size + len * inf.size) ++ news ++ _)[m.ro + off * inf.size + i]? = _
                        have hA : ∀ j, j < vs.length → c.toList[m.ro + j]? = vs[j]? := fun j hj => by rw [← b8 j hj]; simp
                        have hkl2 : off * inf.size + len * inf.size = vs.length := by rw [← Nat.add_mul, hend, hvl]
                        exact append_get hA hkl2 (by simp only [Array.length_toList]; omega) i hi)
                  refine .value (exec_append hrun) ⟨_, _, by simpa using g1, ?_, g2⟩
                  have := RV.slice (w := w.setRow m.rb (c.toList.take (m.ro + off * inf.size + len * inf.size) ++ news ++ c.toList.drop (m.ro + off * inf.size + len * inf.size + news.length)).toArray) (σ := σ) _ H.length 0 (len + ys.length) cap _
                    (put_new (μ := μ) (H := H) ⟨m.rb, m.ro + off * inf.size, inf.size, len + ys.length, m.csz⟩) hroom (by simp only; omega) (by
                      simp only [Nat.zero_add]
                      have : (off + cap) * inf.size = off * inf.size + cap * inf.size := Nat.add_mul _ _ _
                      omega)
                  simpa using this
                · -- a row of its own
                  have hrun := run_append_new (P := P) (w := w) (ty := o.type) ht hu hd hi hz (n2 w) (base := some ⟨m.rb, m.ro + off * m.sz, none⟩) (sLen := len) (sCap := cap) (olds := vs.drop (off * inf.size)) (news := news) (by
                    have := run_loadCells_list (P := P) w.drew ⟨m.rb, m.ro + off * m.sz, none⟩ (vs.drop (off * inf.size)) (fun j v hj => by
                      rw [World.cell?_drew, addr_add, cell_of (c := c) (ty := ty) (fz := (0, 0)) b5]
                      rw [List.getElem?_drop] at hj
                      rw [b1, Nat.add_assoc, b8 _ (List.getElem?_eq_some_iff.1 hj).1, hj])
                    rw [hold] at this
                    simpa [Builtin.firstCells] using this) n3d (by omega) hby.1 hby.2
                  rw [← h1'] at hrun
                  have hge := grownCap_ge w (len + ys.length) cap el
                  generalize grownCap w (len + ys.length) cap el = q at hrun hge
                  have hcs : ((vs.drop (off * inf.size)).toArray ++ news.toArray ++ Builtin.zeroCells z.cells (q - (len + ys.length))).size = q * inf.size := by
                    simp only [Array.size_append, List.size_toArray, size_zeroCells, hzs, hnl, hold, ← Nat.add_mul]
                    congr 1; omega
                  have hkl := hr.kill b
                  obtain ⟨g0, s0⟩ := hkl.same (w' := w.drew) rfl
                  obtain ⟨g1, g2⟩ := g0.row (w' := w.drew.alloc (.cells ((vs.drop (off * inf.size)).toArray ++ news.toArray ++ Builtin.zeroCells z.cells (q - (len + ys.length))) el)) (sz := inf.size) (es := es.drop off ++ ys)
                    (ty := el) (vs := vs.drop (off * inf.size) ++ news) (by simp) (fun b hb => alloc_old _ hb) (alloc_new _) hes2 (by rw [hml]; exact ((b7.drop _).append n1).step s0) (fun i hi => by
                      rw [Array.getElem?_append_left (by simpa using hi)]; simp) (by rw [hcs, hl2]; exact Nat.mul_le_mul_right _ (by omega))
                  refine .value (exec_append hrun) ⟨_, _, g1, ?_, s0.trans g2⟩
                  have := RV.slice (w := w.drew.alloc (.cells ((vs.drop (off * inf.size)).toArray ++ news.toArray ++ Builtin.zeroCells z.cells (q - (len + ys.length))) el)) (σ := σ) _ (H.set b .dead).length 0 (len + ys.length) q _
                    (put_new (μ := μ) (H := H.set b .dead) ⟨w.drew.heap.size, 0, inf.size, (es.drop off ++ ys).length, ((vs.drop (off * inf.size)).toArray ++ news.toArray ++ Builtin.zeroCells z.cells (q - (len + ys.length))).size⟩) (by omega) (by simp only [hl2]; omega) (by simp only; rw [hcs, Nat.zero_add, Nat.zero_add]; exact Nat.le_refl _)
                  simpa using this
              · cases hx
            · rename_i hend
              split at hx
              · rename_i hin
                cases hx
                have hroom : len + ys.length ≤ cap := by omega
                have hle : (off + len) * inf.size + ys.length * inf.size ≤ es.length * inf.size := by rw [← Nat.add_mul]; exact Nat.mul_le_mul_right _ hin
                have hcs' : m.ro + es.length * inf.size ≤ c.size := by rw [b6, ← b2, ← b1]; exact b4
                have hfit : m.ro + off * m.sz + len * inf.size + news.length ≤ c.size := by
                  rw [hnl, b1]
                  have : (off + len) * inf.size = off * inf.size + len * inf.size := Nat.add_mul _ _ _
                  omega
                have hrun := run_append_in (P := P) (w := w) (ty := o.type) ht hu hd hi (n2 w) n3w b5 hone hroom hfit
                rw [← h1'] at hrun
                rw [b1, show m.ro + off * inf.size + len * inf.size = m.ro + (off + len) * inf.size by rw [Nat.add_mul]; omega] at hrun
                have hw1 := setRow_heap w m.rb c (c.toList.take (m.ro + (off + len) * inf.size) ++ news ++ c.toList.drop (m.ro + (off + len) * inf.size + news.length)).toArray ty (0, 0) b5
                obtain ⟨g1, g2⟩ := hr.upd (w' := w.setRow m.rb (c.toList.take (m.ro + (off + len) * inf.size) ++ news ++ c.toList.drop (m.ro + (off + len) * inf.size + news.length)).toArray) hb trivial hm (by simp [World.setRow])
                  (fun q hq => setRow_other w m.rb q _ hq) (k' := .arr inf.size (es.take (off + len) ++ ys ++ es.drop (off + len + ys.length))) (fun hs => by
                    refine BR.put (hr.blk b _ m hb hm) hs (fun _ _ h => h) b5 (k := (off + len) * inf.size) n1 (by rw [hfl]; exact hle) ?_ (by simp; omega) ?_ hw1
                    · intro q hq
                      simp only [List.mem_append] at hq
                      rcases hq with (h | h) | h
                      · exact b3 q (List.mem_of_mem_take h)
                      · exact hmem q h
                      · exact b3 q (List.mem_of_mem_drop h)
                    · rw [List.flatMap_append, List.flatMap_append, flat_take _ hall, flat_drop _ hall, hfl, Nat.add_mul (off + len)])
                refine .value (exec_append hrun) ⟨_, _, g1, ?_, g2⟩
                have := RV.slice (w := w.setRow m.rb (c.toList.take (m.ro + (off + len) * inf.size) ++ news ++ c.toList.drop (m.ro + (off + len) * inf.size + news.length)).toArray) (σ := σ) μ b off (len + ys.length) cap m hm hroom k2 k3
                rw [b1] at this
                exact this
              · cases hx
        · cases hx
    · cases hx
end
end X
end Go.Proofs.YtplginnkececaaaGreatDoor

set_option linter.unusedSimpArgs false
set_option linter.unusedVariables false
namespace Go.Proofs.YtplginnkececaaaGreatDoor
open Go
namespace X

section
variable {P : Program} {G : Nat → Option AV} {w : World} {σ : Nat → Prop} {μ : Mu}
variable {X : Prog} {C : Oracle} {B : Nat} {H : Heap} {e : Env} {a : Act} {o : Oper} {r : AV × Heap}

theorem ok_mkSlice {t : TypeId} {l c : Operand} {own : Bool} {xo : XOp} (hc : compOp P G own (.makeSlice t l c) = some xo) (hx : xop X C xo e H = some r) (hr : HR G B σ μ H w) (he : ER σ μ e w a) :
    OpOK P (.makeSlice t l c) o a w (Post G B σ μ w r) := by
  simp only [compOp] at hc
  split at hc
  · rename_i el hu
    simp only [Option.bind_eq_some_iff] at hc
    obtain ⟨inf, hinf, z, hz, v, hv, hc⟩ := hc
    split at hc
    · rename_i hcond
      obtain ⟨c1, c2, c3⟩ := hcond
      simp only [Option.bind_eq_some_iff, Option.map_eq_some_iff] at hc
      obtain ⟨l', hl', c', hc', rfl⟩ := hc
      simp only [xop, Option.bind_eq_some_iff] at hx
      obtain ⟨nl, hnl, nc, hnc, hx⟩ := hx
      split at hx
      · rename_i hb
        cases hx
        obtain ⟨d1, d2, d3⟩ := hb
        obtain ⟨kl, el1⟩ := RV.nat (RV.arg hr he hl') hnl
        obtain ⟨kc, el2⟩ := RV.nat (RV.arg hr he hc') hnc
        have hvz := RV.ofValue (w := w) (σ := σ) (μ := μ) hv
        have hcs := hvz.cellsOf c2
        have hz0 := zeros_ok (n := nc) hcs c1 c3
        have hrun := run_make (P := P) w t el inf z hu hinf hz kl kc nl nc (by omega) (by omega) (by rw [Int.mul_comm, ← Int.natCast_mul]; omega) (by omega)
        rw [← el1, ← el2] at hrun
        simp only [Int.toNat_natCast] at hrun
        have hsz : (madeCells z.cells (nc * inf.size)).size = nc * inf.size := size_madeCells _ _
        obtain ⟨g1, g2⟩ := hr.row (w' := w.alloc (.cells (madeCells z.cells (nc * inf.size)) el)) (sz := inf.size) (es := List.replicate nc v) (c := madeCells z.cells (nc * inf.size)) (ty := el) (vs := (madeCells z.cells (nc * inf.size)).toList)
          (by simp) (fun b hb => alloc_old _ hb) (alloc_new _) (fun q hq => by rw [List.eq_of_mem_replicate hq]; exact ⟨c1, c2⟩) (by unfold madeCells; exact hz0) (fun i hi => by simp) (by rw [hsz]; simp)
        refine .value (x := .slice (some ⟨w.heap.size, 0, none⟩) nl nc) (w' := w.alloc (.cells (madeCells z.cells (nc * inf.size)) el)) ?_ ⟨_, _, g1, ?_, g2⟩
        · simp only [execOp, Sem.run_bind, hrun, Result.andThen_ok, Sem.run_pure]
        · have := RV.slice (w := w.alloc (.cells (madeCells z.cells (nc * inf.size)) el)) (σ := σ) _ H.length 0 nl nc _ (put_new (μ := μ) (H := H) ⟨w.heap.size, 0, inf.size, (List.replicate nc v).length, (madeCells z.cells (nc * inf.size)).size⟩) d1 (by simp) (by show 0 + (0 + nc) * inf.size ≤ (madeCells z.cells (nc * inf.size)).size; rw [hsz]; simp)
          simpa using this
      · cases hx
    · cases hc
  · cases hc

theorem ok_copy {t u el : TypeId} {inf : TypeInfo} (ht : P.underlying t = some (.slice el)) (hi : P.info? el = some inf) (h0 : 0 < inf.size) {x y : Operand} {x' y' : Arg} (hx' : compArg G x = some x') (hy' : compArg G y = some y')
    (hx : xop X C (.copy inf.size x' y') e H = some r) (hr : HR G B σ μ H w) (he : ER σ μ e w a) : OpOK P (.call { callee := .builtin .copy, args := #[x, y], argTypes := #[t, u] }) o a w (Post G B σ μ w r) := by
  have h1 := RV.arg hr he hx'
  have h2 := RV.arg hr he hy'
  have hexec : ∀ {v : Value} {w' : World}, (Builtin.copy_ #[t, u] o.type #[a.eval x, a.eval y]).run P w = .ok v w' →
      (execOp a.eval { o with op := .call { callee := .builtin .copy, args := #[x, y], argTypes := #[t, u] } }).run P w = .ok (.value v) w' := by
    intro v w' h
    rw [exec_builtin]
    have hb : ∀ s, builtin .copy #[t, u] o.type s #[a.eval x, a.eval y] = (do pure (.value (← Builtin.copy_ #[t, u] o.type #[a.eval x, a.eval y]))) := fun _ => rfl
    simp only [List.map_toArray, List.map_cons, List.map_nil, hb]
    simp [h]
  simp only [xop, Option.bind_eq_some_iff] at hx
  obtain ⟨ys, hys, hx⟩ := hx
  unfold copyAV at hx
  split at hx
  · cases hx
  · rename_i hsz
    simp only [Bool.not_eq_true', Bool.not_eq_false] at hsz
    obtain ⟨news, n1, n2, n3⟩ := src_ok (P := P) h2 hys hsz hr
    have hone := n1.one (allSz_flat hsz)
    have hmem := allSz_mem hsz
    have hall2 : ∀ e ∈ ys, e.cells.length = inf.size := fun e h => (hmem e h).1
    have hfl := flat_length hall2
    have hnl : news.length = ys.length * inf.size := by rw [← n1.length, hfl]
    split at hx
    · rename_i hp
      cases hx
      rw [hp] at h1
      have n30 := n3 0 (by omega) w rfl
      refine .quiet (x := .int .i64 0) hr rfl (hexec ?_) (.int _ _ _)
      rw [h1.nilslice_inv]
      simp [Builtin.copy_, run_underlying ht, n2 w, sizeOf, typeInfo, hi, n30, goInt]
    · rename_i b off len hp
      rw [hp] at h1
      obtain ⟨cap, m, h1', hm, k1, k2, k3⟩ := h1.slice_inv
      split at hx
      · rename_i sz' es hb
        split at hx
        · rename_i hcond
          cases hx
          obtain ⟨hss, hle⟩ := hcond
          subst hss
          obtain ⟨b1, b2, b3, b4, c, ty, b5, b6, vs, b7, b8⟩ := hr.blk b _ m hb hm
          have hall : ∀ e ∈ es, e.cells.length = inf.size := fun e h => (b3 e h).1
          have hq : (ys.take len).length = min ys.length len := by rw [List.length_take, Nat.min_comm]
          have n3n := n3 (min ys.length len) (by omega) w rfl
          have hn2 : RVs w σ μ ((ys.take len).flatMap AV.cells) (news.take (min ys.length len * inf.size)) := by
            have : ys.take len = ys.take (min ys.length len) := by rw [List.take_eq_take_iff]; omega
            rw [this, flat_take _ hall2]; exact n1.take _
          have hfl2 := flat_length fun e h => hall2 e (List.mem_of_mem_take (i := len) h)
          rw [hq] at hfl2
          have hl2 : (news.take (min ys.length len * inf.size)).length = min ys.length len * inf.size := by rw [← hn2.length, hfl2]
          have hcs' : m.ro + es.length * inf.size ≤ c.size := by rw [b6, ← b2, ← b1]; exact b4
          have hmul : off * inf.size + min ys.length len * inf.size ≤ es.length * inf.size := by rw [← Nat.add_mul]; exact Nat.mul_le_mul_right _ (by omega)
          have hst := run_storeCells_at P m.rb (m.ro + off * inf.size) ty (news.take (min ys.length len * inf.size)) 0 c w b5 (by omega) (fun v hv => hone v (List.mem_of_mem_take hv))
          simp only [Nat.add_zero] at hst
          have hw1 := setRow_heap w m.rb c (c.toList.take (m.ro + off * inf.size) ++ news.take (min ys.length len * inf.size) ++ c.toList.drop (m.ro + off * inf.size + (news.take (min ys.length len * inf.size)).length)).toArray ty (0, 0) b5
          obtain ⟨g1, g2⟩ := hr.upd (w' := w.setRow m.rb (c.toList.take (m.ro + off * inf.size) ++ news.take (min ys.length len * inf.size) ++ c.toList.drop (m.ro + off * inf.size + (news.take (min ys.length len * inf.size)).length)).toArray) hb trivial hm
            (by simp [World.setRow]) (fun q hq => setRow_other w m.rb q _ hq) (k' := .arr inf.size (es.take off ++ ys.take len ++ es.drop (off + min ys.length len))) (fun hs => by
              refine BR.put (hr.blk b _ m hb hm) hs (fun _ _ h => h) b5 (k := off * inf.size) hn2 (by rw [hfl2]; exact hmul) ?_ (by simp; omega) ?_ hw1
              · intro q hq
                simp only [List.mem_append] at hq
                rcases hq with (h | h) | h
                · exact b3 q (List.mem_of_mem_take h)
                · exact hmem q (List.mem_of_mem_take h)
                · exact b3 q (List.mem_of_mem_drop h)
              · rw [List.flatMap_append, List.flatMap_append, flat_take off hall, flat_drop _ hall, hfl2, Nat.add_mul off])
          refine .value (x := .int .i64 (min ys.length len : Nat)) (hexec ?_) ⟨_, _, g1, .int _ _ _, g2⟩
          rw [h1']
          have hmin : Nat.min ys.length len = min ys.length len := rfl
          simp only [Builtin.copy_, List.getElem?_toArray, List.getElem?_cons_zero, List.getElem?_cons_succ, Sem.run_bind, run_underlying ht, Result.andThen_ok, n2 w, sizeOf, typeInfo, run_program, hi, Sem.run_pure, hmin, n3n, b1, hst, goInt]
        · cases hx
      · cases hx
    · cases hx

theorem ok_clear {t el : TypeId} {inf : TypeInfo} {z : Value} {v : AV} (ht : P.underlying t = some (.slice el)) (hi : P.info? el = some inf) (hz : inf.zero = some z) (hv : ofValue z = some v) (hc1 : v.cells.length = inf.size) (hc2 : v.cells.all AV.storable = true) (h0 : 0 < inf.size)
    {x : Operand} {x' : Arg} (hx' : compArg G x = some x')
    (hx : xop X C (.clear inf.size v x') e H = some r) (hr : HR G B σ μ H w) (he : ER σ μ e w a) : OpOK P (.call { callee := .builtin .clear, args := #[x], argTypes := #[t] }) o a w (Post G B σ μ w r) := by
  have h1 := RV.arg hr he hx'
  have hexec : ∀ {v : Value} {w' : World}, (Builtin.clear_ #[t] o.type #[a.eval x]).run P w = .ok v w' →
      (execOp a.eval { o with op := .call { callee := .builtin .clear, args := #[x], argTypes := #[t] } }).run P w = .ok (.value v) w' := by
    intro v w' h
    rw [exec_builtin]
    have hb : ∀ s, builtin .clear #[t] o.type s #[a.eval x] = (do pure (.value (← Builtin.clear_ #[t] o.type #[a.eval x]))) := fun s => rfl
    simp only [List.map_toArray, List.map_cons, List.map_nil, hb]
    simp [h]
  simp only [xop, Option.map_eq_some_iff] at hx
  obtain ⟨H', hx, rfl⟩ := hx
  unfold clearAV at hx
  have hu : RV w σ μ (.tuple []) (.tuple #[]) := .tuple _ _ [] (.nil _)
  split at hx
  · rename_i hp
    cases hx
    rw [hp] at h1
    refine .quiet (x := .tuple #[]) hr rfl (hexec ?_) hu
    rw [h1.nilslice_inv]
    simp [Builtin.clear_, run_underlying ht]
  · rename_i b off len hp
    rw [hp] at h1
    obtain ⟨cap, m, h1', hm, k1, k2, k3⟩ := h1.slice_inv
    split at hx
    · rename_i hl
      cases hx
      subst hl
      refine .quiet (x := .tuple #[]) hr rfl (hexec ?_) hu
      rw [h1']
      simp [Builtin.clear_, run_underlying ht]
    · rename_i hl
      split at hx
      · rename_i sz' es hb
        split at hx
        · rename_i hcond
          cases hx
          obtain ⟨hss, hle⟩ := hcond
          subst hss
          obtain ⟨b1, b2, b3, b4, c, ty, b5, b6, vs, b7, b8⟩ := hr.blk b _ m hb hm
          have hall : ∀ e ∈ es, e.cells.length = inf.size := fun e h => (b3 e h).1
          have hvz := RV.ofValue (w := w) (σ := σ) (μ := μ) hv
          have hcs := hvz.cellsOf hc2
          have hz0 := zeros_ok (n := len) hcs hc1 h0
          have hzl : z.cells.size = inf.size := by have := hcs.length; rw [hc1] at this; simpa using this.symm
          have hn2 : RVs w σ μ ((List.replicate len v).flatMap AV.cells) (Builtin.zeroCells z.cells len).toList := by
            have hr0 := hz0
            rw [hzl] at hr0
            unfold Builtin.zeroCells
            rw [hzl]
            exact hr0
          have hone : ∀ v ∈ (Builtin.zeroCells z.cells len).toList, v.oneCell' = true := hn2.one (by
            intro q hq
            obtain ⟨p, hp1, hp2⟩ := List.mem_flatMap.1 hq
            rw [List.eq_of_mem_replicate hp1] at hp2
            exact List.all_eq_true.1 hc2 q hp2)
          have hfl2 : ((List.replicate len v).flatMap AV.cells).length = len * inf.size := by
            have := flat_length (es := List.replicate len v) (sz := inf.size) fun e h => by rw [List.eq_of_mem_replicate h]; exact hc1
            simpa using this
          have hl2 : (Builtin.zeroCells z.cells len).toList.length = len * inf.size := by rw [← hn2.length, hfl2]
          have hcs' : m.ro + es.length * inf.size ≤ c.size := by rw [b6, ← b2, ← b1]; exact b4
          have hmul : off * inf.size + len * inf.size ≤ es.length * inf.size := by rw [← Nat.add_mul]; exact Nat.mul_le_mul_right _ hle
          have hst := run_storeCells_at P m.rb (m.ro + off * inf.size) ty (Builtin.zeroCells z.cells len).toList 0 c w b5 (by omega) (fun v hv => hone v hv)
          simp only [Nat.add_zero] at hst
          have hw1 := setRow_heap w m.rb c (c.toList.take (m.ro + off * inf.size) ++ (Builtin.zeroCells z.cells len).toList ++ c.toList.drop (m.ro + off * inf.size + (Builtin.zeroCells z.cells len).toList.length)).toArray ty (0, 0) b5
          obtain ⟨g1, g2⟩ := hr.upd (w' := w.setRow m.rb (c.toList.take (m.ro + off * inf.size) ++ (Builtin.zeroCells z.cells len).toList ++ c.toList.drop (m.ro + off * inf.size + (Builtin.zeroCells z.cells len).toList.length)).toArray) hb trivial hm
            (by simp [World.setRow]) (fun q hq => setRow_other w m.rb q _ hq) (k' := .arr inf.size (es.take off ++ List.replicate len v ++ es.drop (off + len))) (fun hs => by
              refine BR.put (hr.blk b _ m hb hm) hs (fun _ _ h => h) b5 (k := off * inf.size) hn2 (by rw [hfl2]; exact hmul) ?_ (by simp; omega) ?_ hw1
              · intro q hq
                simp only [List.mem_append] at hq
                rcases hq with (h | h) | h
                · exact b3 q (List.mem_of_mem_take h)
                · rw [List.eq_of_mem_replicate h]; exact ⟨hc1, hc2⟩
                · exact b3 q (List.mem_of_mem_drop h)
              · rw [List.flatMap_append, List.flatMap_append, flat_take off hall, flat_drop _ hall, hfl2, Nat.add_mul off])
          refine .value (x := .tuple #[]) (hexec ?_) ⟨_, _, g1, .tuple _ _ [] (.nil _), g2⟩
          rw [h1']
          have hzv : (zeroValue el).run P w = .ok z w := by simp [zeroValue, typeInfo, hi, hz]
          obtain ⟨len', rfl⟩ : ∃ k, len = k + 1 := ⟨len - 1, by omega⟩
          simp only [Builtin.clear_, List.getElem?_toArray, List.getElem?_cons_zero, List.getElem?_cons_succ, Sem.run_bind, run_underlying ht, Result.andThen_ok, hzv, Sem.run_pure, b1, hst]
        · cases hx
      · cases hx
  · cases hx

theorem toList1 {α : Type} {a : Array α} {x : α} (h : a.toList = [x]) : a = #[x] := by apply Array.ext'; simpa using h
theorem toList2 {α : Type} {a : Array α} {x y : α} (h : a.toList = [x, y]) : a = #[x, y] := by apply Array.ext'; simpa using h

theorem ok_builtin {b : Builtin} {args : Array Operand} {tys : Array TypeId} {xo : XOp} (hc : compBuiltin P G b tys.toList args.toList = some xo) (hx : xop X C xo e H = some r) (hr : HR G B σ μ H w) (he : ER σ μ e w a) :
    OpOK P (.call { callee := .builtin b, args := args, argTypes := tys }) o a w (Post G B σ μ w r) := by
  unfold compBuiltin at hc
  split at hc
  · rename_i t x ht hx1
    rw [Option.map_eq_some_iff] at hc
    obtain ⟨y, hy, rfl⟩ := hc
    rw [toList1 ht, toList1 hx1]
    exact ok_len hy hx hr he
  · rename_i t u x y ht hx1
    rw [toList2 ht, toList2 hx1]
    split at hc
    · rename_i el hu
      simp only [Option.bind_eq_some_iff] at hc
      obtain ⟨inf, hinf, z, hz, hc⟩ := hc
      split at hc
      · rename_i el2 hu2
        split at hc
        · rename_i hcond
          simp only [Option.bind_eq_some_iff, Option.map_eq_some_iff] at hc
          obtain ⟨x', hx', y', hy', rfl⟩ := hc
          exact ok_append hu hu2 (by simp) hinf hz hcond.1 hx' hy' hx hr he
        · cases hc
      · rename_i hu2
        split at hc
        · rename_i hcond
          simp only [Option.bind_eq_some_iff, Option.map_eq_some_iff] at hc
          obtain ⟨x', hx', y', hy', rfl⟩ := hc
          exact ok_append hu hu2 (by simp) hinf hz hcond.1 hx' hy' hx hr he
        · cases hc
      · cases hc
    · cases hc
  · rename_i t u x y ht hx1
    rw [toList2 ht, toList2 hx1]
    split at hc
    · rename_i el hu
      simp only [Option.bind_eq_some_iff] at hc
      obtain ⟨inf, hinf, hc⟩ := hc
      split at hc
      · rename_i hpos
        simp only [Option.bind_eq_some_iff, Option.map_eq_some_iff] at hc
        obtain ⟨x', hx', y', hy', rfl⟩ := hc
        exact ok_copy hu hinf hpos hx' hy' hx hr he
      · cases hc
    · cases hc
  · rename_i t x ht hx1
    rw [toList1 ht, toList1 hx1]
    split at hc
    · rename_i el hu
      simp only [Option.bind_eq_some_iff] at hc
      obtain ⟨inf, hinf, z, hz, v, hv, hc⟩ := hc
      split at hc
      · rename_i hcond
        rw [Option.map_eq_some_iff] at hc
        obtain ⟨x', hx', rfl⟩ := hc
        exact ok_clear hu hinf hz hv hcond.1 hcond.2.1 hcond.2.2 hx' hx hr he
      · cases hc
    · cases hc
  · rw [Option.map_eq_some_iff] at hc
    obtain ⟨ys, hys, rfl⟩ := hc
    exact ok_mm (mx := true) hys hx hr he
  · rw [Option.map_eq_some_iff] at hc
    obtain ⟨ys, hys, rfl⟩ := hc
    exact ok_mm (mx := false) hys hx hr he
  · cases hc

def notCall : Op → Bool
  | .call { callee := .value _, .. } => false
  | _ => true

theorem ok_op {op : Op} {own : Bool} {xo : XOp} (hc : compOp P G own op = some xo) (hn : notCall op = true) (hx : xop X C xo e H = some r) (hr : HR G B σ μ H w) (he : ER σ μ e w a) :
    OpOK P op o a w (Post G B σ μ w r) := by
  cases op with
  | move x => exact ok_move hc hx hr he
  | assign x => exact ok_assign hc hx hr he
  | pick c x y => exact ok_pick hc hx hr he
  | alloc t => exact ok_alloc hc hx hr he
  | box t x => exact ok_boxOp hc hx hr he
  | build t ps => exact ok_build hc hx hr he
  | buildSlice t n ps => exact ok_buildSlice hc hx hr he
  | load t x => exact ok_load hc hx hr he
  | store t p x => exact ok_store hc hx hr he
  | nilCheck x => exact ok_nilCheck hc hx hr he
  | binOp op t x y t2 => exact ok_bin hc hx hr he
  | unOp op t x => exact ok_un hc hx hr he
  | convert s d x => exact ok_convert hc hx hr he
  | makeInterface t x => exact ok_mkIface hc hx hr he
  | makeFunc fn f c => exact ok_mkFunc hc hx hr he
  | makeMap t res =>
    cases res with
    | none => simp only [compOp, Option.some.injEq] at hc; subst hc; exact ok_mkMap hx hr he
    | some x => simp [compOp] at hc
  | makeSlice t l c => exact ok_mkSlice hc hx hr he
  | slice t x lo hi mx =>
    cases mx with
    | some m => simp [compOp] at hc
    | none =>
      have hu : P.underlying t = some .string ∨ ∃ el, P.underlying t = some (.slice el) := by
        simp only [compOp, Option.bind_eq_some_iff] at hc
        obtain ⟨_, _, _, _, _, _, hc⟩ := hc
        split at hc
        · rename_i h; exact .inl h
        · rename_i el h; exact .inr ⟨el, h⟩
        · cases hc
      rcases hu with hu | ⟨el, hu⟩
      · exact ok_slice_str hu hc hx hr he
      · exact ok_slice_sl hu hc hx hr he
  | fieldAddr s x k => exact ok_fieldAddr hc hx hr he
  | field s x k => exact ok_field hc hx hr he
  | indexAddr t x i => exact ok_indexAddr hc hx hr he
  | index t x i => exact ok_indexStr hc hx hr he
  | lookup t m k ok => exact ok_lookup hc hx hr he
  | mapUpdate t m k x => exact ok_mapUpdate hc hx hr he
  | extract x i => exact ok_extract hc hx hr he
  | call c =>
    obtain ⟨callee, args, tys⟩ := c
    cases callee with
    | builtin b => exact ok_builtin hc hx hr he
    | value f => simp [notCall] at hn
    | invoke r m => simp [compOp] at hc
  | _ => simp [compOp] at hc
end
end X
end Go.Proofs.YtplginnkececaaaGreatDoor
