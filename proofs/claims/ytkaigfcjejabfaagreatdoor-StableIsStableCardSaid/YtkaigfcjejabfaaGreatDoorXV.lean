/- The engine's operations are sound, one by one: maps, aggregates, literals and slices that are made. No condition. -/
import Derived.Test.YtkaigfcjejabfaaGreatDoorXW
import Derived.Laws.AppendOwnNone
set_option linter.unusedSimpArgs false
set_option linter.unusedVariables false
namespace Go.Proofs.YtkaigfcjejabfaaGreatDoor
open Go
namespace X

section
variable {P : Program} {G : Nat → Option AV} {w : World} {σ : Nat → Prop} {μ : Mu}
variable {X : Prog} {C : Oracle} {B : Nat} {H : Heap} {e : Env} {a : Act} {o : Oper} {r : AV × Heap}

theorem ok_mkMap {t : TypeId} (hx : xop X C .mkMap e H = some r) (hr : HR G B σ μ H w) (he : ER σ μ e w a) : OpOK P (.makeMap t none) o a w (Post G B σ μ w r) := by
  simp only [xop, Option.some.injEq] at hx
  subst hx
  obtain ⟨g1, g2⟩ := hr.alloc (w' := w.alloc (.map #[] 0)) (k := .map [] []) (m := ⟨w.heap.size, 0, 0, 0, 0⟩) rfl (by simp) (fun b hb => alloc_old _ hb) (fun _ _ => ⟨#[], 0, alloc_new _, .nil _, .nil _, by simp [Born]⟩)
  refine .value (x := .map (some w.heap.size)) (w' := w.alloc (.map #[] 0)) (by simp [execOp, Instr.makeMap]) ⟨_, _, g1, .map _ _ ⟨w.heap.size, 0, 0, 0, 0⟩ (put_new _), g2⟩

theorem setKey_find {k : EK} {v x : AV} : ∀ {ks vs : List AV} {r : List AV × List AV}, setKey k v x ks vs = some r → ∃ res, find k v ks vs = some res
  | [], [], r, h => ⟨none, rfl⟩
  | [], _ :: _, r, h => by simp [setKey] at h
  | _ :: _, [], r, h => by simp [setKey] at h
  | j :: ks, u :: vs, r, h => by
    simp only [setKey] at h
    simp only [find]
    split at h
    · exact ⟨some u, rfl⟩
    · rename_i hb
      rw [Option.map_eq_some_iff] at h
      obtain ⟨r', h', _⟩ := h
      exact setKey_find h'
    · cases h

theorem setKey_none {k : EK} {v x : AV} : ∀ {ks vs : List AV} {r : List AV × List AV}, setKey k v x ks vs = some r → (∀ (j : Nat) (u : AV), ks[j]? = some u → eqKey k v u = some false) → r = (ks ++ [v], vs ++ [x])
  | [], [], r, h, _ => by simp [setKey] at h; simp [← h]
  | [], _ :: _, r, h, _ => by simp [setKey] at h
  | _ :: _, [], r, h, _ => by simp [setKey] at h
  | j :: ks, u :: vs, r, h, hn => by
    simp only [setKey, hn 0 j (by simp), Option.map_eq_some_iff] at h
    obtain ⟨r', h', rfl⟩ := h
    rw [setKey_none h' fun i u hu => hn (i + 1) u (by simpa using hu)]
    simp

theorem setKey_some {k : EK} {v x : AV} : ∀ {ks vs : List AV} {r : List AV × List AV} {p : Nat} {u : AV}, setKey k v x ks vs = some r → ks[p]? = some u → eqKey k v u = some true →
    (∀ (j : Nat) (u' : AV), j < p → ks[j]? = some u' → eqKey k v u' = some false) → r = (ks.set p v, vs.set p x)
  | [], [], r, p, u, h, hp, _, _ => by simp at hp
  | [], _ :: _, r, p, u, h, _, _, _ => by simp [setKey] at h
  | _ :: _, [], r, p, u, h, _, _, _ => by simp [setKey] at h
  | j :: ks, u0 :: vs, r, p, u, h, hp, ht, hn => by
    cases p with
    | zero =>
      simp at hp; subst hp
      simp only [setKey, ht, Option.some.injEq] at h
      simp [← h]
    | succ p =>
      simp only [setKey, hn 0 j (by omega) (by simp), Option.map_eq_some_iff] at h
      obtain ⟨r', h', rfl⟩ := h
      rw [setKey_some h' (by simpa using hp) ht fun i u' hi hu => hn (i + 1) u' (by omega) (by simpa using hu)]
      simp

theorem RVs.set {vs : List AV} {xs : List Value} (h : RVs w σ μ vs xs) {v : AV} {x : Value} (hv : RV w σ μ v x) (i : Nat) : RVs w σ μ (vs.set i v) (xs.set i x) := by
  induction vs generalizing xs i with
  | nil => cases h; simpa using RVs.nil μ
  | cons u us ih =>
    cases h with
    | cons _ _ y _ ys h hs =>
      cases i with
      | zero => exact .cons _ _ _ _ _ hv hs
      | succ i => exact .cons _ _ _ _ _ h (ih hs i)

/-- Two keys that are held alike are alike, bit by bit. -/
theorem sameBits_cell {f : FK} {v u : AV} (h : eqCell f v u = some true) {x y : Value} {μ' : Mu} (hx : RV w σ μ v x) (hy : RV w σ μ' u y) (n : Nat) : Instr.sameBits n y x = true := by
  unfold eqCell at h
  split at h
  · split at h
    · rename_i hjk
      subst hjk
      have he := Option.some.inj h
      rw [hx.int_inv, hy.int_inv]
      cases n <;> simp [Instr.sameBits] at he ⊢ <;> exact he.symm
    · cases h
  · have he := Option.some.inj h
    rw [hx.str_inv, hy.str_inv]
    have he' : _ = _ := eq_of_beq he
    cases n <;> simp only [Instr.sameBits, he', beq_toListBytes, beq_self_eq_true]
  · have he := Option.some.inj h
    rw [hx.bool_inv, hy.bool_inv]
    cases n <;> simp [Instr.sameBits] at he ⊢ <;> exact he.symm
  · cases h

theorem sameBits_cells : ∀ {fs : List FK} {vs us : List AV}, eqCells fs vs us = some true → ∀ {xs ys : List Value} {μ' : Mu}, RVs w σ μ vs xs → RVs w σ μ' us ys → ∀ n,
    ys.length = xs.length ∧ (ys.zip xs).all (fun p => Instr.sameBits n p.1 p.2) = true
  | [], [], [], _, _, _, _, hx, hy, n => by cases hx; cases hy; simp
  | [], [], _ :: _, h, _, _, _, _, _, _ => by simp [eqCells] at h
  | [], _ :: _, _, h, _, _, _, _, _, _ => by simp [eqCells] at h
  | _ :: _, [], _, h, _, _, _, _, _, _ => by simp [eqCells] at h
  | _ :: _, _ :: _, [], h, _, _, _, _, _, _ => by simp [eqCells] at h
  | f :: fs, v :: vs, u :: us, h, _, _, _, hx, hy, n => by
    cases hx with
    | cons _ _ x _ xs hx hxs =>
      cases hy with
      | cons _ _ y _ ys hy hys =>
        simp only [eqCells, Option.bind_eq_some_iff, Option.some.injEq, Bool.and_eq_true] at h
        obtain ⟨b1, h1, b2, h2, rfl, rfl⟩ := h
        obtain ⟨l, z⟩ := sameBits_cells h2 hxs hys n
        refine ⟨by simp [l], ?_⟩
        simp only [List.zip_cons_cons, List.all_cons, sameBits_cell h1 hx hy n, z, Bool.and_self]

theorem sameBits_key {k : EK} {v u : AV} (h : eqKey k v u = some true) {x y : Value} {μ' : Mu} (hx : RV w σ μ v x) (hy : RV w σ μ' u y) : Instr.sameBits 10000 y x = true := by
  unfold eqKey at h
  split at h
  · exact sameBits_cell h hx hy _
  · obtain ⟨xs, rfl, hxs⟩ := hx.agg_inv
    obtain ⟨ys, rfl, hys⟩ := hy.agg_inv
    obtain ⟨l, z⟩ := sameBits_cells h hxs hys 9999
    rw [show (10000 : Nat) = 9999 + 1 from rfl, Instr.sameBits]
    simp only [List.size_toArray, l, beq_self_eq_true, Bool.true_and]
    exact z
  · cases h

theorem ok_mapUpdate {t : TypeId} {m k x : Operand} {own : Bool} {xo : XOp} (hc : compOp P G own (.mapUpdate t m k x) = some xo) (hx : xop X C xo e H = some r) (hr : HR G B σ μ H w) (he : ER σ μ e w a) :
    OpOK P (.mapUpdate t m k x) o a w (Post G B σ μ w r) := by
  simp only [compOp] at hc
  split at hc
  · rename_i kt el hu
    simp only [Option.bind_eq_some_iff, Option.map_eq_some_iff] at hc
    obtain ⟨ek, hek, m', hm', k', hk', x', hx', rfl⟩ := hc
    have h1 := RV.arg hr he hm'
    have h2 := RV.arg hr he hk'
    have h3 := RV.arg hr he hx'
    simp only [xop] at hx
    split at hx
    · rename_i b hp
      split at hx
      · rename_i ks vs hb
        split at hx
        · rename_i hok
          rw [Option.map_eq_some_iff] at hx
          obtain ⟨r', hr', rfl⟩ := hx
          rw [hp] at h1
          obtain ⟨bm, h1', hbm⟩ := h1.map_inv
          obtain ⟨en, clock, g1, g2, g3, gb⟩ := hr.blk b _ bm hb hbm
          obtain ⟨res, hres⟩ := setKey_find hr'
          obtain ⟨q, hq, hf⟩ := run_findKeyAV hek h2 hres g2 g3
          have hck := run_checkKeyAV (w := w) hek hok h2 false
          have hset : ∀ ob, (setObj bm.rb ob).run P w = .ok () { w with heap := w.heap.setIfInBounds bm.rb ob } := fun ob => by simp [setObj, Sem.run, g1]
          have hlt : bm.rb < w.heap.size := (Array.getElem?_eq_some_iff.1 g1).1
          have upd : ∀ (en' : Array MapEntry) (clock' : Nat) (ks' vs' : List AV), RVs w σ μ ks' (en'.toList.map (·.key)) → RVs w σ μ vs' (en'.toList.map (·.val)) → Born en' clock' →
              HR G B σ μ (H.set b (.map ks' vs')) { w with heap := w.heap.setIfInBounds bm.rb (.map en' clock') } ∧ Step B σ μ w σ μ { w with heap := w.heap.setIfInBounds bm.rb (.map en' clock') } := by
            intro en' clock' ks' vs' p1 p2 p3
            refine hr.upd hb trivial hbm (by simp) (fun q hq => by simp [Ne.symm hq]) (fun hs => ⟨en', clock', by simp [hlt], p1.mono hs (fun _ _ h => h), p2.mono hs (fun _ _ h => h), p3⟩)
          cases q with
          | none =>
            have := setKey_none hr' (hf.no rfl)
            subst this
            obtain ⟨s1, s2⟩ := upd (en.push { key := a.eval k, val := a.eval x, born := clock }) (clock + 1) (ks ++ [k'.ev e]) (vs ++ [x'.ev e])
              (by simpa using g2.append (.cons _ _ _ _ _ h2 (.nil _))) (by simpa using g3.append (.cons _ _ _ _ _ h3 (.nil _)))
              (by
                obtain ⟨n1, n2⟩ := gb
                constructor
                · simp only [Array.toList_push, List.map_append, List.map_cons, List.map_nil]
                  rw [List.nodup_append]
                  refine ⟨n1, by simp, fun y hy z hz e => ?_⟩
                  obtain ⟨q, hq, rfl⟩ := List.mem_map.1 hy
                  have := n2 q hq
                  simp at hz; omega
                · intro q hq
                  simp only [Array.toList_push, List.mem_append, List.mem_singleton] at hq
                  rcases hq with hq | rfl
                  · have := n2 q hq; omega
                  · simp)
            refine .skip (w' := { w with heap := w.heap.setIfInBounds bm.rb (.map (en.push { key := a.eval k, val := a.eval x, born := clock }) (clock + 1)) }) ?_ ⟨_, _, s1, .tuple _ _ [] (.nil _), s2⟩
            simp [execOp, Instr.mapUpdate, run_underlying hu, h1', getMap g1, hck, hq, hset]
          | some p =>
            obtain ⟨u, hu1, hu2, hu3⟩ := hf.yes p rfl
            have := setKey_some hr' hu1 hu2 hu3
            subst this
            obtain ⟨y, hy1, hy2⟩ := g2.get hu1
            have hp2 : p.1 < en.size := by have := (List.getElem?_eq_some_iff.1 hy1).1; simpa using this
            have hkey : ((en[p.1]?).map (·.key)).getD (a.eval k) = y := by
              simp only [List.getElem?_map, Array.getElem?_toList] at hy1
              rw [hy1]; rfl
            have hsame := sameBits_key hu2 h2 hy2
            have hkeep : (Instr.keyThatStays y (a.eval k)).run P w = .ok (a.eval k) w := by simp [Instr.keyThatStays, hsame]
            obtain ⟨s1, s2⟩ := upd (en.modify p.1 fun q => { q with key := a.eval k, val := a.eval x }) clock (ks.set p.1 (k'.ev e)) (vs.set p.1 (x'.ev e))
              (by
                have := g2.set h2 p.1
                have e1 : (en.modify p.1 fun q => { q with key := a.eval k, val := a.eval x }).toList.map (·.key) = (en.toList.map (·.key)).set p.1 (a.eval k) := by
                  apply List.ext_getElem?
                  intro i
                  simp [Array.getElem?_modify, List.getElem?_set]
                  split <;> simp_all
                rw [e1]; exact this)
              (by
                have := g3.set h3 p.1
                have e1 : (en.modify p.1 fun q => { q with key := a.eval k, val := a.eval x }).toList.map (·.val) = (en.toList.map (·.val)).set p.1 (a.eval x) := by
                  apply List.ext_getElem?
                  intro i
                  simp [Array.getElem?_modify, List.getElem?_set]
                  split <;> simp_all
                rw [e1]; exact this)
              (by
                obtain ⟨n1, n2⟩ := gb
                have e1 : (en.modify p.1 fun q => { q with key := a.eval k, val := a.eval x }).toList.map (·.born) = en.toList.map (·.born) := by
                  apply List.ext_getElem?
                  intro i
                  simp only [List.getElem?_map, Array.getElem?_toList, Array.getElem?_modify]
                  split
                  · cases en[i]? <;> rfl
                  · rfl
                refine ⟨by rw [e1]; exact n1, fun q hq => ?_⟩
                have : q.born ∈ (en.modify p.1 fun q => { q with key := a.eval k, val := a.eval x }).toList.map (·.born) := List.mem_map.2 ⟨q, hq, rfl⟩
                rw [e1] at this
                obtain ⟨q', hq', he⟩ := List.mem_map.1 this
                rw [← he]; exact n2 q' hq')
            refine .skip (w' := { w with heap := w.heap.setIfInBounds bm.rb (.map (en.modify p.1 fun q => { q with key := a.eval k, val := a.eval x }) clock) }) ?_ ⟨_, _, s1, .tuple _ _ [] (.nil _), s2⟩
            simp only [execOp, Instr.mapUpdate, Sem.run_bind, run_underlying hu, Result.andThen_ok, h1', getMap g1, hck, hq, hkey, hkeep, hset]
            rfl
        · cases hx
      · cases hx
    · cases hx
  · cases hc
end
end X
end Go.Proofs.YtkaigfcjejabfaaGreatDoor
