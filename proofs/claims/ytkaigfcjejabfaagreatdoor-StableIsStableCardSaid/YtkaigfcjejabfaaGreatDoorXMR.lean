/- Loops over maps, in every order: what the model does is one of what the engine does. No condition. -/
import Derived.Test.YtkaigfcjejabfaaGreatDoorXF
import Derived.Test.YtkaigfcjejabfaaGreatDoorXN
set_option linter.unusedSimpArgs false
set_option linter.unusedVariables false
namespace Go.Proofs.YtkaigfcjejabfaaGreatDoor
open Go
namespace X

section
variable {P : Program} {G : Nat → Option AV} {X : Prog}

theorem R_ok (hm : P.follows .mixedOrders = true) (hX : ProgOK P G X) (hP : PrimOK P G X) : OracleOK P G (R X) := by
  intro f args H r h
  obtain ⟨k, hk⟩ := R_some.1 h
  exact run_ok hm hX hP k f args H r hk

theorem sound_inf {h : Hints} {n : Nat} (hm : P.follows .mixedOrders = true) (hX : ProgOK P G X) (hP : PrimOK P G X) {c : Code} {blk : Nat} {x : XCode} (hc : compCode P G X h blk c = some x) (hf : codeFits n c = true) :
    Sound P G n c (code X (R X) Li x) := by
  intro e H r B σ μ a w Q hx hs hq
  obtain ⟨k, hk⟩ := code_ad hx
  exact code_ok hm (run_ok hm hX hP k) hP c blk x hc hf e H r B σ μ a w Q hk hs hq

/-! ### blocks that hold neither cells nor a map -/

def Shown (w : World) (b : Nat) : Prop := (∃ c ty fz, w.heap[b]? = some (.cells c ty fz)) ∨ ∃ en ck, w.heap[b]? = some (.map en ck)

mutual
theorem RV.less {w : World} {σ σ' : Nat → Prop} (hσ : ∀ b, σ b → Shown w b → σ' b) : ∀ {μ : Mu} {v : AV} {x : Value}, RV w σ μ v x → RV w σ' μ v x
  | _, _, _, .undef _ _ => .undef _ _
  | _, _, _, .bool _ _ => .bool _ _
  | _, _, _, .int _ _ _ => .int _ _ _
  | _, _, _, .str _ _ => .str _ _
  | _, _, _, .nilptr _ => .nilptr _
  | _, _, _, .nilslice _ => .nilslice _
  | _, _, _, .nilmap _ => .nilmap _
  | _, _, _, .nilfunc _ => .nilfunc _
  | _, _, _, .niliface _ => .niliface _
  | _, _, _, .ptr _ _ _ _ _ h => .ptr _ _ _ _ _ h
  | _, _, _, .slice _ _ _ _ _ _ h h1 h2 h3 => .slice _ _ _ _ _ _ h h1 h2 h3
  | _, _, _, .map _ _ _ h => .map _ _ _ h
  | _, _, _, .iter _ _ _ h => .iter _ _ _ h
  | _, _, _, .vptr _ _ _ _ _ _ _ _ h1 h2 h3 h4 => .vptr _ _ _ _ _ _ _ _ (hσ _ h1 (.inl ⟨_, _, _, h2⟩)) h2 h3 (RVs.less hσ h4)
  | _, _, _, .vslice0 _ _ _ => .vslice0 _ _ _
  | _, _, _, .vslice _ _ _ _ _ _ _ _ _ _ h1 h2 h3 h4 h5 h6 => .vslice _ _ _ _ _ _ _ _ _ _ (hσ _ h1 (.inl ⟨_, _, _, h2⟩)) h2 h3 h4 (RVs.less hσ h5) h6
  | _, _, _, .vmap _ _ _ _ _ _ h1 h2 hb h3 h4 => .vmap _ _ _ _ _ _ (hσ _ h1 (.inr ⟨_, _, h2⟩)) h2 hb (RVs.less hσ h3) (RVs.less hσ h4)
  | _, _, _, .func _ _ _ _ h => .func _ _ _ _ (RVs.less hσ h)
  | _, _, _, .iface _ _ _ _ h => .iface _ _ _ _ (RV.less hσ h)
  | _, _, _, .agg _ _ _ h => .agg _ _ _ (RVs.less hσ h)
  | _, _, _, .tuple _ _ _ h => .tuple _ _ _ (RVs.less hσ h)
theorem RVs.less {w : World} {σ σ' : Nat → Prop} (hσ : ∀ b, σ b → Shown w b → σ' b) : ∀ {μ : Mu} {vs : List AV} {xs : List Value}, RVs w σ μ vs xs → RVs w σ' μ vs xs
  | _, _, _, .nil _ => .nil _
  | _, _, _, .cons _ _ _ _ _ h hs => .cons _ _ _ _ _ (RV.less hσ h) (RVs.less hσ hs)
end

variable {B n : Nat} {σ σ' : Nat → Prop} {μ : Mu} {H : Heap} {w w' : World} {e : Env} {a : Act}

theorem BR.less {m : BM} {k : Blk} (hσ : ∀ b, σ b → Shown w b → σ' b) (h : BR w σ μ m k) : BR w σ' μ m k := by
  cases k with
  | dead => trivial
  | arr sz es =>
    obtain ⟨h1, h2, h3, h4, c, ty, h5, h6, vs, h7, h8⟩ := h
    exact ⟨h1, h2, h3, h4, c, ty, h5, h6, vs, h7.less hσ, h8⟩
  | map ks vs =>
    obtain ⟨en, clock, h1, h2, h3, h4⟩ := h
    exact ⟨en, clock, h1, h2.less hσ, h3.less hσ, h4⟩

/-- Fewer blocks are held to stay: none that values show. -/
theorem SR.less (h : SR G B n σ μ e H a w) (hσ : ∀ b, σ b → Shown w b → σ' b) (hs : ∀ b, σ' b → σ b) : SR G B n σ' μ e H a w :=
  ⟨⟨h.hr.dom, h.hr.has, fun b hb => h.hr.st b (hs b hb), h.hr.base, fun g v hg => (h.hr.glob g v hg).less hσ, fun b k m hk hm => (h.hr.blk b k m hk hm).less hσ,
    fun b k m hk ha hm => ⟨(h.hr.own b k m hk ha hm).1, (h.hr.own b k m hk ha hm).2.1, fun hb => (h.hr.own b k m hk ha hm).2.2 (hs _ hb)⟩, h.hr.inj⟩, fun t => (h.er t).less hσ, h.sz, h.df⟩

/-- More blocks are held to stay: none of the engine's own. -/
theorem SR.hold (h : SR G B n σ μ e H a w) {r : Nat} (hr : r < w.heap.size) (ha : ∀ b k m, H[b]? = some k → k.alive → μ b = some m → m.rb ≠ r) : SR G B n (fun b => σ b ∨ b = r) μ e H a w := by
  have hs : ∀ b, σ b → (σ b ∨ b = r) ∧ w.heap[b]? = w.heap[b]? := fun b hb => ⟨.inl hb, rfl⟩
  refine ⟨⟨h.hr.dom, h.hr.has, fun b hb => ?_, h.hr.base, fun g v hg => (h.hr.glob g v hg).mono hs (fun _ _ h => h), fun b k m hk hm => (h.hr.blk b k m hk hm).mono hs (fun _ _ h => h) (fun _ => rfl),
    fun b k m hk hal hm => ⟨(h.hr.own b k m hk hal hm).1, (h.hr.own b k m hk hal hm).2.1, fun hb => ?_⟩, h.hr.inj⟩, fun t => (h.er t).mono hs (fun _ _ h => h), h.sz, h.df⟩
  · rcases hb with hb | rfl
    · exact h.hr.st b hb
    · exact hr
  · rcases hb with hb | hb
    · exact (h.hr.own b k m hk hal hm).2.2 hb
    · exact ha b k m hk hal hm hb

/-- A block that is nobody's is written. -/
theorem SR.side (h : SR G B n σ μ e H a w) {r : Nat} (hn : w'.heap.size = w.heap.size) (hr : ¬ σ r) (ha : ∀ b k m, H[b]? = some k → k.alive → μ b = some m → m.rb ≠ r) (hw : ∀ q, q ≠ r → w'.heap[q]? = w.heap[q]?) :
    SR G B n σ μ e H a w' := by
  have hs : ∀ b, σ b → σ b ∧ w'.heap[b]? = w.heap[b]? := fun b hb => ⟨hb, hw b fun e => hr (e ▸ hb)⟩
  refine ⟨⟨h.hr.dom, h.hr.has, fun b hb => by rw [hn]; exact h.hr.st b hb, by rw [hn]; exact h.hr.base, fun g v hg => (h.hr.glob g v hg).mono hs (fun _ _ h => h),
    fun b k m hk hm => (h.hr.blk b k m hk hm).mono hs (fun _ _ h => h) (fun hal => hw _ (ha b k m hk hal hm)), fun b k m hk hal hm => by rw [hn]; exact h.hr.own b k m hk hal hm, h.hr.inj⟩,
    fun t => (h.er t).mono hs (fun _ _ h => h), h.sz, h.df⟩

/-! ### the model's iterators -/

def leftOf (en : Array MapEntry) (seen : Array Nat) : List MapEntry := en.toList.filter fun e => !seen.contains e.born

theorem run_getObj' {r : Nat} {o : Obj} (h : w.heap[r]? = some o) (hc : ∀ c t f, o ≠ .cells c t f) : (getObj r).run P w = .ok o w := by
  cases o <;> first | exact (hc _ _ _ rfl).elim | simp [getObj, Sem.run, h]

theorem run_setObj' {r : Nat} {o o' : Obj} (h : w.heap[r]? = some o) (hc : ∀ c t f, o ≠ .cells c t f) : (setObj r o').run P w = .ok () { w with heap := w.heap.setIfInBounds r o' } := by
  cases o <;> first | exact (hc _ _ _ rfl).elim | simp [setObj, Sem.run, h]

theorem run_next {r m clock : Nat} {seen : Array Nat} {en : Array MapEntry} {t : TypeId} (hr : w.heap[r]? = some (.mapIter (some m) clock seen clock)) (hm : w.heap[m]? = some (.map en clock)) (hb : Born en clock) :
    (leftOf en seen = [] ∧ (Instr.next (.pointer (some ⟨r, 0, none⟩)) false t).run P w = .ok (.tuple #[.bool false]) w) ∨
    ∃ (j : Nat) (q : MapEntry) (w' : World), (leftOf en seen)[j]? = some q ∧ (Instr.next (.pointer (some ⟨r, 0, none⟩)) false t).run P w = .ok (.tuple #[.bool true, q.key, q.val]) w' ∧
      w'.heap = w.heap.setIfInBounds r (.mapIter (some m) clock (seen.push q.born) clock) ∧ Same w w' := by
  have hall : (!seen.isEmpty && !en.isEmpty && en.all fun e => decide (e.born ≥ clock)) = false := by
    cases he : en.isEmpty with
    | true => simp
    | false =>
      have : en.all (fun e => decide (e.born ≥ clock)) = false := by
        rw [Array.all_eq_false]
        have hpos : 0 < en.size := by
          rw [Array.isEmpty_eq_false_iff] at he
          exact Array.size_pos_iff.2 he
        refine ⟨0, hpos, ?_⟩
        have := hb.2 en[0] (by simp)
        simp; omega
      simp [this]
  have hold : (en.filter fun e => !seen.contains e.born).filter (fun e => decide (e.born < clock)) = en.filter fun e => !seen.contains e.born := by
    rw [Array.filter_eq_self]
    intro e he
    have : e ∈ en := by
      rw [Array.mem_filter] at he; exact he.1
    simpa using hb.2 e (by simpa using this)
  have hnew : (en.filter fun e => !seen.contains e.born).filter (fun e => decide (e.born ≥ clock)) = #[] := by
    rw [Array.filter_eq_empty_iff]
    intro e he
    have : e ∈ en := by
      rw [Array.mem_filter] at he; exact he.1
    have := hb.2 e (by simpa using this)
    simp; omega
  have hl : leftOf en seen = (en.filter fun e => !seen.contains e.born).toList := by simp [leftOf]
  have g1 := run_getObj' (P := P) hr (by intro c t f h; cases h)
  have g2 := run_getObj' (P := P) hm (by intro c t f h; cases h)
  generalize hL : (en.filter fun e => !seen.contains e.born) = L at *
  cases hLe : L.isEmpty with
  | true =>
    left
    have hL0 : L = #[] := by simpa using hLe
    refine ⟨by rw [hl, hL0], ?_⟩
    unfold Instr.next
    simp only [Sem.run_bind, g1, g2, Result.andThen_ok, hall, Bool.false_eq_true, if_false, hL]
    subst hL0
    simp [Question.forced]
  | false =>
    right
    have hne : L ≠ #[] := by simpa using hLe
    have hpos : 0 < L.size := Array.size_pos_iff.2 hne
    have key : ∀ (i : Nat) (w1 : World), i < L.size → w1.heap = w.heap → Same w w1 → ((choose (.mapNext L.size)).run P w = .ok i w1) →
        ∃ (j : Nat) (q : MapEntry) (w' : World), (leftOf en seen)[j]? = some q ∧ (Instr.next (.pointer (some ⟨r, 0, none⟩)) false t).run P w = .ok (.tuple #[.bool true, q.key, q.val]) w' ∧
          w'.heap = w.heap.setIfInBounds r (.mapIter (some m) clock (seen.push q.born) clock) ∧ Same w w' := by
      intro i w1 hi hw1 hsm hch
      have g3 := run_setObj' (P := P) (w := w1) (o' := .mapIter (some m) clock (seen.push L[i].born) clock) (hw1 ▸ hr) (by intro c t f h; cases h)
      refine ⟨i, L[i], { w1 with heap := w1.heap.setIfInBounds r (.mapIter (some m) clock (seen.push L[i].born) clock) }, by rw [hl]; simp [hi], ?_, by rw [hw1], ⟨hsm.os, hsm.tape, hsm.output⟩⟩
      have hLe' : ¬ L = #[] := hne
      unfold Instr.next
      simp only [Sem.run_bind, g1, g2, Result.andThen_ok, hall, Bool.false_eq_true, if_false, hL, hold, hnew, hLe]
      have hget : (Array.map some L)[i]? = some (some L[i]) := by simp [hi]
      simp only [Array.append_empty, Array.empty_append, Array.size_map, hch, Result.andThen_ok, hget, Sem.run_bind, g3, Sem.run_pure]
    by_cases h1 : L.size ≤ 1
    · exact key 0 w hpos rfl (Same.refl w) (by simp [Question.forced, h1])
    · exact key (w.tape w.drawn (.mapNext L.size) % L.size) { w with drawn := w.drawn + 1 } (Nat.mod_lt _ hpos) rfl ⟨rfl, rfl, rfl⟩ (by simp [Question.forced, h1, Question.cut])

theorem run_entry {r m clock : Nat} {seen : Array Nat} {en : Array MapEntry} {q : MapEntry} (hr : w.heap[r]? = some (.mapIter (some m) clock (seen.push q.born) clock)) (hm : w.heap[m]? = some (.map en clock)) (hb : Born en clock) (hq : q ∈ en.toList) :
    (Instr.entry (.pointer (some ⟨r, 0, none⟩))).run P w = .ok (.tuple #[q.key, q.val]) w := by
  have g1 := run_getObj' (P := P) hr (by intro c t f h; cases h)
  have g2 := run_getObj' (P := P) hm (by intro c t f h; cases h)
  have hf : en.find? (fun e => e.born == q.born) = some q := by
    rw [← Array.find?_toList]
    obtain ⟨hn, _⟩ := hb
    generalize en.toList = l at hq hn ⊢
    clear g2 hm
    induction l with
    | nil => cases hq
    | cons x l ih =>
      simp only [List.map_cons, List.nodup_cons] at hn
      rw [List.find?_cons]
      rcases List.mem_cons.1 hq with rfl | hq
      · simp
      · have : (x.born == q.born) = false := by
          simp only [beq_eq_false_iff_ne, ne_eq]
          intro e
          exact hn.1 (List.mem_map.2 ⟨q, hq, e.symm⟩)
        rw [this]
        exact ih hq hn.2
  simp [Instr.entry, g1, g2, hf]

theorem run_range {m clock : Nat} {en : Array MapEntry} {t kt el : TypeId} (ht : P.underlying t = some (.map kt el)) (hm : w.heap[m]? = some (.map en clock)) :
    (Instr.range t (.map (some m))).run P w = .ok (.pointer (some ⟨w.heap.size, 0, none⟩)) (w.alloc (.mapIter (some m) clock #[] clock)) := by
  have g2 := run_getObj' (P := P) hm (by intro c t f h; cases h)
  simp [Instr.range, run_underlying ht, g2]

/-! ### the loop -/

def dropR (l : List Nat) (e : Env) : Env := fun t => if l.any (Nat.beq t) then .undef else e t

/-- All orders in which the entries that are left may come. -/
def FoldW (X : Prog) (xb : XCode) (nxb it pair : Nat) (drop : List Nat) : Nat → List (AV × AV) → Env → Heap → (Env → Heap → Prop) → Prop
  | 0, rem, e, H, T => rem = [] ∧ T (dropR drop e) H
  | k + 1, rem, e, H, T => rem.length = k + 1 ∧ ∀ j p, rem[j]? = some p → ∃ x e' H', code X (R X) Li xb ((dropR drop e).set pair (.tuple [p.1, p.2])) H = some (x, e', H') ∧ (x = .normal ∨ x = .exit nxb) ∧ e' it = e it ∧
      FoldW X xb nxb it pair drop k (rem.eraseIdx j) e' H' T

theorem SR.forget {e' : Env} (h : SR G B n σ μ e H a w) (he : ∀ t, e' t = e t ∨ e' t = .undef) : SR G B n σ μ e' H a w := by
  refine ⟨h.hr, fun t => ?_, h.sz, h.df⟩
  rcases he t with he | he
  · rw [he]; exact h.er t
  · rw [he]; exact .undef _ _

/-- What stands for the same in any world. -/
def Flat (v : AV) (x : Value) : Prop := ∀ w σ μ, RV w σ μ v x

theorem flat_of {v : AV} {x : Value} {k : Nat} (hv : ownOnly [] k v = true) (h : RV w σ μ v x) : Flat v x := by
  intro w' σ' μ'
  have h1 : RV w (fun _ => False) noMu v x := RV.flat hv h
  exact h1.mono (fun b hb => hb.elim) (fun b m hb => by cases hb)

def Rel (rem : List (AV × AV)) (l : List MapEntry) : Prop := rem.length = l.length ∧ ∀ (i : Nat) (p : AV × AV) (q : MapEntry), rem[i]? = some p → l[i]? = some q → Flat p.1 q.key ∧ Flat p.2 q.val

theorem Rel.erase {rem : List (AV × AV)} {l : List MapEntry} (h : Rel rem l) (j : Nat) : Rel (rem.eraseIdx j) (l.eraseIdx j) := by
  refine ⟨by rw [List.length_eraseIdx, List.length_eraseIdx, h.1], fun (i : Nat) p q hp hq => ?_⟩
  rw [List.getElem?_eraseIdx] at hp hq
  split at hp
  · rename_i hlt; rw [if_pos hlt] at hq; exact h.2 i p q hp hq
  · rename_i hlt; rw [if_neg hlt] at hq; exact h.2 (i + 1) p q hp hq

theorem left_push {en : Array MapEntry} {seen : Array Nat} (hn : (en.toList.map (·.born)).Nodup) {j : Nat} {q : MapEntry} (hj : (leftOf en seen)[j]? = some q) : leftOf en (seen.push q.born) = (leftOf en seen).eraseIdx j := by
  have h1 : leftOf en (seen.push q.born) = (leftOf en seen).filter fun e => !(e.born == q.born) := by
    unfold leftOf
    rw [List.filter_filter]
    congr 1
    funext e
    simp only [Array.contains_push]
    cases seen.contains e.born <;> simp
  rw [h1]
  have hn' : ((leftOf en seen).map (·.born)).Nodup := hn.sublist (List.filter_sublist.map _)
  generalize leftOf en seen = l at *
  clear h1 hn
  induction l generalizing j with
  | nil => simp at hj
  | cons x l ih =>
    simp only [List.map_cons, List.nodup_cons] at hn'
    cases j with
    | zero =>
      simp at hj; subst hj
      simp only [List.filter_cons, beq_self_eq_true, Bool.not_true, Bool.false_eq_true, if_false, List.eraseIdx_cons_zero]
      rw [List.filter_eq_self]
      intro y hy
      simp only [Bool.not_eq_true', beq_eq_false_iff_ne, ne_eq]
      intro e
      exact hn'.1 (List.mem_map.2 ⟨y, hy, e⟩)
    | succ j =>
      simp only [List.getElem?_cons_succ] at hj
      have hx : (x.born == q.born) = false := by
        simp only [beq_eq_false_iff_ne, ne_eq]
        intro e
        exact hn'.1 (List.mem_map.2 ⟨q, List.mem_of_getElem? hj, e.symm⟩)
      simp only [List.filter_cons, hx, Bool.not_false, if_true, List.eraseIdx_cons_succ, ih hj hn'.2]

structure Shape (ops1 ops2 : Array Oper) (it nx more pair n : Nat) : Prop where
  one : ∃ o1 o2, ops1 = #[o1, o2] ∧ o1.op = .next (.tmp it) false ∧ o1.dst = some nx ∧ o1.guard = none ∧ o2.op = .extract (.tmp nx) 0 ∧ o2.dst = some more ∧ o2.guard = none
  two : ∃ o3, ops2[0]? = some o3 ∧ o3.op = .entry (.tmp it) ∧ o3.dst = some pair ∧ o3.guard = none
  lt : it < n ∧ nx < n ∧ more < n ∧ pair < n
  ne : it ≠ nx ∧ it ≠ more ∧ it ≠ pair ∧ nx ≠ more ∧ more ≠ pair ∧ nx ≠ pair

theorem get_put {t d : Nat} {v : Value} (h : d < a.tmps.size) : (a.put (some d) v).tmps.getD t undef = if t = d then v else a.tmps.getD t undef := by
  simp only [Act.put, Array.getD_eq_getD_getElem?, Array.getElem?_setIfInBounds]
  by_cases e : t = d
  · subst e; simp [h]
  · rw [if_neg e, if_neg (fun h => e h.symm)]

theorem RV.iter_inv {b : Nat} {x : Value} (h : RV w σ μ (.iter b) x) : ∃ m, x = .pointer (some ⟨m.rb, 0, none⟩) ∧ μ b = some m := by
  cases h with | iter _ _ m h => exact ⟨m, rfl, h⟩

theorem op_value {ops : Array Oper} {i : Nat} {o : Oper} {v : Value} {Q : Exit → Act → World → Prop} {K : Act → World → Prop} (hi : ops[i]? = some o) (hg : o.guard = none) (hrun : (execOp a.eval o).run P w = .ok (.value v) w') (hK : K (a.put o.dst v) w') : wpOp P ops Q i K a w := by
  unfold wpOp
  rw [hi]
  simp only [Region.wanted, hg, if_true]
  left
  unfold Oper.wp
  rw [hrun]
  exact hK

theorem get_put_eq {d : Nat} {v : Value} (h : d < a.tmps.size) : (a.put (some d) v).tmps.getD d undef = v := by rw [get_put h, if_pos rfl]
theorem put_size (d : Option Nat) (v : Value) : (a.put d v).tmps.size = a.tmps.size := by cases d <;> simp [Act.put]

/-- The step of a loop over a map: is there one more entry? -/
theorem step_wp {it nx more id1 : Nat} {o1 o2 : Oper} (p1 : o1.op = .next (.tmp it) false) (p2 : o1.dst = some nx) (p3 : o1.guard = none) (p4 : o2.op = .extract (.tmp nx) 0) (p5 : o2.dst = some more) (p6 : o2.guard = none) (hnx : nx < a.tmps.size) (hmo : more < a.tmps.size)
    {ptr : Value} (hptr : a.tmps.getD it undef = ptr) {b : Bool} {rest : Array Value} (hrun : (Instr.next ptr false o1.type).run P w = .ok (.tuple (#[.bool b] ++ rest)) w') {Q : Exit → Act → World → Prop}
    (hQ : Q .normal ((a.put (some nx) (.tuple (#[.bool b] ++ rest))).put (some more) (.bool b)) w') : (Code.region id1 #[o1, o2] false).wp P Q a w := by
  refine wp_region ?_
  rw [show List.range (#[o1, o2] : Array Oper).size = [0, 1] from rfl, wpOps_cons]
  refine op_value (v := .tuple (#[.bool b] ++ rest)) (w' := w') (by simp) p3 ?_ ?_
  · obtain ⟨dst, op, type, guard, after⟩ := o1
    simp only at p1
    subst p1
    simp only [execOp, Act.eval, hptr, hrun]
    simp [hrun]
  · rw [wpOps_cons]
    refine op_value (v := .bool b) (w' := w') (by simp) p6 ?_ ?_
    · obtain ⟨dst, op, type, guard, after⟩ := o2
      simp only at p4
      subst p4
      rw [p2]
      have : (a.put (some nx) (.tuple (#[.bool b] ++ rest))).eval (.tmp nx) = .tuple (#[.bool b] ++ rest) := get_put_eq hnx
      have h0 : (#[Value.bool b] ++ rest)[0]? = some (.bool b) := by simp [Array.getElem?_append]
      simp only [execOp, this, Instr.extract, h0]
      simp
    · rw [p2, p5]; exact hQ

/-- Operations in the order of a list, before others. -/
theorem opers_then {C : Oracle} {ops : Array Oper} {own : Nat → Bool} (hfit : ∀ (i : Nat) (o : Oper), ops[i]? = some o → operFits n ops o = true) (hC : OracleOK P G C) (hP : PrimOK P G X) {Q : Exit → Act → World → Prop} {tail : List Nat} :
    ∀ {l : List Nat} {xs : List XOper} {e : Env} {H : Heap} {r : Env × Heap} {σ : Nat → Prop} {μ : Mu} {a : Act} {w : World},
      l.mapM (fun i => (ops[i]?).bind (compOper P G (own i) ops)) = some xs → opers X C xs e H = some r → SR G B n σ μ e H a w →
      (∀ a' w', Behind G B n σ μ w r.1 r.2 a' w' → wpOps P ops Q tail a' w') → wpOps P ops Q (l ++ tail) a w
  | [], xs, e, H, r, σ, μ, a, w, hc, hx, hs, hq => by
    simp at hc
    subst hc
    simp only [opers, Option.some.injEq] at hx
    subst hx
    exact hq _ _ ⟨σ, μ, hs, Step.refl _ _ _ _⟩
  | i :: l, xs, e, H, r, σ, μ, a, w, hc, hx, hs, hq => by
    simp only [List.mapM_cons, Option.pure_def, Option.bind_eq_bind, Option.bind_eq_some_iff, Option.some.injEq] at hc
    obtain ⟨x, ⟨o, hi, ho⟩, xs', hxs, rfl⟩ := hc
    simp only [opers, Option.bind_eq_some_iff] at hx
    obtain ⟨s, h1, h2⟩ := hx
    rw [List.cons_append, wpOps_cons]
    refine oper_ok hi ho (hfit i o hi) hC hP (e' := s.1) (H' := s.2) h1 hs ?_
    rintro a' w' ⟨σ', μ', k1, k2⟩
    exact opers_then hfit hC hP hxs h2 k1 fun a'' w'' hb => hq _ _ (Behind.trans k2 hb)

/-- One round of a loop over a map, and those behind it. -/
theorem iter_ok {h : Hints} (hm : P.follows .mixedOrders = true) (hX : ProgOK P G X) (hP : PrimOK P G X) {ops1 ops2 : Array Oper} {it nx more pair out nxb id1 id2 : Nat} (sh : Shape ops1 ops2 it nx more pair n) {body : Code} {blk : Nat} {y : XCode} {xs2 : List XOper} {own : Nat → Bool} {l : List Nat}
    (hfit2 : ∀ (i : Nat) (o : Oper), ops2[i]? = some o → operFits n ops2 o = true) (hxs2 : (List.range' 1 (ops2.size - 1)).mapM (fun i => (ops2[i]?).bind (compOper P G (own i) ops2)) = some xs2)
    (hy : compCode P G X h blk body = some y) (hfit : codeFits n body = true) {rb bi rbm clock : Nat} {en : Array MapEntry} {T : Env → Heap → Prop} {Q : Exit → Act → World → Prop} {m' : BM} (hm' : m'.rb = rb) (hborn : Born en clock) (k : Nat) :
    ∀ (rem : List (AV × AV)) (e : Env) (H : Heap) (a : Act) (w : World) (σ : Nat → Prop) (μ : Mu) (seen : Array Nat), SR G B n σ μ e H a w →
      FoldW X (.seq (.seq (.region xs2 []) y) (.keep l)) nxb it pair [nx, more, pair] k rem e H T → B ≤ rb → rb < w.heap.size → ¬ σ rb → (∀ b k m, H[b]? = some k → k.alive → μ b = some m → m.rb ≠ rb) →
      w.heap[rb]? = some (.mapIter (some rbm) clock seen clock) → w.heap[rbm]? = some (.map en clock) → σ rbm → e it = .iter bi → μ bi = some m' → Rel rem (leftOf en seen) →
      (∀ e' H' a' w', T e' H' → Behind G B n σ μ w e' H' a' w' → Q (.exit out) a' w') →
      Code.rounds P (.seq (.region id1 ops1 false) (.seq (.cond (.tmp more) .skip (.exit out)) (.block nxb (.seq (.region id2 ops2 false) body)))) Q (k + 1) a w := by
  obtain ⟨⟨o1, o2, rfl, p1, p2, p3, p4, p5, p6⟩, ⟨o3, q1, q2, q3, q4⟩, ⟨l1, l2, l3, l4⟩, ne1, ne2, ne3, ne4, ne5, ne6⟩ := sh
  induction k with
  | zero =>
    intro rem e H a w σ μ seen hs hf hB hlt hnσ hal hit hmap hσm he hμ hrel hq
    obtain ⟨rfl, hT⟩ := hf
    have hl0 : leftOf en seen = [] := by
      have := hrel.1; simp at this; exact List.length_eq_zero_iff.1 this.symm
    have hptr : a.tmps.getD it undef = .pointer (some ⟨rb, 0, none⟩) := by
      have := hs.er it
      rw [he] at this
      obtain ⟨m, hx, hm⟩ := this.iter_inv
      rw [hμ] at hm; cases hm; rw [hx, hm']
    rcases run_next (P := P) (t := o1.type) hit hmap hborn with ⟨_, hrun⟩ | ⟨j, q, w', hj, _⟩
    · rw [rounds_succ]
      refine wp_seq (step_wp (b := false) (rest := #[]) p1 p2 p3 p4 p5 p6 (by rw [hs.sz]; exact l2) (by rw [hs.sz]; exact l3) hptr (by simpa using hrun) ?_)
      simp only [Exit.then]
      have hs2 : SR G B n σ μ (dropR [nx, more, pair] e) H ((a.put (some nx) (.tuple (#[.bool false] ++ #[]))).put (some more) (.bool false)) w := by
        refine ((hs.put (d := some nx) (v := .undef) (.undef _ _) (by simpa using l2)).put (d := some more) (v := .undef) (.undef _ _) (by simpa using l3)).forget fun t => ?_
        simp only [dropR, putDst, Env.set, List.any_cons, List.any_nil, Bool.or_false]
        by_cases c1 : Nat.beq t nx = true <;> by_cases c2 : Nat.beq t more = true <;> by_cases c3 : Nat.beq t pair = true <;> simp_all
      refine wp_seq (wp_cond (t := false) ?_ ?_)
      · exact get_put_eq (by rw [put_size, hs.sz]; exact l3)
      · simp only [Bool.false_eq_true, if_false]
        refine wp_exit ?_
        simp only [Exit.then]
        exact hq _ _ _ _ hT ⟨σ, μ, hs2, Step.refl _ _ _ _⟩
    · rw [hl0] at hj; simp at hj
  | succ k ih =>
    intro rem e H a w σ μ seen hs hf hB hlt hnσ hal hit hmap hσm he hμ hrel hq
    obtain ⟨hlen, hf⟩ := hf
    have hptr : a.tmps.getD it undef = .pointer (some ⟨rb, 0, none⟩) := by
      have := hs.er it
      rw [he] at this
      obtain ⟨m, hx, hm⟩ := this.iter_inv
      rw [hμ] at hm; cases hm; rw [hx, hm']
    rcases run_next (P := P) (t := o1.type) hit hmap hborn with ⟨h0, _⟩ | ⟨j, q, w1, hj, hrun, hw1, hsm⟩
    · exfalso
      have := hrel.1
      rw [h0, hlen] at this; simp at this
    · have hjl : j < rem.length := by rw [hrel.1]; exact (List.getElem?_eq_some_iff.1 hj).1
      obtain ⟨x, e1, H1, hx, hxn, heit, hf'⟩ := hf j rem[j] (List.getElem?_eq_getElem hjl)
      obtain ⟨fk, fv⟩ := hrel.2 j rem[j] q (List.getElem?_eq_getElem hjl) hj
      -- the iterator has gone on
      have hheap : ∀ c, c ≠ rb → w1.heap[c]? = w.heap[c]? := fun c hc => by rw [hw1, Array.getElem?_setIfInBounds_ne (Ne.symm hc)]
      have hrb1 : w1.heap[rb]? = some (.mapIter (some rbm) clock (seen.push q.born) clock) := by rw [hw1]; simp [hlt]
      have hsz1 : w1.heap.size = w.heap.size := by rw [hw1]; simp
      have hs1 : SR G B n σ μ e H a w1 := hs.side hsz1 hnσ hal hheap
      have hrbm : rbm ≠ rb := fun e => hnσ (e ▸ hσm)
      have hmap1 : w1.heap[rbm]? = some (.map en clock) := by rw [hheap _ hrbm]; exact hmap
      have st1 : Step B σ μ w σ μ w1 := ⟨fun b hb => ⟨hb, hheap b fun e => hnσ (e ▸ hb)⟩, fun _ _ h => h, fun b hb => hheap b (by omega), by omega, fun _ h => .inl h, hsm⟩
      -- held while the body runs
      have hs2 := hs1.hold (r := rb) (by omega) hal
      rw [rounds_succ]
      refine wp_seq (step_wp (b := true) (rest := #[q.key, q.val]) p1 p2 p3 p4 p5 p6 (by rw [hs.sz]; exact l2) (by rw [hs.sz]; exact l3) hptr (by simpa using hrun) ?_)
      simp only [Exit.then]
      have hs3 : SR G B n (fun b => σ b ∨ b = rb) μ (dropR [nx, more, pair] e) H ((a.put (some nx) (.tuple (#[.bool true] ++ #[q.key, q.val]))).put (some more) (.bool true)) w1 := by
        refine ((hs2.put (d := some nx) (v := .undef) (.undef _ _) (by simpa using l2)).put (d := some more) (v := .undef) (.undef _ _) (by simpa using l3)).forget fun t => ?_
        simp only [dropR, putDst, Env.set, List.any_cons, List.any_nil, Bool.or_false]
        by_cases c1 : Nat.beq t nx = true <;> by_cases c2 : Nat.beq t more = true <;> by_cases c3 : Nat.beq t pair = true <;> simp_all
      refine wp_seq (wp_cond (t := true) ?_ ?_)
      · exact get_put_eq (by rw [put_size, hs.sz]; exact l3)
      simp only [if_true]
      refine wp_skip ?_
      simp only [Exit.then]
      have hptr2 : ((a.put (some nx) (.tuple (#[.bool true] ++ #[q.key, q.val]))).put (some more) (.bool true)).tmps.getD it undef = .pointer (some ⟨rb, 0, none⟩) := by
        rw [get_put (by rw [put_size, hs.sz]; exact l3), if_neg ne2, get_put (by rw [hs.sz]; exact l2), if_neg ne1, hptr]
      generalize (a.put (some nx) (.tuple (#[.bool true] ++ #[q.key, q.val]))).put (some more) (.bool true) = a4 at hs3 hptr2 ⊢
      refine wp_block (wp_seq (wp_region ?_))
      have hrg : List.range ops2.size = 0 :: (List.range' 1 (ops2.size - 1)) := by
        have hpos : 0 < ops2.size := (Array.getElem?_eq_some_iff.1 q1).1
        obtain ⟨s, hs⟩ : ∃ s, ops2.size = s + 1 := ⟨ops2.size - 1, by omega⟩
        rw [hs, List.range_eq_range', List.range'_succ]
        simp
      rw [hrg, wpOps_cons]
      refine op_value (v := .tuple #[q.key, q.val]) (w' := w1) q1 q4 ?_ ?_
      · obtain ⟨dst, op, type, guard, after⟩ := o3
        simp only at q2
        subst q2
        have hev : a4.eval (.tmp it) = .pointer (some ⟨rb, 0, none⟩) := hptr2
        have hqm : q ∈ en.toList := (List.mem_filter.1 (List.mem_of_getElem? hj)).1
        simp only [execOp, hev]
        simp [run_entry (P := P) hrb1 hmap1 hborn hqm]
      rw [q3]
      have hs4 := hs3.put (d := some pair) (v := .tuple [rem[j].1, rem[j].2]) (x := .tuple #[q.key, q.val]) (.tuple _ _ [q.key, q.val] (.cons _ _ _ _ _ (fk _ _ _) (.cons _ _ _ _ _ (fv _ _ _) (.nil _)))) (by simpa using l4)
      obtain ⟨e2, H2, x2, e3, H3, hx1, hx2, hx3⟩ : ∃ e2 H2 x2 e3 H3, opers X (R X) xs2 ((dropR [nx, more, pair] e).set pair (.tuple [rem[j].1, rem[j].2])) H = some (e2, H2) ∧ code X (R X) Li y e2 H2 = some (x2, e3, H3) ∧
          (x2 = .normal ∨ x2 = .exit nxb) ∧ H1 = H3 ∧ ∀ t, e1 t = e3 t ∨ e1 t = .undef := by
        simp only [code, Option.bind_eq_some_iff] at hx
        obtain ⟨s2, ⟨s1, ⟨s0, g1, g2⟩, g3⟩, g4⟩ := hx
        simp only [List.all_nil, if_true, Option.some.injEq] at g2
        subst g2
        obtain ⟨x2, e3, H3⟩ := s2
        refine ⟨s0.1, s0.2, x2, e3, H3, g1, g3, ?_⟩
        cases x2 with
        | normal =>
          simp only [Option.some.injEq, Prod.mk.injEq] at g4
          obtain ⟨_, rfl, rfl⟩ := g4
          refine ⟨.inl rfl, rfl, fun t => ?_⟩
          unfold keepEnv
          split
          · exact .inl rfl
          · exact .inr rfl
        | exit i =>
          simp only [Option.some.injEq, Prod.mk.injEq] at g4
          obtain ⟨rfl, rfl, rfl⟩ := g4
          exact ⟨hxn, rfl, fun t => .inl rfl⟩
        | ret =>
          simp only [Option.some.injEq, Prod.mk.injEq] at g4
          obtain ⟨rfl, _⟩ := g4
          rcases hxn with h | h <;> cases h
      have hgo : ∀ a6 w6, Behind G B n (fun b => σ b ∨ b = rb) μ w1 e3 H3 a6 w6 → Code.rounds P (.seq (.region id1 #[o1, o2] false) (.seq (.cond (.tmp more) .skip (.exit out)) (.block nxb (.seq (.region id2 ops2 false) body)))) Q (k + 1) a6 w6 := by
        rintro a6 w6 ⟨σ6, μ6, k6, st6⟩
        have hrb6 : σ6 rb ∧ w6.heap[rb]? = w1.heap[rb]? := st6.sub rb (.inr rfl)
        have hmap6 := st6.sub rbm (.inl hσm)
        have hs6 : SR G B n (fun b => σ6 b ∧ b ≠ rb) μ6 e1 H1 a6 w6 := by
          have := k6.less (σ' := fun b => σ6 b ∧ b ≠ rb) (fun b hb hsh => ⟨hb, ?_⟩) (fun b hb => hb.1)
          · obtain ⟨g1, g2⟩ := hx3.2
            rw [g1]; exact this.forget g2
          · rintro rfl
            rcases hsh with ⟨c, ty, fz, hc⟩ | ⟨en', ck, hc⟩
            · rw [hrb6.2, hrb1] at hc; cases hc
            · rw [hrb6.2, hrb1] at hc; cases hc
        have hst : Step B σ μ w (fun b => σ6 b ∧ b ≠ rb) μ6 w6 := by
          refine st1.trans ⟨fun b hb => ⟨⟨(st6.sub b (.inl hb)).1, fun e => hnσ (e ▸ hb)⟩, (st6.sub b (.inl hb)).2⟩, st6.mu, st6.old, st6.size, fun b hb => ?_, st6.out⟩
          rcases st6.new b hb.1 with (h1 | h1) | h1
          · exact .inl h1
          · exact (hb.2 h1).elim
          · exact .inr h1
        refine ih (rem.eraseIdx j) e1 H1 a6 w6 _ μ6 (seen.push q.born) hs6 hf' hB (by have := st6.size; omega) (fun h => h.2 rfl) (fun b k m hb hk hm => ?_) (by rw [hrb6.2]; exact hrb1) (by rw [hmap6.2]; exact hmap1) ⟨hmap6.1, hrbm⟩ (by rw [heit]; exact he) (st6.mu _ _ hμ) ?_ ?_
        · intro e
          rw [hx3.2.1] at hb
          exact (k6.hr.own b k m hb hk hm).2.2 (e ▸ hrb6.1)
        · rw [left_push hborn.1 hj]; exact hrel.erase j
        · intro e' H' a' w' hT hb
          exact hq _ _ _ _ hT (Behind.trans hst hb)
      have := opers_then (Q := Exit.then (body.wp P (Exit.inBlock nxb (Exit.then (Code.rounds P (.seq (.region id1 #[o1, o2] false) (.seq (.cond (.tmp more) .skip (.exit out)) (.block nxb (.seq (.region id2 ops2 false) body)))) Q (k + 1)) Q))) (Exit.inBlock nxb (Exit.then (Code.rounds P (.seq (.region id1 #[o1, o2] false) (.seq (.cond (.tmp more) .skip (.exit out)) (.block nxb (.seq (.region id2 ops2 false) body)))) Q (k + 1)) Q))) (tail := []) hfit2 (R_ok hm hX hP) hP hxs2 hx1 hs4 (fun a5 w5 hb5 => by
        obtain ⟨σ5, μ5, k5, st5⟩ := hb5
        show body.wp P _ a5 w5
        refine sound_inf hm hX hP hy hfit e2 H2 (x2, e3, H3) B σ5 μ5 a5 w5 _ hx2 k5 fun a6 w6 hb6 => ?_
        have hb := hgo a6 w6 (Behind.trans st5 hb6)
        rcases hx3.1 with rfl | rfl
        · exact hb
        · simp only [Ex.out, Exit.inBlock, if_true]
          exact hb)
      rw [List.append_nil] at this
      exact this

/-- The map's block is no longer looked at: what it holds stays. -/
theorem SR.kill (h : SR G B n σ μ e H a w) {b : Nat} {k : Blk} {m : BM} (hb : H[b]? = some k) (hk : k.alive) (hm : μ b = some m) : SR G B n (fun c => σ c ∨ c = m.rb) μ e (H.set b .dead) a w := by
  have hs : ∀ c, σ c → (σ c ∨ c = m.rb) ∧ w.heap[c]? = w.heap[c]? := fun c hc => ⟨.inl hc, rfl⟩
  have hlt : b < H.length := (List.getElem?_eq_some_iff.1 hb).1
  have look : ∀ {c : Nat} {j : Blk}, (H.set b .dead)[c]? = some j → (c = b ∧ j = .dead) ∨ (c ≠ b ∧ H[c]? = some j) := by
    intro c j hc
    by_cases e : c = b
    · subst e; rw [List.getElem?_set_self hlt] at hc; cases hc; exact .inl ⟨rfl, rfl⟩
    · rw [List.getElem?_set_ne (Ne.symm e)] at hc; exact .inr ⟨e, hc⟩
  refine ⟨⟨fun c m hc => by simpa using h.hr.dom c m hc, fun c hc => h.hr.has c (by simpa using hc), fun c hc => ?_, h.hr.base, fun g v hg => (h.hr.glob g v hg).mono hs (fun _ _ h => h), fun c j mc hc hmc => ?_, fun c j mc hc hj hmc => ?_, fun c c' j j' mc mc' hc hj hc' hj' hmc hmc' e => ?_⟩,
    fun t => (h.er t).mono hs (fun _ _ h => h), h.sz, h.df⟩
  · rcases hc with hc | rfl
    · exact h.hr.st c hc
    · exact (h.hr.own b k m hb hk hm).2.1
  · rcases look hc with ⟨_, rfl⟩ | ⟨_, hc⟩
    · trivial
    · exact (h.hr.blk c j mc hc hmc).mono hs (fun _ _ h => h) (fun _ => rfl)
  · rcases look hc with ⟨_, rfl⟩ | ⟨hne, hc⟩
    · exact hj.elim
    · obtain ⟨g1, g2, g3⟩ := h.hr.own c j mc hc hj hmc
      refine ⟨g1, g2, ?_⟩
      rintro (g | g)
      · exact g3 g
      · exact hne (h.hr.inj c b j k mc m hc hj hb hk hmc hm g)
  · rcases look hc with ⟨_, rfl⟩ | ⟨_, hc⟩
    · exact hj.elim
    · rcases look hc' with ⟨_, rfl⟩ | ⟨_, hc'⟩
      · exact hj'.elim
      · exact h.hr.inj c c' j j' mc mc' hc hj hc' hj' hmc hmc' e

/-- A whole loop over a map: how the map is come by, then every order. -/
def RangeW (X : Prog) (xs0 : List XOper) (x0 : Arg) (xb : XCode) (keep : List Nat) (nxb it pair : Nat) (drop : List Nat) (e : Env) (H : Heap) (T : Ex → Env → Heap → Prop) : Prop :=
  ∃ e0 H0 b ks vs, opers X (R X) xs0 e H = some (e0, H0) ∧ x0.ev e0 = .map b ∧ H0[b]? = some (.map ks vs) ∧ ks.length = vs.length ∧ ks.all (ownOnly [] deep) = true ∧ vs.all (ownOnly [] deep) = true ∧
    FoldW X xb nxb it pair drop ks.length (ks.zip vs) (envOf' keep (e0.set it (.iter H0.length))) (H0.set b .dead ++ [.dead]) (fun e H => T .normal e H)
where envOf' (l : List Nat) (e : Env) : Env := keepEnv l e

def SoundW (P : Program) (G : Nat → Option AV) (n : Nat) (c : Code) (W : Env → Heap → (Ex → Env → Heap → Prop) → Prop) : Prop :=
  ∀ (e : Env) (H : Heap) (B : Nat) (σ : Nat → Prop) (μ : Mu) (a : Act) (w : World) (T : Ex → Env → Heap → Prop) (Q : Exit → Act → World → Prop), W e H T → SR G B n σ μ e H a w →
    (∀ x e' H' a' w', T x e' H' → Behind G B n σ μ w e' H' a' w' → Q x.out a' w') → c.wp P Q a w

theorem Sound.toW {c : Code} {f : Env → Heap → Option (Ex × Env × Heap)} (h : Sound P G n c f) : SoundW P G n c fun e H T => ∃ x e' H', f e H = some (x, e', H') ∧ T x e' H' := by
  rintro e H B σ μ a w T Q ⟨x, e', H', h1, h2⟩ hs hq
  exact h e H (x, e', H') B σ μ a w Q h1 hs fun a' w' hb => hq x e' H' a' w' h2 hb

theorem SoundW.seq {c d : Code} {Wc Wd : Env → Heap → (Ex → Env → Heap → Prop) → Prop} (hc : SoundW P G n c Wc) (hd : SoundW P G n d Wd) :
    SoundW P G n (.seq c d) fun e H T => Wc e H fun x e' H' => match x with | .normal => Wd e' H' T | x => T x e' H' := by
  intro e H B σ μ a w T Q hW hs hq
  refine wp_seq (hc e H B σ μ a w _ _ hW hs fun x e' H' a' w' hT hb => ?_)
  cases x with
  | normal =>
    obtain ⟨σ', μ', k1, k2⟩ := hb
    exact hd e' H' B σ' μ' a' w' T Q hT k1 fun x e'' H'' a'' w'' hT' hb' => hq _ _ _ _ _ hT' (Behind.trans k2 hb')
  | exit i => exact hq _ _ _ _ _ hT hb
  | ret => exact hq _ _ _ _ _ hT hb

theorem range_ok {h : Hints} (hm : P.follows .mixedOrders = true) (hX : ProgOK P G X) (hP : PrimOK P G X) {ops0 ops1 ops2 : Array Oper} {it nx more pair out nxb id0 id1 id2 : Nat} (sh : Shape ops1 ops2 it nx more pair n) {body : Code} {blk : Nat} {y : XCode} {xs0 xs2 : List XOper} {own0 own : Nat → Bool} {l keep : List Nat}
    {s0 : Nat} (hs0 : ops0.size = s0 + 1) {o0 : Oper} {t kt el : TypeId} {x : Operand} {x0 : Arg} (ho0 : ops0[s0]? = some o0) (hop : o0.op = .range t x) (hd0 : o0.dst = some it) (hg0 : o0.guard = none) (ht : P.underlying t = some (.map kt el)) (hx0 : compArg G x = some x0)
    (hfit0 : ∀ (i : Nat) (o : Oper), ops0[i]? = some o → operFits n ops0 o = true) (hxs0 : (List.range s0).mapM (fun i => (ops0[i]?).bind (compOper P G (own0 i) ops0)) = some xs0)
    (hfit2 : ∀ (i : Nat) (o : Oper), ops2[i]? = some o → operFits n ops2 o = true) (hxs2 : (List.range' 1 (ops2.size - 1)).mapM (fun i => (ops2[i]?).bind (compOper P G (own i) ops2)) = some xs2)
    (hy : compCode P G X h blk body = some y) (hfit : codeFits n body = true) (hkeep : keep.any (Nat.beq it) = true) :
    SoundW P G n (.seq (.region id0 ops0 false) (.block out (.loop (.seq (.region id1 ops1 false) (.seq (.cond (.tmp more) .skip (.exit out)) (.block nxb (.seq (.region id2 ops2 false) body)))))))
      (RangeW X xs0 x0 (.seq (.seq (.region xs2 []) y) (.keep l)) keep nxb it pair [nx, more, pair]) := by
  rintro e H B σ μ a w T Q ⟨e0, H0, b, ks, vs, h1, h2, h3, hlen, hfk, hfv, hF⟩ hs hq
  refine wp_seq (wp_region ?_)
  rw [hs0, List.range_succ]
  refine opers_then hfit0 (R_ok hm hX hP) hP hxs0 h1 hs fun a1 w1 hb1 => ?_
  obtain ⟨σ1, μ1, k1, st1⟩ := hb1
  have hx := RV.arg k1.hr k1.er hx0
  rw [h2] at hx
  obtain ⟨m, hxv, hmb⟩ := hx.map_inv
  obtain ⟨en, clock, b1, b2, b3, b4⟩ := k1.hr.blk b _ m h3 hmb
  obtain ⟨ow1, ow2, ow3⟩ := k1.hr.own b _ m h3 trivial hmb
  rw [wpOps_cons]
  refine op_value (v := .pointer (some ⟨w1.heap.size, 0, none⟩)) (w' := w1.alloc (.mapIter (some m.rb) clock #[] clock)) ho0 hg0 ?_ ?_
  · obtain ⟨dst, op, type, guard, after⟩ := o0
    simp only at hop
    subst hop
    simp only [execOp, hxv]
    simp [run_range ht b1]
  rw [hd0]
  show Exit.then _ _ Exit.normal _ _
  simp only [Exit.then]
  have hkill := k1.kill h3 trivial hmb
  obtain ⟨g1, g2⟩ := hkill.hr.alloc (w' := w1.alloc (.mapIter (some m.rb) clock #[] clock)) (k := .dead) (m := ⟨w1.heap.size, 0, 0, 0, 0⟩) rfl (by simp) (fun c hc => alloc_old _ hc) (fun _ _ => trivial)
  have hsz : (w1.alloc (.mapIter (some m.rb) clock #[] clock)).heap.size = w1.heap.size + 1 := by simp
  have hL0 : (H0.set b .dead).length = H0.length := by simp
  rw [hL0] at g1 g2
  have hs2 : SR G B n (fun c => σ1 c ∨ c = m.rb) (μ1.put H0.length ⟨w1.heap.size, 0, 0, 0, 0⟩) (RangeW.envOf' keep (e0.set it (.iter H0.length))) (H0.set b .dead ++ [.dead]) (a1.put (some it) (.pointer (some ⟨w1.heap.size, 0, none⟩))) (w1.alloc (.mapIter (some m.rb) clock #[] clock)) := by
    have := (hkill.step g1 g2).put (d := some it) (v := .iter H0.length) (.iter _ _ ⟨w1.heap.size, 0, 0, 0, 0⟩ (by simp [Mu.put])) (by
      intro t ht'
      have := hfit0 s0 o0 ho0
      simp only [operFits, Bool.and_eq_true, hd0] at this
      cases ht'
      simpa using this.1)
    refine this.forget fun t => ?_
    unfold RangeW.envOf' keepEnv
    split
    · exact .inl rfl
    · exact .inr rfl
  have hst : Step B σ1 μ1 w1 (fun c => σ1 c ∨ c = m.rb) (μ1.put H0.length ⟨w1.heap.size, 0, 0, 0, 0⟩) (w1.alloc (.mapIter (some m.rb) clock #[] clock)) := by
    refine ⟨fun c hc => ⟨.inl hc, (g2.sub c (.inl hc)).2⟩, g2.mu, g2.old, g2.size, fun c hc => ?_, g2.out⟩
    rcases hc with hc | rfl
    · exact .inl hc
    · exact .inr ow1
  refine wp_block (wp_loop_rounds (ks.length + 1) ?_)
  refine iter_ok (out := out) hm hX hP sh hfit2 hxs2 hy hfit (rb := w1.heap.size) (bi := H0.length) (rbm := m.rb) (m' := ⟨w1.heap.size, 0, 0, 0, 0⟩) rfl b4 ks.length (ks.zip vs) _ _ _ _ _ _ #[] hs2 hF k1.hr.base (by omega) ?_ ?_ (alloc_new _) ?_ (.inr rfl) ?_ (by simp [Mu.put]) ?_ ?_
  · rintro (hc | hc)
    · have := k1.hr.st _ hc; omega
    · omega
  · intro c k mc hc hk hmc e
    have hcl : c < H0.length + 1 := by
      have := (List.getElem?_eq_some_iff.1 hc).1
      simpa using this
    by_cases hce : c = H0.length
    · subst hce
      have : (H0.set b .dead ++ [Blk.dead])[H0.length]? = some .dead := by
        rw [List.getElem?_append_right (by simp)]; simp
      rw [this] at hc; cases hc; exact hk.elim
    · have hc' : (H0.set b .dead)[c]? = some k := by rwa [List.getElem?_append_left (by simp; omega)] at hc
      have hmc' : μ1 c = some mc := by simpa [Mu.put, hce] using hmc
      have := (hkill.hr.own c k mc hc' hk hmc').2.1
      omega
  · rw [alloc_old _ ow2]; exact b1
  · unfold RangeW.envOf' keepEnv
    rw [if_pos hkeep]
    simp [Env.set]
  · have hl0 : leftOf en #[] = en.toList := by simp [leftOf]
    rw [hl0]
    have n1 := b2.length
    have n2 := b3.length
    simp only [List.length_map] at n1 n2
    refine ⟨by rw [List.length_zip]; omega, fun i p q hp hq => ?_⟩
    rw [List.getElem?_zip_eq_some] at hp
    obtain ⟨hp1, hp2⟩ := hp
    obtain ⟨y1, z1, r1⟩ := b2.get hp1
    obtain ⟨y2, z2, r2⟩ := b3.get hp2
    rw [List.getElem?_map, hq] at z1 z2
    simp only [Option.map_some, Option.some.injEq] at z1 z2
    subst z1; subst z2
    exact ⟨flat_of (List.all_eq_true.1 hfk _ (List.mem_of_getElem? hp1)) r1, flat_of (List.all_eq_true.1 hfv _ (List.mem_of_getElem? hp2)) r2⟩
  · intro e' H' a' w' hT hb
    have hqq := hq _ _ _ _ _ hT (Behind.trans st1 (Behind.trans hst hb))
    simp only [Exit.inBlock, if_true]
    exact hqq

/-- A function that sees only what is written out, whatever orders its loops over maps take. -/
theorem func_w {f : Nat} {g : Func} {c : Code} {W : Env → Heap → (Ex → Env → Heap → Prop) → Prop} {rs : List XRes} (hg : P.funcs[f]? = some g) (hb : g.body = some c) (hW : SoundW P G g.ntmps c W) (hname : (g.name == "runtime.NumGoroutine") = false) (hrs : g.results.toList.mapM (compResult P) = some rs)
    {args : List AV} (hn : args.length ≤ g.ntmps) {v : AV} (hx : W (env0 args) [] fun x e H => (x = .normal ∨ x = .ret) ∧ ∃ u, resultsOf rs e H = some u ∧ snap H deep u = some v) : PureOK P G f args v := by
  intro σ w xs h1 hgl hv
  have hcall : (callFunc f xs.toArray).run P w = .ok (.enter f xs.toArray) w := by
    have hne : ¬ g.name = "runtime.NumGoroutine" := by simpa using hname
    simp [callFunc, hg, hne, hb]
  unfold CallOK
  rw [hcall]
  simp only
  refine calls_of_wp hg hb ?_
  have hlen := hv.length
  have hsz : (xs.toArray ++ Array.replicate (g.ntmps - xs.toArray.size) undef).size = g.ntmps := by simp; omega
  refine hW _ _ w.heap.size σ noMu _ w _ _ hx ⟨HR.empty h1 hgl, ER.start hv, hsz, rfl⟩ fun x e' H' a' w' hT hbh => ?_
  obtain ⟨hxx, u, hu, hsn⟩ := hT
  obtain ⟨σ', μ', k1, k2⟩ := hbh
  obtain ⟨z, h3, h4⟩ := results_run hrs k1.hr k1.er hu
  have hpost : PurePost σ w v z w' := by
    refine ⟨?_, k2.old, k2.size, k2.out⟩
    refine snap_ok (md := .all) (T := grownBy σ w.heap.size w'.heap.size) k1.hr (fun _ b hb => ?_) (fun b k m hb ha hm _ => ?_) hsn h4 ⟨0, rfl⟩
    · rcases k2.new b hb with h | h
      · exact .inl h
      · exact .inr ⟨h, k1.hr.st b hb⟩
    · obtain ⟨a1, a2, _⟩ := k1.hr.own b k m hb ha hm
      exact .inr ⟨a1, a2⟩
  rcases hxx with rfl | rfl
  · exact ⟨k1.df, _, h3, _, rfl, hpost⟩
  · exact ⟨k1.df, _, h3, _, rfl, hpost⟩
end
end X
end Go.Proofs.YtkaigfcjejabfaaGreatDoor
