/- The engine's regions are sound. No condition. -/
import Derived.Test.YtkaigfcjejabfaaGreatDoorXI
set_option linter.unusedSimpArgs false
set_option linter.unusedVariables false
namespace Go.Proofs.YtkaigfcjejabfaaGreatDoor
open Go
namespace X

section
variable {P : Program} {G : Nat → Option AV} {w : World} {σ : Nat → Prop} {μ : Mu} {B : Nat} {H : Heap}
variable {X : Prog} {C : Oracle} {e : Env} {a : Act}

theorem Behind.trans {n : Nat} {σ' : Nat → Prop} {μ' : Mu} {w' w'' : World} {e'' : Env} {H'' : Heap} {a'' : Act} (s : Step B σ μ w σ' μ' w') (h : Behind G B n σ' μ' w' e'' H'' a'' w'') : Behind G B n σ μ w e'' H'' a'' w'' := by
  obtain ⟨σ'', μ'', h1, h2⟩ := h
  exact ⟨σ'', μ'', h1, s.trans h2⟩

theorem SR.same {n : Nat} {w' : World} (h : SR G B n σ μ e H a w) (hw : w'.heap = w.heap) (ho : Same w w' := by exact ⟨rfl, rfl, rfl⟩) : SR G B n σ μ e H a w' ∧ Step B σ μ w σ μ w' := by
  obtain ⟨h1, h2⟩ := h.hr.same hw ho
  exact ⟨h.step h1 h2, h2⟩

/-- Operations in the order of a list. -/
theorem opers_ok {ops : Array Oper} {n : Nat} {own : Nat → Bool} (hfit : ∀ (i : Nat) (o : Oper), ops[i]? = some o → operFits n ops o = true) (hC : OracleOK P G C) (hP : PrimOK P G X) {Q : Exit → Act → World → Prop} :
    ∀ {l : List Nat} {xs : List XOper} {e : Env} {H : Heap} {r : Env × Heap} {σ : Nat → Prop} {μ : Mu} {a : Act} {w : World},
      l.mapM (fun i => (ops[i]?).bind (compOper P G (own i) ops)) = some xs → opers X C xs e H = some r → SR G B n σ μ e H a w →
      (∀ a' w', Behind G B n σ μ w r.1 r.2 a' w' → Q .normal a' w') → wpOps P ops Q l a w
  | [], xs, e, H, r, σ, μ, a, w, hc, hx, hs, hq => by
    simp at hc
    subst hc
    simp only [opers, Option.some.injEq] at hx
    subst hx
    exact hq _ _ ⟨σ, μ, hs, Step.refl _ _ _ _⟩
  | i :: l, xs, e, H, r, σ, μ, a, w, hc, hx, hs, hq => by
    simp only [List.mapM_cons, Option.pure_def, Option.bind_eq_bind, Option.bind_eq_some_iff, Option.some.injEq] at hc
    obtain ⟨x, ⟨o, hi, ho⟩, xs', hxs, rfl⟩ := hc
    simp only [opers, Option.bind_eq_some_iff] at hx
    obtain ⟨s, h1, h2⟩ := hx
    rw [wpOps_cons]
    refine oper_ok hi ho (hfit i o hi) hC hP (e' := s.1) (H' := s.2) h1 hs ?_
    rintro a' w' ⟨σ', μ', k1, k2⟩
    exact opers_ok hfit hC hP hxs h2 k1 fun a'' w'' hb => hq _ _ (Behind.trans k2 hb)

/-! ### regions that draw -/

/-- What binds lists: closed under what must come before. -/
def Closed (bs : List (List Nat)) (listed : Array Bool) : Prop := ∀ k, listed.getD k false = true → ∀ j ∈ bs.getD k [], listed.getD j false = true

theorem befores_go {bf : Oper → List (List Nat) → List Nat} : ∀ (ops : List Oper) (acc : List (List Nat)) (k : Nat), k < acc.length →
    (ops.foldl (fun acc o => acc ++ [bf o acc]) acc).getD k [] = acc.getD k []
  | [], acc, k, h => rfl
  | o :: ops, acc, k, h => by
    simp only [List.foldl_cons]
    rw [befores_go ops _ k (by simp; omega)]
    simp [List.getD_eq_getElem?_getD, List.getElem?_append_left h]

theorem befores_at {bf : Oper → List (List Nat) → List Nat} : ∀ (ops : List Oper) (acc : List (List Nat)) (k : Nat) (o : Oper), ops[k]? = some o →
    ∃ acc', (ops.foldl (fun acc o => acc ++ [bf o acc]) acc).getD (acc.length + k) [] = bf o acc' ∧
      ∀ j, acc'.getD j [] = (ops.foldl (fun acc o => acc ++ [bf o acc]) acc).getD j [] ∨ acc'.getD j [] = []
  | [], acc, k, o, h => by simp at h
  | p :: ops, acc, k, o, h => by
    simp only [List.foldl_cons]
    cases k with
    | zero =>
      simp at h
      subst h
      refine ⟨acc, ?_, fun j => ?_⟩
      · rw [Nat.add_zero, befores_go ops _ acc.length (by simp)]
        simp [List.getD_eq_getElem?_getD]
      · by_cases hj : j < acc.length
        · left
          rw [befores_go ops _ j (by simp; omega)]
          simp [List.getD_eq_getElem?_getD, List.getElem?_append_left hj]
        · right
          simp [List.getD_eq_getElem?_getD, List.getElem?_eq_none (Nat.le_of_not_lt hj)]
    | succ k =>
      simp at h
      obtain ⟨acc', h1, h2⟩ := befores_at ops (acc ++ [bf p acc]) k o h
      refine ⟨acc', ?_, h2⟩
      rw [← h1, List.length_append, List.length_singleton, Nat.add_assoc, Nat.add_comm 1 k]

theorem befores_spec {ops : Array Oper} {i : Nat} {o : Oper} (hi : ops[i]? = some o) {j : Nat} (hj : j ∈ (befores ops.toList).getD i []) :
    ∃ d ∈ o.after, Region.binds .any d = true ∧ (j = d.on ∨ j ∈ (befores ops.toList).getD d.on []) := by
  have hi' : ops.toList[i]? = some o := by simpa using hi
  obtain ⟨acc', h1, h2⟩ := befores_at (bf := fun (o : Oper) acc => (o.after.toList.filter (Region.binds .any)).flatMap fun e => e.on :: acc.getD e.on []) ops.toList [] i o hi'
  simp only [List.length_nil, Nat.zero_add] at h1
  unfold befores at hj ⊢
  rw [h1] at hj
  simp only [List.mem_flatMap, List.mem_filter, List.mem_cons] at hj
  obtain ⟨d, ⟨hd, hb⟩, hj⟩ := hj
  refine ⟨d, by simpa using hd, hb, ?_⟩
  rcases hj with hj | hj
  · exact .inl hj
  · right
    rcases h2 d.on with h | h
    · rw [← h]; exact hj
    · rw [h] at hj; simp at hj

theorem ready_spec {ops : Array Oper} {listed : Array Bool} {i : Nat} (h : i ∈ Region.ready .any ops listed) :
    ∃ o, ops[i]? = some o ∧ listed.getD i true = false ∧ ∀ d ∈ o.after, Region.binds .any d = true → listed.getD d.on false = true := by
  simp only [Region.ready, List.mem_filter, List.mem_range, Bool.and_eq_true, Bool.not_eq_true'] at h
  obtain ⟨h1, h2, h3⟩ := h
  have hi : ops[i]? = some ops[i] := by simp [h1]
  rw [hi] at h3
  simp only [Option.map_some, Option.getD_some, Array.all_eq_true_iff_forall_mem, Bool.or_eq_true, Bool.not_eq_true'] at h3
  refine ⟨_, hi, h2, fun d hd hb => ?_⟩
  rcases h3 d hd with h | h
  · rw [hb] at h; cases h
  · exact h

theorem getD_set_true {l : Array Bool} {i k : Nat} {d : Bool} : (l.setIfInBounds i true).getD k d = true ↔ (k = i ∧ k < l.size) ∨ l.getD k d = true := by
  simp only [Array.getD_eq_getD_getElem?]
  by_cases hk : i = k
  · subst hk
    by_cases hl : i < l.size
    · rw [Array.getElem?_setIfInBounds_self_of_lt hl]; simp [hl]
    · rw [Array.getElem?_eq_none (by simp; omega), Array.getElem?_eq_none (by omega)]
      simp [hl]
  · rw [Array.getElem?_setIfInBounds_ne hk]
    constructor
    · exact .inr
    · rintro (⟨rfl, _⟩ | h)
      · exact (hk rfl).elim
      · exact h

/-- Of each two: the one must come before the other, or they may change places. -/
def Pairs (X : Prog) (ef : Env) (D : Prop) (bs : List (List Nat)) : List (Nat × XOper) → Prop
  | [] => True
  | p :: rest => (∀ q ∈ rest, (bs.getD q.1 []).contains p.1 = true ∨ Goes X ef D p.2 q.2) ∧ Pairs X ef D bs rest

theorem Pairs.cut {ef : Env} {D : Prop} {bs : List (List Nat)} {p : Nat × XOper} {post : List (Nat × XOper)} : ∀ {pre : List (Nat × XOper)}, Pairs X ef D bs (pre ++ p :: post) →
    (∀ q ∈ pre, (bs.getD p.1 []).contains q.1 = true ∨ Goes X ef D q.2 p.2) ∧ Pairs X ef D bs (pre ++ post)
  | [], h => ⟨by simp, h.2⟩
  | q :: pre, h => by
    rw [List.cons_append] at h ⊢
    simp only [Pairs] at h ⊢
    obtain ⟨h1, h2⟩ := Pairs.cut h.2
    refine ⟨?_, ?_, h2⟩
    · intro z hz
      rcases List.mem_cons.1 hz with rfl | hz
      · exact h.1 p (by simp)
      · exact h1 z hz
    · intro z hz
      refine h.1 z ?_
      simp only [List.mem_append, List.mem_cons] at hz ⊢
      rcases hz with hz | hz
      · exact .inl hz
      · exact .inr (.inr hz)

theorem mapM_mem {α β : Type} {f : α → Option β} : ∀ {l : List α} {r : List β}, l.mapM f = some r → ∀ x ∈ l, ∃ y ∈ r, f x = some y
  | [], r, h, x, hx => by cases hx
  | a :: l, r, h, x, hx => by
    simp only [List.mapM_cons, Option.pure_def, Option.bind_eq_bind, Option.bind_eq_some_iff, Option.some.injEq] at h
    obtain ⟨b, hb, bs, hbs, rfl⟩ := h
    rcases List.mem_cons.1 hx with rfl | hx
    · exact ⟨b, by simp, hb⟩
    · obtain ⟨y, hy, h⟩ := mapM_mem hbs x hx
      exact ⟨y, by simp [hy], h⟩

theorem pairs_of_chk {ef : Env} {bs : List (List Nat)} : ∀ {xs : List (Nat × XOper)} {chk : List (Arg × Arg)} {D : Prop}, pairsChk X bs xs = some chk → (chk ≠ [] → D) → (∀ c ∈ chk, differ (c.1.ev ef) (c.2.ev ef) = true) → Pairs X ef D bs xs
  | [], chk, D, _, _, _ => trivial
  | p :: rest, chk, D, h, hD, hc => by
    simp only [pairsChk, Option.bind_eq_some_iff, Option.map_eq_some_iff] at h
    obtain ⟨l, hl, m, hm, rfl⟩ := h
    refine ⟨?_, pairs_of_chk hm (fun hne => hD (by intro h0; simp only [List.append_eq_nil_iff] at h0; exact hne h0.2)) fun c hcm => hc c (List.mem_append_right _ hcm)⟩
    intro q hq
    obtain ⟨y, hy, hf⟩ := mapM_mem hl q hq
    unfold pairChk at hf
    split at hf
    · rename_i hok
      simp only [Bool.or_eq_true] at hok
      rcases hok with hok | hok
      · exact .inl hok
      · exact .inr (.inl hok)
    · rw [Option.map_eq_some_iff] at hf
      obtain ⟨c, hcd, rfl⟩ := hf
      have hcm : c ∈ l.flatten ++ m := List.mem_append_left _ (List.mem_flatten.2 ⟨[c], hy, by simp⟩)
      exact .inr (.inr ⟨hD (fun h0 => by rw [h0] at hcm; cases hcm), c, hcd, hc c hcm⟩)

theorem nodup_cut {α : Type} {p : α} {pre post : List α} (h : (pre ++ p :: post).Nodup) : (pre ++ post).Nodup ∧ p ∉ pre ++ post := by
  rw [List.nodup_append] at h ⊢
  obtain ⟨h1, h2, h3⟩ := h
  rw [List.nodup_cons] at h2
  refine ⟨⟨h1, h2.2, fun a ha b hb => h3 a ha b (List.mem_cons_of_mem _ hb)⟩, ?_⟩
  intro hp
  rcases List.mem_append.1 hp with hp | hp
  · exact h3 p hp p List.mem_cons_self rfl
  · exact h2.1 hp

theorem getD_bool {l : Array Bool} {k : Nat} (hk : k < l.size) (d d' : Bool) : l.getD k d = l.getD k d' := by
  simp [Array.getD, hk]

theorem ready_some {ops : Array Oper} {listed : Array Bool} (hsz : listed.size = ops.size) (hback : backOk ops = true) : ∀ (i : Nat), i < ops.size → listed.getD i true = false → Region.ready .any ops listed ≠ [] := by
  intro i
  induction i using Nat.strongRecOn with
  | _ i ih =>
    intro hi hl
    have ho : ops[i]? = some ops[i] := by simp [hi]
    have hb : ∀ d ∈ (ops[i]).after, Region.binds .any d = true → d.on < i := by
      intro d hd hdb
      have := List.all_eq_true.1 hback i (List.mem_range.2 hi)
      simp only [ho, Array.all_eq_true_iff_forall_mem] at this
      have := this d hd
      rw [hdb] at this
      simpa using this
    by_cases hall : ∀ d ∈ (ops[i]).after, Region.binds .any d = true → listed.getD d.on false = true
    · intro hnil
      have : i ∈ Region.ready .any ops listed := by
        simp only [Region.ready, List.mem_filter, List.mem_range, Bool.and_eq_true, Bool.not_eq_true']
        refine ⟨hi, hl, ?_⟩
        rw [ho]
        simp only [Option.map_some, Option.getD_some, Array.all_eq_true_iff_forall_mem, Bool.or_eq_true, Bool.not_eq_true']
        intro d hd
        cases hdb : Region.binds .any d with
        | false => exact .inl rfl
        | true => exact .inr (hall d hd hdb)
      rw [hnil] at this
      cases this
    · simp only [Classical.not_forall] at hall
      obtain ⟨d, hd, hdb, hn⟩ := hall
      have hlt := hb d hd hdb
      refine ih d.on hlt (by omega) ?_
      rw [getD_bool (by omega) true false]
      simpa using hn

/-- A region that draws: whatever order is drawn, the engine's order says what comes of it. -/
theorem any_ok {ops : Array Oper} {n : Nat} {own : Nat → Bool} {D : Prop} (hfit : ∀ (i : Nat) (o : Oper), ops[i]? = some o → operFits n ops o = true) (hback : backOk ops = true) (hC : OracleOK P G C) (hP : PrimOK P G X) {Q : Exit → Act → World → Prop} :
    ∀ (fuel : Nat) {xs : List (Nat × XOper)} {listed : Array Bool} {e : Env} {H : Heap} {r : Env × Heap} {σ : Nat → Prop} {μ : Mu} {a : Act} {w : World}, xs.length = fuel →
      (∀ p ∈ xs, (ops[p.1]?).bind (compOper P G (own p.1) ops) = some p.2) → Pairs X r.1 D (befores ops.toList) xs → (D → stable (xs.map (·.2)) = true) → listed.size = ops.size →
      Closed (befores ops.toList) listed → (xs.map (·.1)).Nodup → (∀ i, i < ops.size → (listed.getD i true = false ↔ i ∈ xs.map (·.1))) →
      opers X C (xs.map (·.2)) e H = some r → SR G B n σ μ e H a w →
      (∀ a' w', Behind G B n σ μ w r.1 r.2 a' w' → Q .normal a' w') → wpAny P .any ops Q fuel listed a w := by
  intro fuel
  induction fuel with
  | zero =>
    intro xs listed e H r σ μ a w hlen hcomp hpairs hstab hsz hclosed hnd hmem hx hs hq
    obtain rfl := List.length_eq_zero_iff.1 hlen
    simp only [List.map_nil, opers, Option.some.injEq] at hx
    subst hx
    refine ⟨?_, hq _ _ ⟨σ, μ, hs, Step.refl _ _ _ _⟩⟩
    rw [List.eq_nil_iff_forall_not_mem]
    intro i hi
    obtain ⟨o, ho, hl, _⟩ := ready_spec hi
    have := (hmem i (by simpa using (Array.getElem?_eq_some_iff.1 ho).1)).1 hl
    simp at this
  | succ fuel ih =>
    intro xs listed e H r σ μ a w hlen hcomp hpairs hstab hsz hclosed hnd hmem hx hs hq
    have hne : Region.ready .any ops listed ≠ [] := by
      cases xs with
      | nil => simp at hlen
      | cons p xs =>
        have hp : p.1 < ops.size := by
          have := hcomp p (by simp)
          rw [Option.bind_eq_some_iff] at this
          obtain ⟨o, ho, _⟩ := this
          simpa using (Array.getElem?_eq_some_iff.1 ho).1
        exact ready_some hsz hback p.1 hp ((hmem p.1 hp).2 (by simp))
    refine ⟨fun h => (hne h).elim, fun i hi => ?_⟩
    obtain ⟨o, ho, hl, hdeps⟩ := ready_spec hi
    have hilt : i < ops.size := by simpa using (Array.getElem?_eq_some_iff.1 ho).1
    obtain ⟨p, hp, hpi⟩ := List.mem_map.1 ((hmem i hilt).1 hl)
    obtain ⟨pre, post, rfl⟩ := List.append_of_mem hp
    obtain ⟨j, x⟩ := p
    simp only at hpi
    subst hpi
    obtain ⟨hflip, hpairs'⟩ := Pairs.cut hpairs
    have hlistedBefore : ∀ k ∈ (befores ops.toList).getD j [], listed.getD k false = true := by
      intro k hk
      obtain ⟨d, hd, hb, hk⟩ := befores_spec ho hk
      have hdl := hdeps d hd hb
      rcases hk with rfl | hk
      · exact hdl
      · exact hclosed _ hdl k hk
    have hfl : ∀ z ∈ pre.map (·.2), Goes X r.1 D z x := by
      intro z hz
      obtain ⟨q, hq', rfl⟩ := List.mem_map.1 hz
      rcases hflip q hq' with h | h
      · have hq1 := hlistedBefore q.1 (by simpa using h)
        have hqlt : q.1 < ops.size := by
          have := hcomp q (by simp [hq'])
          rw [Option.bind_eq_some_iff] at this
          obtain ⟨o', ho', _⟩ := this
          simpa using (Array.getElem?_eq_some_iff.1 ho').1
        have hq2 := (hmem q.1 hqlt).2 (by simp only [List.map_append, List.mem_append, List.mem_map]; exact .inl ⟨q, hq', rfl⟩)
        rw [getD_bool (by omega) true false, hq1] at hq2
        cases hq2
      · exact h
    have hx' : opers X C (x :: (pre.map (·.2) ++ post.map (·.2))) e H = some r := by
      refine opers_front hfl (fun hD => by simpa using hstab hD) ?_
      simpa using hx
    simp only [opers, Option.bind_eq_some_iff] at hx'
    obtain ⟨s, h1, h2⟩ := hx'
    have hcx := hcomp (j, x) (by simp)
    rw [Option.bind_eq_some_iff] at hcx
    obtain ⟨o', ho', hcx⟩ := hcx
    refine oper_ok ho' hcx (hfit j o' ho') hC hP (e' := s.1) (H' := s.2) h1 hs ?_
    rintro a' w' ⟨σ', μ', k1, k2⟩
    have hnd' : (pre.map (·.1) ++ post.map (·.1)).Nodup ∧ j ∉ pre.map (·.1) ++ post.map (·.1) := nodup_cut (by simpa using hnd)
    refine ih (xs := pre ++ post) (r := r) (e := s.1) (H := s.2) ?_ ?_ hpairs' (fun hD => by have := hstab hD; simp only [List.map_append, List.map_cons] at this ⊢; exact stable_cut this) (by simpa using hsz) ?_ (by simpa using hnd'.1) ?_ (by simpa using h2) k1 fun a'' w'' hb => hq _ _ (Behind.trans k2 hb)
    · simp at hlen ⊢; omega
    · intro p hp
      refine hcomp p ?_
      simp only [List.mem_append, List.mem_cons] at hp ⊢
      rcases hp with hp | hp
      · exact .inl hp
      · exact .inr (.inr hp)
    · intro k hk m hm
      rw [getD_set_true] at hk ⊢
      rcases hk with ⟨rfl, _⟩ | hk
      · exact .inr (hlistedBefore m hm)
      · exact .inr (hclosed k hk m hm)
    · intro k hk
      have hkd : ((listed.setIfInBounds j true).getD k true = false) ↔ (k ≠ j ∧ listed.getD k true = false) := by
        have h := getD_set_true (l := listed) (i := j) (k := k) (d := true)
        constructor
        · intro hf
          rw [← Bool.not_eq_true, h] at hf
          refine ⟨fun hkj => hf (.inl ⟨hkj, by omega⟩), ?_⟩
          cases hg : listed.getD k true with
          | false => rfl
          | true => exact (hf (.inr hg)).elim
        · rintro ⟨h3, h4⟩
          rw [← Bool.not_eq_true, h]
          rintro (⟨h5, _⟩ | h5)
          · exact h3 h5
          · rw [h4] at h5; cases h5
      rw [hkd, hmem k hk]
      simp only [List.map_append, List.map_cons, List.mem_append, List.mem_cons]
      constructor
      · rintro ⟨h5, h6 | h6 | h6⟩
        · exact .inl h6
        · exact (h5 h6).elim
        · exact .inr h6
      · intro h5
        refine ⟨?_, ?_⟩
        · rintro rfl
          exact hnd'.2 (by simpa using h5)
        · rcases h5 with h5 | h5
          · exact .inl h5
          · exact .inr (.inr h5)

theorem order_spec {f : Nat → Option XOper} : ∀ {l : List Nat} {xs : List (Nat × XOper)}, l.mapM (fun i => (f i).map fun x => (i, x)) = some xs → xs.map (·.1) = l ∧ ∀ p ∈ xs, f p.1 = some p.2
  | [], xs, h => by simp at h; subst h; simp
  | i :: l, xs, h => by
    simp only [List.mapM_cons, Option.pure_def, Option.bind_eq_bind, Option.bind_eq_some_iff, Option.some.injEq, Option.map_eq_some_iff] at h
    obtain ⟨p, ⟨x, hx, rfl⟩, ys, hys, rfl⟩ := h
    obtain ⟨h1, h2⟩ := order_spec hys
    refine ⟨by simp [h1], ?_⟩
    intro q hq
    rcases List.mem_cons.1 hq with rfl | hq
    · exact hx
    · exact h2 q hq

theorem nodup_of_distinct : ∀ {l : List Nat}, distinct l = true → l.Nodup
  | [], _ => List.nodup_nil
  | x :: xs, h => by
    simp only [distinct, Bool.and_eq_true, Bool.not_eq_true'] at h
    refine List.nodup_cons.2 ⟨fun hx => ?_, nodup_of_distinct h.2⟩
    have := h.1
    rw [← Bool.not_eq_true] at this
    exact this (List.any_eq_true.2 ⟨x, hx, by simp⟩)

/-- A compiled region. -/
theorem region_ok {id : Nat} {ops : Array Oper} {draw : Bool} {n : Nat} {h : Hints} {c : XCode} (hm : P.follows .mixedOrders = true) (hfit : ops.toList.all (operFits n ops) = true) (hC : OracleOK P G C) (hP : PrimOK P G X)
    {Q : Exit → Act → World → Prop} (hc : compRegion P G X h id ops draw = some c) {L : (Env → Heap → Option (Ex × Env × Heap)) → Env → Heap → Option (Ex × Env × Heap)} {r : Ex × Env × Heap}
    (hx : code X C L c e H = some r) (hs : SR G B n σ μ e H a w) (hq : r.1 = .normal → ∀ a' w', Behind G B n σ μ w r.2.1 r.2.2 a' w' → Q .normal a' w') : (Code.region id ops draw).wp P Q a w := by
  have hfit' : ∀ (i : Nat) (o : Oper), ops[i]? = some o → operFits n ops o = true := by
    intro i o ho
    refine List.all_eq_true.1 hfit o ?_
    exact List.mem_of_getElem? (by simpa using ho)
  unfold compRegion at hc
  cases draw with
  | false =>
    simp only [Bool.not_false, if_true, Option.map_eq_some_iff] at hc
    obtain ⟨xs, hxs, rfl⟩ := hc
    simp only [code, Option.bind_eq_some_iff] at hx
    obtain ⟨s, hs', hx⟩ := hx
    split at hx
    · cases hx
      exact wp_region (opers_ok hfit' hC hP hxs hs' hs (hq rfl))
    · cases hx
  | true =>
    simp only [Bool.not_true, Bool.false_eq_true, if_false, Option.bind_eq_some_iff] at hc
    obtain ⟨xs, hxs, hc⟩ := hc
    split at hc
    · rename_i hck
      obtain ⟨hdist, hlen, hall, hback⟩ := hck
      rw [Option.bind_eq_some_iff] at hc
      obtain ⟨chk, hchk, hc⟩ := hc
      split at hc
      · rename_i hst
        cases hc
        simp only [code, Option.bind_eq_some_iff] at hx
        obtain ⟨s, hs', hx⟩ := hx
        split at hx
        · rename_i hdiff
          cases hx
          obtain ⟨hs1, hstep⟩ := hs.same (w' := { w with drawn := w.drawn + 1 }) rfl
          obtain ⟨hfst, hcomp⟩ := order_spec hxs
          refine wp_region_any hm ?_
          have hlen' : xs.length = ops.size := by
            rw [← hlen, ← hfst, List.length_map]
          have hpairs : Pairs X s.1 (chk ≠ []) (befores ops.toList) xs := pairs_of_chk hchk (fun h => h) (by simpa using hdiff)
          have hstab : chk ≠ [] → stable (xs.map (·.2)) = true := by
            intro hne
            simp only [Bool.or_eq_true, List.isEmpty_iff] at hst
            exact hst.resolve_left hne
          refine any_ok hfit' hback hC hP ops.size (xs := xs) (r := s) (e := e) (H := H) (own := h.own id) hlen' hcomp hpairs hstab (by simp) ?_ ?_ ?_ hs' hs1 fun a' w' hb => hq rfl _ _ (Behind.trans hstep hb)
          · intro k hk
            simp [Array.getD] at hk
          · rw [hfst]
            exact nodup_of_distinct hdist
          · intro i hi
            rw [hfst]
            have := List.all_eq_true.1 hall i (List.mem_range.2 hi)
            simp only [Array.getD, Array.size_replicate, hi, dif_pos, Array.getInternal_eq_getElem, Array.getElem_replicate, true_iff]
            simpa using this
        · cases hx
      · cases hc
    · cases hc
end
end X
end Go.Proofs.YtkaigfcjejabfaaGreatDoor
