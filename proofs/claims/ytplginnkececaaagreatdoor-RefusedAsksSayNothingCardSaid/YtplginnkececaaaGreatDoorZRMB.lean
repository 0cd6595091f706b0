/- Asks that are right: each by itself, and in order; what is left out of them. Sorting by insertion of elements api_Standing: what the library's functions compute. What Refused and Standings answer. No condition. -/
import Derived.Test.YtplginnkececaaaGreatDoorZRJ
import Derived.Test.YtplginnkececaaaGreatDoorZRI
set_option linter.unusedSimpArgs false
set_option linter.unusedVariables false
namespace Go.Proofs.YtplginnkececaaaGreatDoor
open Go
namespace Y
open X

theorem cmpI_pos {a b : Int} : 0 < cmpI b a ↔ a < b := by
  unfold cmpI
  by_cases h1 : b < a
  · rw [if_pos h1]; constructor <;> intro h <;> omega
  · rw [if_neg h1]
    by_cases h2 : a < b
    · rw [if_pos h2]; constructor <;> intro h <;> omega
    · rw [if_neg h2]; constructor <;> intro h <;> omega

theorem cmpI_zero {a b : Int} : cmpI a b = 0 ↔ a = b := by
  unfold cmpI
  by_cases h1 : a < b
  · rw [if_pos h1]; constructor <;> intro h <;> omega
  · rw [if_neg h1]
    by_cases h2 : b < a
    · rw [if_pos h2]; constructor <;> intro h <;> omega
    · rw [if_neg h2]; constructor <;> intro h <;> omega

theorem cmpS_zero {s t : Str} : cmpS s t = 0 ↔ s = t := by
  unfold cmpS
  cases h1 : lt s t with
  | true => simp; exact lt_ne h1
  | false => by_cases h2 : s = t <;> simp [h2]

theorem cmpS_pos {s t : Str} : 0 < cmpS t s ↔ lt s t = true := by
  rw [cmpS_anti, ← cmpS_neg]; omega

theorem byAsk_pos {a b : Ask} : 0 < byAsk b a ↔ a.at' < b.at' ∨ (a.at' = b.at' ∧ (lt a.ride.id b.ride.id = true ∨ (a.ride.id = b.ride.id ∧ a.kind < b.kind))) := by
  unfold byAsk
  by_cases h1 : cmpI b.at' a.at' = 0
  · rw [if_neg (by simpa using h1)]
    have e1 := cmpI_zero.1 h1
    by_cases h2 : cmpS b.ride.id a.ride.id = 0
    · rw [if_neg (by simpa using h2)]
      have e2 := cmpS_zero.1 h2
      rw [cmpI_pos]
      rw [e1, e2]
      have := lt_irrefl a.ride.id
      simp [this]
    · rw [if_pos (by simpa using h2), cmpS_pos]
      have e2 : ¬ a.ride.id = b.ride.id := fun e => h2 (cmpS_zero.2 e.symm)
      simp [e1, e2]
  · rw [if_pos (by simpa using h1), cmpI_pos]
    have e1 : ¬ a.at' = b.at' := fun e => h1 (cmpI_zero.2 e.symm)
    simp [e1]

theorem byAsk_trans {a b c : Ask} (h1 : 0 < byAsk b a) (h2 : 0 < byAsk c b) : 0 < byAsk c a := by
  rw [byAsk_pos] at *
  rcases h1 with h1 | ⟨e1, h1⟩
  · rcases h2 with h2 | ⟨e2, _⟩
    · exact .inl (by omega)
    · exact .inl (by omega)
  · rcases h2 with h2 | ⟨e2, h2⟩
    · exact .inl (by omega)
    · refine .inr ⟨by omega, ?_⟩
      rcases h1 with h1 | ⟨f1, h1⟩
      · rcases h2 with h2 | ⟨f2, h2⟩
        · exact .inl (lt_trans h1 h2)
        · exact .inl (f2 ▸ h1)
      · rcases h2 with h2 | ⟨f2, h2⟩
        · exact .inl (f1.symm ▸ h2)
        · exact .inr ⟨f1.trans f2, by omega⟩

/-- Asks that are right by themselves, and in order. -/
structure Right (l : List Ask) : Prop where
  ok : ∀ a ∈ l, askFault a = 0
  pw : l.Pairwise fun a b => 0 < byAsk b a

def lateBy (p : Option Ask) (a : Ask) : Bool :=
  match p with
  | some q => decide (byAsk a q ≤ 0)
  | none => false

theorem asksGo_cons (p : Option Ask) (a : Ask) (l : List Ask) : asksGo p (a :: l) = if askFault a ≠ 0 then askFault a else if lateBy p a = true then 7 else asksGo (some a) l := by
  cases p <;> rfl

theorem asksGo_right : ∀ (l : List Ask) (p : Option Ask), asksGo p l = 0 ↔ (∀ a ∈ l, askFault a = 0) ∧ (∀ a b, p = some a → l.head? = some b → 0 < byAsk b a) ∧ l.Pairwise fun a b => 0 < byAsk b a
  | [], p => by simp [asksGo]
  | a :: l, p => by
    rw [asksGo_cons]
    by_cases h0 : askFault a = 0
    · rw [if_neg (by simpa using h0)]
      have ih := asksGo_right l (some a)
      by_cases hp : lateBy p a = true
      · rw [if_pos hp]
        constructor
        · intro h; cases h
        · rintro ⟨_, h2, _⟩
          cases p with
          | none => cases hp
          | some q =>
            have := h2 q a rfl rfl
            simp only [lateBy, decide_eq_true_eq] at hp
            omega
      · rw [if_neg hp, ih]
        constructor
        · rintro ⟨h1, h2, h3⟩
          refine ⟨fun x hx => ?_, fun q b hq hb => ?_, ?_⟩
          · rcases List.mem_cons.1 hx with rfl | hx
            · exact h0
            · exact h1 x hx
          · simp at hb; subst hb
            subst hq
            simp only [lateBy, decide_eq_true_eq] at hp; omega
          · rw [List.pairwise_cons]
            refine ⟨fun x hx => ?_, h3⟩
            cases l with
            | nil => cases hx
            | cons y l =>
              have hy := h2 a y rfl rfl
              rcases List.mem_cons.1 hx with rfl | hx
              · exact hy
              · rw [List.pairwise_cons] at h3
                exact byAsk_trans hy (h3.1 x hx)
        · rintro ⟨h1, h2, h3⟩
          rw [List.pairwise_cons] at h3
          refine ⟨fun x hx => h1 x (by simp [hx]), fun q b hq hb => ?_, h3.2⟩
          obtain rfl := Option.some.inj hq
          exact h3.1 b (List.mem_of_head? hb)
    · rw [if_pos (by simpa using h0)]
      constructor
      · intro h; exact absurd h h0
      · rintro ⟨h1, _⟩; exact absurd (h1 a (by simp)) h0

theorem asksFault_right {l : List Ask} (hl : l.length ≤ 2000) : asksFault l = 0 ↔ Right l := by
  unfold asksFault
  rw [if_neg (by omega), asksGo_right]
  constructor
  · rintro ⟨h1, _, h3⟩; exact ⟨h1, h3⟩
  · rintro ⟨h1, h3⟩; exact ⟨h1, fun _ _ h => (by cases h), h3⟩

theorem Right.sub {l m : List Ask} (h : Right l) (hs : m.Sublist l) : Right m := ⟨fun a ha => h.ok a (hs.subset ha), h.pw.sublist hs⟩

theorem Right.sorted {l : List Ask} (h : Right l) : l.Pairwise fun a b => a.at' ≤ b.at' := h.pw.imp fun hab => by rw [byAsk_pos] at hab; omega

theorem moment_iff {n : Int} : moment n = true ↔ 0 ≤ n ∧ n < endT := by
  unfold moment out endT; simp; omega

theorem askOk_of {a : Ask} (hs : SaneA a) (h : askFault a = 0) : AskOk a := by
  unfold askFault at h
  split at h
  · cases h
  rename_i hm
  split at h
  · cases h
  rename_i hk
  have hm : 0 ≤ a.at' ∧ a.at' < endT := by
    rw [← moment_iff]; simpa using hm
  have hk : 1 ≤ a.kind ∧ a.kind ≤ 4 := by
    unfold out at hk; simp at hk; omega
  have hid : isKey a.ride.id = true → a.ride.id ∈ idsR := by
    intro hk
    rcases hs.ride.id with h | h | h
    · exact h
    · rw [h] at hk; cases hk
    · rw [h] at hk; exact absurd hk (by decide)
  have ht : 0 ≤ a.at' ∧ a.at' ≤ 1000000000000 := by unfold endT at hm; omega
  have hkk : a.kind = 1 ∨ a.kind = 2 ∨ a.kind = 3 ∨ a.kind = 4 := by omega
  split at h
  · rename_i h12
    unfold rideFault at h
    split at h
    · cases h
    rename_i hkeys
    split at h
    · cases h
    split at h
    · cases h
    rename_i hnum
    simp only [Bool.not_eq_true', Bool.not_eq_false, Bool.and_eq_true] at hkeys
    simp only [Bool.or_eq_true, not_or, Bool.not_eq_true, out, Bool.or_eq_false_iff, decide_eq_false_iff_not] at hnum
    refine ⟨hs.fit, hid hkeys.1.1.1, fun _ => ?_, hkk, ht⟩
    unfold Ride.size; omega
  · rename_i h12
    split at h
    · cases h
    rename_i hkeys
    simp only [Bool.not_eq_true', Bool.not_eq_false, Bool.and_eq_true] at hkeys
    exact ⟨hs.fit, hid hkeys.1, fun e => absurd e h12, hkk, ht⟩

/-! ### riders and rooms that the streams hand out -/

theorem riders_right {a c d : Int} {n : Nat} (ha : a ∈ ([1, 2, 3, 9] : List Int)) (hc : c ∈ ([2, 4, 9] : List Int)) (hd : d ∈ ([0, 1, 5] : List Int)) (hn : n = 2 ∨ n = 3) : ridersFault ((ridersOf a c d).take n) = 0 ∧ (∀ r ∈ (ridersOf a c d).take n, r.key.length < 1000000) ∧ ((ridersOf a c d).take n).length < 1000000 := by
  simp only [List.mem_cons, List.not_mem_nil, or_false] at ha hc hd
  rcases ha with rfl | rfl | rfl | rfl <;> rcases hc with rfl | rfl | rfl <;> rcases hd with rfl | rfl | rfl <;> rcases hn with rfl | rfl <;> decide

theorem rooms_right : ∀ {l : List Room} {p : Option Room} {f : Int}, RoomsTo f l → f ≤ endT → (∀ q, p = some q → ∀ r ∈ l, q.to ≤ r.frm) → roomsGo p l = 0
  | [], _, _, _, _, _ => rfl
  | r :: l, p, f, h, hf, hp => by
    have h1 := h.all r (by simp)
    have h2 := List.pairwise_cons.1 h.pw
    unfold roomsGo
    rw [if_neg (by unfold out endT at *; simp; omega)]
    rw [if_neg]
    · exact rooms_right (f := f) ⟨h2.2, fun x hx => h.all x (by simp [hx])⟩ hf fun q hq x hx => by
        obtain rfl := Option.some.inj hq
        exact h2.1 x hx
    · cases p with
      | none => simp
      | some q =>
        have := hp q rfl r (by simp)
        simp; omega

theorem roomsFault_right {l : List Room} {f : Int} (h : RoomsTo f l) (hf : f ≤ endT) (hl : l.length ≤ 200) : roomsFault l = 0 := by
  unfold roomsFault
  rw [if_neg (by omega)]
  exact rooms_right h hf fun q hq => by cases hq

/-! ### what is left out -/

theorem mem_nums {k : Int} : ∀ {bs : List Bool} {i : Nat}, k ∈ Desk.nums i bs ↔ ∃ j, bs[j]? = some false ∧ k = ((i + j : Nat) : Int)
  | [], i => by simp [Desk.nums]
  | b :: bs, i => by
    unfold Desk.nums
    cases b with
    | true =>
      simp only [if_true]
      rw [mem_nums]
      constructor
      · rintro ⟨j, h1, h2⟩; exact ⟨j + 1, by simpa using h1, by omega⟩
      · rintro ⟨j, h1, h2⟩
        cases j with
        | zero => simp at h1
        | succ j => exact ⟨j, by simpa using h1, by omega⟩
    | false =>
      simp only [Bool.false_eq_true, if_false, List.mem_cons]
      rw [mem_nums]
      constructor
      · rintro (rfl | ⟨j, h1, h2⟩)
        · exact ⟨0, rfl, by omega⟩
        · exact ⟨j + 1, by simpa using h1, by omega⟩
      · rintro ⟨j, h1, h2⟩
        cases j with
        | zero => exact .inl (by omega)
        | succ j => exact .inr ⟨j, by simpa using h1, by omega⟩

theorem oks_len : ∀ (l : List Ask) (D : Desk), (Desk.oks D l).length = l.length
  | [], D => rfl
  | a :: l, D => by
    unfold Desk.oks
    split <;> simp [oks_len l]

theorem sel_sub : ∀ (bs : List Bool) (l : List Ask), (Desk.sel bs l).Sublist l
  | [], l => by simp [Desk.sel]
  | _ :: _, [] => by simp [Desk.sel]
  | b :: bs, a :: l => by
    unfold Desk.sel
    cases b
    · exact (sel_sub bs l).cons _
    · exact (sel_sub bs l).cons_cons _

theorem sel_take {bs : List Bool} {l : List Ask} (hl : bs.length = l.length) {i : Nat} (hi : i < l.length) : Desk.sel (bs.take (i + 1)) (l.take (i + 1)) = Desk.sel (bs.take i) (l.take i) ++ if bs[i]? = some true then [l[i]] else [] := by
  induction i generalizing bs l with
  | zero =>
    cases l with
    | nil => simp at hi
    | cons a l =>
      cases bs with
      | nil => simp at hl
      | cons b bs => cases b <;> simp [Desk.sel]
  | succ i ih =>
    cases l with
    | nil => simp at hi
    | cons a l =>
      cases bs with
      | nil => simp at hl
      | cons b bs =>
        have := ih (bs := bs) (l := l) (by simpa using hl) (by simpa using hi)
        simp only [List.take_succ_cons, Desk.sel, List.getElem?_cons_succ, List.getElem_cons_succ]
        rw [this]
        cases b <;> simp
end Y
end Go.Proofs.YtplginnkececaaaGreatDoor

set_option linter.unusedSimpArgs false
set_option linter.unusedVariables false
namespace Go.Proofs.YtplginnkececaaaGreatDoor
open Go
namespace Y
open X

section
variable {α : Type} {enc : α → AV} {c : α → α → Int} {cmp v : AV} {A : α → Prop} {P : Heap → Prop}

theorem insIn_api_Standing (hz : Lay 10 (some 10) enc) (hc : Cmp A P enc cmp c) (hP : Steady P v) {i : AV} {n : AV} {k2 : AV → AV → AV → AV → AV → Heap → Option (AV × Heap)} {Q : AV → Heap → Prop} (r : List α) :
    ∀ (x : α) (s t : List α) (H : Heap), (r.length + s.length + t.length < 1000000) → (∀ a ∈ x :: r, A a) → P H → Own H 10 v ((r.reverse ++ x :: s ++ t).map enc) →
    (∀ H', P H' → Own H' 10 v ((sink c r x s ++ t).map enc) → Keeps H H' v v → H'.length = H.length → Yl (k2 v (I 0) n cmp i H') Q) → Yl (l_slices_insertionSortCmpFunc_api_Standing_0 v (I 0) n cmp i (I r.length) H k2) Q := by
  induction r with
  | nil =>
    intro x s t H hl hA hp ho hk
    refine l_slices_insertionSortCmpFunc_api_Standing_0_s _ _ _ _ _ _ _ _ ?_
    simp only [SS, List.length_nil]
    rw [if_neg (by omega)]
    exact hk H hp (by simpa [sink] using ho) (.refl _ _) rfl
  | cons y r ih =>
    intro x s t H hl hA hp ho hk
    refine l_slices_insertionSortCmpFunc_api_Standing_0_s _ _ _ _ _ _ _ _ ?_
    have he : (y :: r).reverse ++ x :: s ++ t = r.reverse ++ y :: x :: (s ++ t) := by simp
    rw [he] at ho
    have hlen : (r.reverse ++ y :: x :: (s ++ t)).length = r.length + (s.length + t.length) + 2 := by simp; omega
    have g1 : (r.reverse ++ y :: x :: (s ++ t))[r.length + 1]'(by omega) = x := by simp [List.getElem_append_right]
    have g0 : (r.reverse ++ y :: x :: (s ++ t))[r.length]'(by omega) = y := by simp [List.getElem_append_right]
    obtain ⟨p1, e1, e2⟩ := ho.loadL hz (i := r.length + 1) (by omega)
    obtain ⟨p0, e3, e4⟩ := ho.loadL hz (i := r.length) (by omega)
    simp only [List.length_cons] at hl
    simp only [SS, List.length_cons]
    rw [if_pos (by omega)]
    simp only [e1, e2, SS]
    rw [pred64 _ _ (by omega) (by omega)]
    simp only [e3, e4, SS, Nat.add_sub_cancel, g0, g1]
    rw [hc x y H _ (hA x (by simp)) (hA y (by simp)) hp]
    simp only [SS]
    by_cases hlt : c x y < 0
    · rw [if_pos hlt, pred64 _ _ (by omega) (by omega)]
      simp only [e3, e4, e1, e2, SS, Nat.add_sub_cancel, g0, g1]
      obtain ⟨q1, H1, f1, f2, o1, k1, l1⟩ := ho.storeL hz (i := r.length + 1) (by omega) y
      obtain ⟨q0, H2, f3, f4, o2, k2', l2⟩ := o1.storeL hz (i := r.length) (by rw [List.length_set]; omega) x
      rw [show p1 = q1 by rw [e1] at f1; exact Option.some.inj f1]
      simp only [f2, f3, f4, SS]
      rw [pred64 _ _ (by omega) (by omega)]
      simp only [SS, Nat.add_sub_cancel]
      have hset : ((r.reverse ++ y :: x :: (s ++ t)).set (r.length + 1) y).set r.length x = r.reverse ++ x :: (y :: s) ++ t := by
        have := swap_at r.reverse y x (s ++ t)
        rw [List.length_reverse] at this
        rw [this]; simp
      rw [hset] at o2
      refine ih x (y :: s) t H2 (by simp; omega) (fun a ha => hA a (by simp at ha ⊢; rcases ha with h | h <;> simp [h])) (hP _ _ (hP _ _ hp k1 l1) k2' l2) o2 fun H' hp' o' kp ll => ?_
      refine hk H' hp' ?_ ((k1.trans k2').trans kp) (by omega)
      simpa [sink, hlt] using o'
    · rw [if_neg hlt]
      refine hk H hp ?_ (.refl _ _) rfl
      simp only [sink, hlt, if_false]
      simpa using ho

theorem insOut_api_Standing (hz : Lay 10 (some 10) enc) (hc : Cmp A P enc cmp c) (hP : Steady P v) {k0 : Heap → Option (AV × Heap)} {Q : AV → Heap → Prop} (t : List α) :
    ∀ (d : List α) (H : Heap), d.length + t.length < 1000000 → (∀ a ∈ d ++ t, A a) → P H → Own H 10 v ((d ++ t).map enc) → (∀ H', P H' → Own H' 10 v ((sortGo c d t).map enc) → Keeps H H' v v → H'.length = H.length → Yl (k0 H') Q) →
    Yl (l_slices_insertionSortCmpFunc_api_Standing_1 v (I 0) (I ((d.length + t.length : Nat) : Int)) cmp (I d.length) H k0) Q := by
  induction t with
  | nil =>
    intro d H hl hA hp ho hk
    refine l_slices_insertionSortCmpFunc_api_Standing_1_s _ _ _ _ _ _ _ ?_
    simp only [SS, List.length_nil]
    rw [if_neg (by omega)]
    exact hk H hp (by simpa [sortGo] using ho) (.refl _ _) rfl
  | cons x t ih =>
    intro d H hl hA hp ho hk
    refine l_slices_insertionSortCmpFunc_api_Standing_1_s _ _ _ _ _ _ _ ?_
    simp only [List.length_cons] at hl ⊢
    simp only [SS]
    rw [if_pos (by omega)]
    have := insIn_api_Standing (v := v) hz hc hP (i := I d.length) (n := I ((d.length + (t.length + 1) : Nat) : Int)) (k2 := fun v0_1 v1_1 v2_1 v3_1 v8_1 H4 =>
      (binAV H4 .add (.one .int) v8_1 (.int .i64 1)).bind fun v16 => l_slices_insertionSortCmpFunc_api_Standing_1 v0_1 v1_1 v2_1 v3_1 v16 H4 k0) (Q := Q) d.reverse x [] t H (by simp; omega) (fun a ha => hA a (by simp at ha ⊢; rcases ha with h | h <;> simp [h])) hp (by simpa using ho) (fun H' hp' o' kp ll => by
        rw [succ64 _ _ (by omega)]
        simp only [SS]
        have hsl : (sink c d.reverse x []).length = d.length + 1 := by rw [sink_len]; simp
        have hm : ∀ a ∈ sink c d.reverse x [] ++ t, A a := by
          intro a ha
          refine hA a ?_
          rcases List.mem_append.1 ha with h | h
          · have := (sink_perm c d.reverse x []).subset h
            simp at this
            rcases this with h | h <;> simp [h]
          · simp [h]
        have := ih (sink c d.reverse x []) H' (by omega) hm hp' o' fun H'' hp'' o'' kp' ll' => hk H'' hp'' o'' (kp.trans kp') (by omega)
        rw [hsl, show d.length + 1 + t.length = d.length + (t.length + 1) by omega] at this
        exact this)
    rw [List.length_reverse] at this
    exact this

theorem ins_api_Standing (hz : Lay 10 (some 10) enc) (hc : Cmp A P enc cmp c) (hP : Steady P v) {l : List α} (hl : l.length < 1000000) (hA : ∀ a ∈ l, A a) {H : Heap} (hp : P H) (ho : Own H 10 v (l.map enc)) :
    ∃ H', R prog f_slices_insertionSortCmpFunc_api_Standing [v, I 0, I l.length, cmp] H = some (.tuple [], H') ∧ P H' ∧ Own H' 10 v ((sortI c l).map enc) ∧ Keeps H H' v v ∧ H'.length = H.length := by
  suffices h : Yl (R prog f_slices_insertionSortCmpFunc_api_Standing [v, I 0, I l.length, cmp] H) fun r H' => r = .tuple [] ∧ P H' ∧ Own H' 10 v ((sortI c l).map enc) ∧ Keeps H H' v v ∧ H'.length = H.length by
    obtain ⟨r, H', h1, rfl, h2⟩ := h
    exact ⟨H', h1, h2⟩
  refine r_slices_insertionSortCmpFunc_api_Standing _ _ _ _ _ ?_
  rw [add64 _ _ (by omega) (by omega)]
  simp only [SS]
  cases l with
  | nil =>
    refine l_slices_insertionSortCmpFunc_api_Standing_1_s _ _ _ _ _ _ _ ?_
    simp only [SS, List.length_nil]
    rw [if_neg (by omega)]
    exact yl_some.2 ⟨rfl, hp, ho, .refl _ _, rfl⟩
  | cons x l =>
    have := insOut_api_Standing (v := v) hz hc hP (k0 := fun H5 => some (.tuple [], H5)) (Q := fun r H' => r = .tuple [] ∧ P H' ∧ Own H' 10 v ((sortI c (x :: l)).map enc) ∧ Keeps H H' v v ∧ H'.length = H.length) l [x] H (by simp at hl ⊢; omega) (by simpa using hA) hp ho (fun H' hp o k ll => yl_some.2 ⟨rfl, hp, o, k, ll⟩)
    simpa [Nat.add_comm] using this

theorem sort_api_Standing (hz : Lay 10 (some 10) enc) (hc : Cmp A P enc cmp c) (hP : Steady P v) {l : List α} (hl : l.length ≤ 12) (hA : ∀ a ∈ l, A a) {H : Heap} (hp : P H) (ho : Own H 10 v (l.map enc)) :
    ∃ H', R prog f_slices_SortFunc_api_Standing_api_Standing [v, cmp] H = some (.tuple [], H') ∧ P H' ∧ Own H' 10 v ((sortI c l).map enc) ∧ Keeps H H' v v ∧ H'.length = H.length := by
  suffices h : Yl (R prog f_slices_SortFunc_api_Standing_api_Standing [v, cmp] H) fun r H' => r = .tuple [] ∧ P H' ∧ Own H' 10 v ((sortI c l).map enc) ∧ Keeps H H' v v ∧ H'.length = H.length by
    obtain ⟨r, H', h1, rfl, h2⟩ := h
    exact ⟨H', h1, h2⟩
  refine r_slices_SortFunc_api_Standing_api_Standing _ _ _ ?_
  have hlen : lenX H .slice v = some (I l.length) := by rw [ho.len]; simp
  obtain ⟨k, hb⟩ := bits_len l.length hl H
  obtain ⟨H', h1, h2⟩ := ins_api_Standing hz hc hP (by omega) hA hp ho
  simp only [hlen, conv_len (show l.length < 1000000 by omega), hb, SS]
  refine Yl.bind (Q' := fun r H' => P H' ∧ Own H' 10 v ((sortI c l).map enc) ∧ Keeps H H' v v ∧ H'.length = H.length) ?_ fun r H' h => yl_some.2 ⟨rfl, h⟩
  refine r_slices_pdqsortCmpFunc_api_Standing _ _ _ _ _ _ ?_
  refine l_slices_pdqsortCmpFunc_api_Standing_0_s _ _ _ _ _ _ _ _ ?_
  rw [sub64 _ _ (by omega) (by omega)]
  simp only [SS]
  rw [if_pos (by omega)]
  simp only [h1, SS]
  exact h2
end
end Y
end Go.Proofs.YtplginnkececaaaGreatDoor

set_option linter.unusedSimpArgs false
set_option linter.unusedVariables false
namespace Go.Proofs.YtplginnkececaaaGreatDoor
open Go
namespace Y
open X

theorem Own.ownOnlyK {H : Heap} {sz k : Nat} {v : AV} {l : List AV} (h : Own H sz v l) (hs : l.all (ownOnly H k) = true) : ownOnly H (k + 1) v = true := by
  rcases h with ⟨rfl, rfl⟩ | ⟨b, es, rfl, hb, h1, h2⟩
  · rfl
  · rw [ownOnly]
    simp only [hb, List.drop_zero, h1, hs]

theorem snap2 {H : Heap} {a b a' b' : AV} {k : Nat} (h1 : snap H k a = some a') (h2 : snap H k b = some b') : snap H (k + 1) (.tuple [a, b]) = some (.tuple [a', b']) := by
  rw [snap]; simp [List.mapM_cons, h1, h2]

theorem own2 {H : Heap} {a b : AV} {k : Nat} (h1 : ownOnly H k a = true) (h2 : ownOnly H k b = true) : ownOnly H (k + 1) (.tuple [a, b]) = true := by
  rw [ownOnly]; simp [h1, h2]

theorem mapM3 {H : Heap} {a b c a' b' c' : AV} (h1 : snap H deep a = some a') (h2 : snap H deep b = some b') (h3 : snap H deep c = some c') : [a, b, c].mapM (snap H deep) = some [a', b', c'] := by
  simp [List.mapM_cons, h1, h2, h3]
theorem mapM4 {H : Heap} {a b c d a' b' c' d' : AV} (h1 : snap H deep a = some a') (h2 : snap H deep b = some b') (h3 : snap H deep c = some c') (h4 : snap H deep d = some d') : [a, b, c, d].mapM (snap H deep) = some [a', b', c', d'] := by
  simp [List.mapM_cons, h1, h2, h3, h4]

/-- Riders, rooms and asks of which nothing is wrong. -/
structure Fine (who : List Rider) (l : List Ask) : Prop where
  riders : ridersFault who = 0
  keys : ∀ r ∈ who, r.key.length < 1000000
  many : who.length < 1000000
  asks : asksFault l = 0
  ok : ∀ a ∈ l, AskOk a
  few : l.length < 20

structure FineR (rooms : List Room) : Prop where
  right : roomsFault rooms = 0
  seats : ∀ r ∈ rooms, 0 ≤ r.seats ∧ r.seats ≤ 1000000
  many : rooms.length < 1000000

theorem refused_ok {H : Heap} {v : AV} {who : List Rider} {l : List Ask} (hv : snap H deep v = some (.vslice (l.map encAsk))) (hf : Fine who l) :
    pureCall prog (R prog) f_request_Refused [.vslice (who.map encRider), v] H = some (.tuple [.vslice ((refusedOf who [] l endT).map I), I 0]) := by
  refine pure_snap (bs := [.vslice (who.map encRider), .vslice (l.map encAsk)]) (mapM2 ((fz_vslice _).1 H) hv) rfl (r_request_Refused _ _ _ ?_)
  obtain ⟨d, A, H', e1, e2, e3, e4, e5, e6, e7⟩ := run_ok (who := who) (rooms := []) (rv := .nilslice) (.inl ⟨rfl, rfl⟩) (by simp) hf.many (by simp) hf.ok hf.few (t := endT) (by unfold endT; omega) []
  have e1' : R prog f_request_run [.vslice (who.map encRider), .nilslice, .vslice (l.map encAsk), .int .i64 345686400000] [] = some (P0 d, H') := e1
  simp only [checkRiders_ok _ hf.many hf.keys, checkAsks_ok _ (show l.length < 1000000 by have := hf.few; omega) (fun a ha => (hf.ok a ha).fit), hf.riders, hf.asks, lit2_int', SS]
  rw [first_ok _ (by simp)]
  have hz : firstE [0, 0] = 0 := rfl
  simp only [hz, ne_eq, not_true_eq_false, SS, e1', desk_vr e2.desk]
  refine ⟨snap2 (k := 11) (e2.refused.snapK (k := 10) (mapM_id fun a ha => by obtain ⟨n, _, rfl⟩ := List.mem_map.1 ha; rfl)) rfl, own2 (k := 11) (e2.refused.ownOnlyK (k := 10) (List.all_eq_true.2 fun a ha => by obtain ⟨n, _, rfl⟩ := List.mem_map.1 ha; rfl)) rfl⟩

theorem fault_ok {H : Heap} {who : List Rider} {rooms : List Room} {l : List Ask} (hf : Fine who l) (hr : FineR rooms) :
    pureCall prog (R prog) f_request_fault [.vslice (who.map encRider), .vslice (rooms.map encRoom), .vslice (l.map encAsk)] H = some (I 0) := by
  refine pure_fz (by intro a ha; simp at ha; rcases ha with rfl | rfl | rfl <;> exact fz_vslice _) rfl (r_request_fault _ _ _ _ ?_)
  simp only [checkRiders_ok _ hf.many hf.keys, checkRooms_ok _ hr.many, checkAsks_ok _ (show l.length < 1000000 by have := hf.few; omega) (fun a ha => (hf.ok a ha).fit), hf.riders, hr.right, hf.asks, lit3_int', SS]
  rw [first_ok _ (by simp)]
  simp only [SS]
  rfl

def bySt (a b : Standing) : Int := cmpS a.ride.id b.ride.id

theorem fz_st (s : Standing) : Fz (encSt s) := fz_agg (by intro c hc; simp [Ride.cells] at hc; rcases hc with rfl | rfl | rfl | rfl | rfl | rfl | rfl | rfl | rfl | rfl <;> exact ⟨fun H => rfl, rfl⟩)

theorem bySt_ok (H : Heap) (a b : Standing) : pureCall prog (R prog) f_request_Standings_1 [encSt a, encSt b] H = some (I (bySt a b)) := by
  refine pure_fz (by simp [fz_st]) rfl (r_request_Standings_1 _ _ _ ?_)
  have k1 : boxAV 10 (encSt a) [] = some (.ptr 0 0 0, [.arr 10 [encSt a]]) := box_ok rfl rfl
  have k2 : boxAV 10 (encSt b) [.arr 10 [encSt a]] = some (.ptr 1 0 0, [.arr 10 [encSt a], .arr 10 [encSt b]]) := box_ok rfl rfl
  have l1 : loadAV [.arr 10 [encSt a], .arr 10 [encSt b]] none (.ptr 0 0 0) = some (.str a.ride.id) := rfl
  have l2 : loadAV [.arr 10 [encSt a], .arr 10 [encSt b]] none (.ptr 1 0 0) = some (.str b.ride.id) := rfl
  simp only [k1, k2, l1, l2, compare_ok, SS]
  rfl

/-- How all rides stand, by their ids. -/
def standOf (D : Desk) : List Standing := sortI bySt (D.ents.map fun e => e.st)

theorem standings_ok {H : Heap} {v : AV} {who : List Rider} {rooms : List Room} {l : List Ask} (hv : snap H deep v = some (.vslice (l.map encAsk))) (hf : Fine who l) (hr : FineR rooms) {t : Int} (ht : moment t = true) :
    pureCall prog (R prog) f_request_Standings [.vslice (who.map encRider), .vslice (rooms.map encRoom), v, I t] H = some (.tuple [.vslice ((standOf (deskAt who rooms l t)).map encSt), I 0]) := by
  refine pure_snap (bs := [.vslice (who.map encRider), .vslice (rooms.map encRoom), .vslice (l.map encAsk), I t]) (mapM4 ((fz_vslice _).1 H) ((fz_vslice _).1 H) hv rfl) rfl (r_request_Standings _ _ _ _ _ ?_)
  have htr := moment_iff.1 ht
  obtain ⟨d, A, H', e1, e2, e3, e4, e5, e6, e7⟩ := run_ok (who := who) (rooms := rooms) (rv := .vslice (rooms.map encRoom)) (.inr rfl) hr.many hf.many hr.seats hf.ok hf.few (t := t) (by unfold endT at htr; omega) []
  have hlen : lenX H' .slice A.vo = some (I A.ps.length) := by rw [e2.order.len]; simp
  simp only [fault_ok hf hr, moment_ok, ht, ne_eq, not_true_eq_false, e1, desk_vo e2.desk, hlen, SS]
  generalize deskAt who rooms l t = D at e2 e3 e4 e5 e6 ⊢
  generalize refusedOf who rooms l t = rs at e2
  have hn12 := e3.ents
  have key : ∀ (m i : Nat) (v : AV) (H2 : Heap), m + i = A.ps.length → Rep H2 d A D rs → Own H2 10 v (((D.ents.take i).map fun e => e.st).map encSt) → (∀ b, v.blockOf = some b → Out d A b) →
      Yl (l_request_Standings_0 v A.vo (I A.ps.length) (I i) H2 (fun v11 H4 => (R prog f_slices_SortFunc_api_Standing_api_Standing [v11, .func (.func f_request_Standings_1) []] H4).bind fun r5 => some (.tuple [v11, .int .i64 0], r5.2)))
        fun v' H' => snap H' deep v' = some (.tuple [.vslice ((standOf D).map encSt), I 0]) ∧ ownOnly H' deep v' = true := by
    intro m
    induction m with
    | zero =>
      intro i v H2 hm r ho hob
      refine l_request_Standings_0_s _ _ _ _ _ _ ?_
      simp only [SS]
      rw [if_neg (by omega)]
      have hlen := r.len
      rw [List.take_of_length_le (by omega)] at ho
      obtain ⟨H3, s1, s2, s3, s4, s5⟩ := sort_api_Standing (A := fun _ => True) (P := fun _ => True) (c := bySt) (cmp := .func (.func f_request_Standings_1) []) lay_st (by
        intro a b H2 K _ _ _
        rw [callK_pure (by rfl), List.append_nil, bySt_ok]; rfl) (fun _ _ _ _ _ => trivial) (l := D.ents.map fun e => e.st) (by simp; exact hn12) (fun _ _ => trivial) trivial ho
      simp only [s1, SS]
      refine ⟨snap2 (k := 11) (s3.snapK (k := 10) (mapM_id fun a ha => by obtain ⟨n, _, rfl⟩ := List.mem_map.1 ha; rfl)) rfl, own2 (k := 11) (s3.ownOnlyK (k := 10) (List.all_eq_true.2 fun a ha => by obtain ⟨n, _, rfl⟩ := List.mem_map.1 ha; rfl)) rfl⟩
    | succ m ih =>
      intro i v H2 hm r ho hob
      refine l_request_Standings_0_s _ _ _ _ _ _ ?_
      have hi : i < A.ps.length := by omega
      have hil : i < D.ents.length := by rw [← r.len]; exact hi
      obtain ⟨p, g1, g2⟩ := r.order.loadL (lay_ptr id) (i := i) hi
      have g2 : loadAV H2 none p = some (P0 A.ps[i]) := g2
      have hx := r.ents i hi
      have hls : litAV 10 [(.agg [(.str []), (.str []), (.str []), (.str []), (.int .i64 0), (.int .i64 0), (.int .i64 0), (.int .i64 0), (.int .i64 0), (.int .i64 0)])] [(0, encSt (entAt D.ents i).st)] false H2 = some (.vslice [encSt (entAt D.ents i).st], H2) := lit_one rfl rfl rfl
      obtain ⟨v', H3, c1, c2, c3⟩ := ho.appendL (bytes := 112) lay_st (entAt D.ents i).st (y := .vslice [encSt (entAt D.ents i).st]) rfl (by omega) (by simp; omega)
      simp only [SS]
      rw [if_pos (by omega)]
      simp only [g1, g2, ent_st hx, hls, c1, SS]
      rw [succ64 _ _ (by omega)]
      simp only [SS]
      refine ih (i + 1) v' H3 (by omega) (r.outBy c3 hob) ?_ (outBy r c3 hob)
      rw [List.take_succ_eq_append_getElem hil, List.map_append, ← entAt_get hil]
      exact c2
  exact key A.ps.length 0 .nilslice H' (by omega) e2 (.nil _ _) (fun b hb => by cases hb)

theorem contains_int (H : Heap) (l : List Int) (n : Int) (hl : l.length < 1000000) : pureCall prog (R prog) f_slices_Contains_int_int [.vslice (l.map I), I n] H = some (.bool (decide (n ∈ l))) := by
  have hi : ∀ H, pureCall prog (R prog) f_slices_Index_int_int [.vslice (l.map I), I n] H = some (I (Desk.roomI (l.findIdx? fun x => decide (n = x)))) := by
    intro H
    refine pure_fz (by intro a ha; simp at ha; rcases ha with rfl | rfl; exact fz_vslice _; exact fz_int _ _) rfl (r_slices_Index_int_int _ _ _ ?_)
    simp only [SS, List.length_map]
    refine range_yl (n := l.length) (L := fun i H => l_slices_Index_int_int_0 (.vslice (l.map I)) (I n) (I l.length) (I i) H (fun H2 => some (I (-1), H2)))
      (fun i H' => H' = [] ∧ l.findIdx? (fun x => decide (n = x)) = ((l.drop i).findIdx? fun x => decide (n = x)).map (· + i)) ?_ ?_ l.length 0 [] (by omega) ⟨rfl, by simp⟩
    · rintro H' ⟨rfl, h1⟩
      refine l_slices_Index_int_int_0_s _ _ _ _ _ _ ?_
      simp only [SS]
      rw [if_neg (by omega)]
      refine yl_some.2 ?_
      rw [h1]; simp [Desk.roomI]; rfl
    · rintro i hi H' ⟨rfl, h1⟩ ih
      refine l_slices_Index_int_int_0_s _ _ _ _ _ _ ?_
      have he : (l.map I)[i]? = some (I l[i]) := by rw [List.getElem?_map, List.getElem?_eq_getElem hi]; rfl
      rw [List.drop_eq_getElem_cons hi, List.findIdx?_cons] at h1
      generalize l[i] = s at he h1
      simp only [SS]
      rw [if_pos (by omega), index_vslice (sz := 1) he rfl]
      simp only [AV.cells, SS]
      by_cases hs : n = s
      · simp only [hs, decide_true, if_true, SS] at h1 ⊢
        rw [h1]; simp [Desk.roomI]; rfl
      · simp only [hs, decide_false, Bool.false_eq_true, if_false] at h1 ⊢
        rw [succ64 _ _ (by omega)]
        simp only [SS]
        refine ih [] ⟨rfl, ?_⟩
        rw [h1, Option.map_map]
        congr 1
        funext x; simp; omega
  refine pure_fz (by intro a ha; simp at ha; rcases ha with rfl | rfl; exact fz_vslice _; exact fz_int _ _) rfl (r_slices_Contains_int_int _ _ _ ?_)
  simp only [hi, SS]
  have : decide ((0 : Int) ≤ Desk.roomI (l.findIdx? fun x => decide (n = x))) = decide (n ∈ l) := by
    cases hf : l.findIdx? (fun x => decide (n = x)) with
    | none =>
      rw [List.findIdx?_eq_none_iff] at hf
      have : ¬ n ∈ l := fun h => by have := hf n h; simp at this
      simp [Desk.roomI, this]
    | some i =>
      obtain ⟨h1, h2, _⟩ := List.findIdx?_eq_some_iff_getElem.1 hf
      have : n ∈ l := by simp at h2; rw [h2]; exact List.getElem_mem h1
      have h0 : (0 : Int) ≤ Desk.roomI (some i) := by show (0 : Int) ≤ (i : Int); omega
      simp [this, h0]
  rw [this]; rfl

theorem eq_st (a b : Standing) : eqCells [.str, .str, .str, .str, .int, .int, .int, .int, .int, .int] (a.ride.cells ++ [.int .i64 a.state, .int .i64 a.since]) (b.ride.cells ++ [.int .i64 b.state, .int .i64 b.since]) = some (decide (a = b)) := by
  obtain ⟨⟨a1, a2, a3, a4, a5, a6, a7, a8⟩, a9, a10⟩ := a
  obtain ⟨⟨b1, b2, b3, b4, b5, b6, b7, b8⟩, b9, b10⟩ := b
  simp only [Ride.cells, List.cons_append, List.nil_append, eqCells, eqCell, if_true, Option.bind_some, Bool.and_true, Ride.mk.injEq, Standing.mk.injEq, Option.some.injEq]
  rw [Bool.eq_iff_iff]
  simp [Bool.and_eq_true, and_assoc]

theorem st_neq (H : Heap) (a b : Standing) : binAV H .neq (.agg [.str, .str, .str, .str, .int, .int, .int, .int, .int, .int]) (encSt a) (encSt b) = some (.bool (!decide (a = b))) := (eqCells_dec (eq_st a b) H).1
theorem vl_st (H : Heap) (a : Standing) : loadAV H (some 10) (.vptr (encSt a).cells) = some (encSt a) := (rfl)

/-- Two lists are the same. -/
theorem equal_st (H : Heap) (l m : List Standing) (hl : l.length < 1000000) : pureCall prog (R prog) f_slices_Equal_api_Standing_api_Standing [.vslice (l.map encSt), .vslice (m.map encSt)] H = some (.bool (decide (l = m))) := by
  refine pure_fz (by intro a ha; simp at ha; rcases ha with rfl | rfl <;> exact fz_vslice _) rfl (r_slices_Equal_api_Standing_api_Standing _ _ _ ?_)
  simp only [SS, List.length_map]
  by_cases hlm : (l.length : Int) = m.length
  · have hlm' : l.length = m.length := by omega
    simp only [hlm, ne_eq, not_true_eq_false, if_false]
    rw [← hlm]
    refine range_yl (n := l.length) (L := fun i H => l_slices_Equal_api_Standing_api_Standing_0 (.vslice (l.map encSt)) (.vslice (m.map encSt)) (I l.length) (I i) H (fun H2 => some (.bool true, H2)))
      (fun i H' => H' = [] ∧ decide (l = m) = decide (l.drop i = m.drop i)) ?_ ?_ l.length 0 [] (by omega) ⟨rfl, by simp⟩
    · rintro H' ⟨rfl, h1⟩
      refine l_slices_Equal_api_Standing_api_Standing_0_s _ _ _ _ _ _ ?_
      simp only [SS]
      rw [if_neg (by omega)]
      refine yl_some.2 ?_
      rw [h1, List.drop_eq_nil_of_le (Nat.le_refl _), List.drop_eq_nil_of_le (by omega)]; rfl
    · rintro i hi H' ⟨rfl, h1⟩ ih
      refine l_slices_Equal_api_Standing_api_Standing_0_s _ _ _ _ _ _ ?_
      have hi' : i < m.length := by omega
      have he : (l.map encSt)[i]? = some (encSt l[i]) := by rw [List.getElem?_map, List.getElem?_eq_getElem hi]; rfl
      have he' : (m.map encSt)[i]? = some (encSt m[i]) := by rw [List.getElem?_map, List.getElem?_eq_getElem hi']; rfl
      rw [List.drop_eq_getElem_cons hi, List.drop_eq_getElem_cons hi'] at h1
      generalize l[i] = s at he h1
      generalize m[i] = s' at he' h1
      simp only [SS]
      rw [if_pos (by omega), index_vslice (sz := 10) he rfl, index_vslice (sz := 10) he' rfl]
      simp only [vl_st, st_neq, SS]
      by_cases hs : s = s'
      · simp only [hs, decide_true, Bool.not_true, List.cons.injEq, true_and, SS] at h1 ⊢
        rw [succ64 _ _ (by omega)]
        simp only [SS]
        exact ih [] ⟨rfl, h1⟩
      · have hne : ¬ l = m := by
          intro e
          rw [e] at h1
          simp [hs] at h1
        simp only [hs, hne, decide_false, Bool.not_false, not_false_eq_true, SS]
        rfl
  · simp only [hlm, ne_eq, not_false_eq_true, if_true]
    have : ¬ l = m := fun e => hlm (by rw [e])
    simp only [this, decide_false, SS]
    rfl
end Y
end Go.Proofs.YtplginnkececaaaGreatDoor
