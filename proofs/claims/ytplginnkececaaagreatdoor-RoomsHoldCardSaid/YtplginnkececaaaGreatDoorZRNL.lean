/- The law: a room never has more sure seats than it has, and nobody waits for whom there is room. No condition. -/
import Derived.Test.YtplginnkececaaaGreatDoorZRNB
import Derived.Test.YtplginnkececaaaGreatDoorZXRD
set_option linter.unusedSimpArgs false
set_option linter.unusedVariables false
namespace Go.Proofs.YtplginnkececaaaGreatDoor
open Go
namespace Y
open X

section
variable {H : Heap} {b : Nat} {s : Standing}
theorem sx_ride (h : H[b]? = some (.arr 10 [encSt s])) : loadAV H (some 8) (.ptr b 0 0) = some (encRide s.ride) := load_ptr h rfl rfl
theorem sx_seats (h : H[b]? = some (.arr 10 [encSt s])) : loadAV H none (.ptr b 0 6) = some (I s.ride.seats) := load_ptr h rfl rfl
theorem sx_wheels (h : H[b]? = some (.arr 10 [encSt s])) : loadAV H none (.ptr b 0 7) = some (I s.ride.wheels) := load_ptr h rfl rfl
theorem sx_state (h : H[b]? = some (.arr 10 [encSt s])) : loadAV H none (.ptr b 0 8) = some (I s.state) := load_ptr h rfl rfl
end
theorem vl_st' (H : Heap) (a : Standing) : loadAV H (some 10) (.vptr (encSt a).cells) = some (encSt a) := (rfl)
theorem box_st0 (H : Heap) : boxAV 10 (.agg [(.str []), (.str []), (.str []), (.str []), (.int .i64 0), (.int .i64 0), (.int .i64 0), (.int .i64 0), (.int .i64 0), (.int .i64 0)]) H = some (.ptr H.length 0 0, H ++ [.arr 10 [encSt ⟨nilRide, 0, 0⟩]]) := box_ok rfl rfl
theorem put_st (H : Heap) (a b : Standing) : storeAV (H ++ [.arr 10 [encSt a]]) 10 (.ptr H.length 0 0) (encSt b) = some (H ++ [.arr 10 [encSt b]]) := store_box rfl rfl rfl

theorem sumL_append (f : Standing → Int) (l : List Standing) (y : Standing) : sumL f (l ++ [y]) = sumL f l + f y := by
  induction l with
  | nil => simp [sumL]
  | cons x l ih => simp only [List.cons_append, sumL, ih]; omega

theorem sumL_bound {f : Standing → Int} {B : Int} (h0 : 0 ≤ B) : ∀ {l : List Standing}, (∀ y ∈ l, -B ≤ f y ∧ f y ≤ B) → -B * l.length ≤ sumL f l ∧ sumL f l ≤ B * l.length
  | [], _ => by simp [sumL]
  | x :: l, h => by
    have h1 := h x (by simp)
    have h2 := sumL_bound h0 (l := l) fun y hy => h y (by simp [hy])
    simp only [sumL, List.length_cons]
    have e1 : B * ((l.length + 1 : Nat) : Int) = B * l.length + B := by rw [show ((l.length + 1 : Nat) : Int) = (l.length : Int) + 1 by omega, Int.mul_add, Int.mul_one]
    have e2 : -B * ((l.length + 1 : Nat) : Int) = -B * l.length - B := by rw [show ((l.length + 1 : Nat) : Int) = (l.length : Int) + 1 by omega, Int.mul_add, Int.mul_one]; omega
    omega

def sures (D : Desk) (X : List Standing) : List Int := (List.range D.rooms.length).map fun k => sumL (countIn D k) X

theorem sures_get {D : Desk} {X : List Standing} {k : Nat} (hk : k < D.rooms.length) : (sures D X)[k]'(by simpa [sures] using hk) = sumL (countIn D k) X := by simp [sures]

theorem sures_same {D : Desk} {X : List Standing} {y : Standing} (h : ∀ k, countIn D k y = 0) : sures D (X ++ [y]) = sures D X := by
  unfold sures
  apply List.map_congr_left
  intro k _
  rw [sumL_append, h]; omega

theorem sures_set {D : Desk} {X : List Standing} {y : Standing} {k : Nat} (hr : D.room y.ride = some k) (hs : y.state = 1) (hc : y.ride ∈ curOf D) : sures D (X ++ [y]) = (sures D X).set k (sumL (countIn D k) X + y.ride.size) := by
  have hk : k < D.rooms.length := room_lt hr
  apply List.ext_getElem?
  intro j
  have hl : (sures D X).length = D.rooms.length := by simp [sures]
  by_cases hj : j < D.rooms.length
  · have e1 : (sures D (X ++ [y]))[j]? = some (sumL (countIn D j) X + countIn D j y) := by
      simp [sures, hj, sumL_append]
    rw [e1]
    by_cases hkj : k = j
    · subst hkj
      rw [List.getElem?_set_self (by omega)]
      have : countIn D k y = y.ride.size := by unfold countIn; rw [if_pos ⟨hr, hs, hc⟩]
      rw [this]
    · rw [List.getElem?_set_ne hkj]
      have : countIn D j y = 0 := by
        unfold countIn
        rw [if_neg]
        rintro ⟨h, _⟩
        rw [hr] at h
        exact hkj (Option.some.inj h)
      rw [this]
      simp [sures, hj]
  · rw [List.getElem?_eq_none (by simp [sures]; omega), List.getElem?_eq_none (by simp [sures]; omega)]

theorem law0 {D : Desk} {X : List Standing} (hX : X.length < 100) (hf : ∀ y ∈ X, Fit y.ride) (hrl : D.rooms.length < 1000000) (hcl : (curOf D).length < 1000000) {k0 : AV → AV → AV → AV → Heap → Option (AV × Heap)} {Q : AV → Heap → Prop} {v : AV}
    (hq : ∀ (H : Heap), Own H 1 v ((sures D X).map I) → Yl (k0 (.vslice (D.rooms.map encRoom)) (.vslice (X.map encSt)) (.vslice ((curOf D).map encRide)) v H) Q) :
    ∀ (m i : Nat) (H : Heap), m + i = X.length → Own H 1 v ((sures D (X.take i)).map I) →
      Yl (l_jitkeep2_RoomsHold_0 (.vslice (D.rooms.map encRoom)) (.vslice (X.map encSt)) (.vslice ((curOf D).map encRide)) v (.vslice (X.map encSt)) (I X.length) (I i) H k0) Q := by
  intro m
  induction m with
  | zero =>
    intro i H hm ho
    refine l_jitkeep2_RoomsHold_0_s _ _ _ _ _ _ _ _ _ ?_
    simp only [SS]
    rw [if_neg (by omega)]
    rw [List.take_of_length_le (by omega)] at ho
    exact hq H ho
  | succ m ih =>
    intro i H hm ho
    refine l_jitkeep2_RoomsHold_0_s _ _ _ _ _ _ _ _ _ ?_
    have hi : i < X.length := by omega
    have he : (X.map encSt)[i]? = some (encSt X[i]) := by rw [List.getElem?_map, List.getElem?_eq_getElem hi]; rfl
    have htake := List.take_succ_eq_append_getElem hi
    have hfi := hf _ (List.getElem_mem hi)
    have hbd : ∀ k, -439804651110400 ≤ sumL (countIn D k) (X.take i) ∧ sumL (countIn D k) (X.take i) ≤ 439804651110400 := by
      intro k
      have := sumL_bound (f := countIn D k) (B := 4398046511104) (by omega) (l := X.take i) fun y hy => by
        have := size_bound (hf y (List.mem_of_mem_take hy))
        unfold countIn; split <;> omega
      have hl : (X.take i).length ≤ 100 := by simp; omega
      omega
    have nx := ih (i + 1)
    rw [htake] at nx
    generalize X[i] = y at he hfi nx
    have hbox : (H ++ [.arr 10 [encSt y]])[H.length]? = some (.arr 10 [encSt y]) := last_get H _
    have hrm := roomOf_ok (H ++ [.arr 10 [encSt y]]) D.rooms hrl y.ride
    have hs := hfi.seats
    have hw := hfi.wheels
    simp only [SS]
    rw [if_pos (by omega), index_vslice (sz := 10) he rfl]
    simp only [vl_st', box_st0, put_st, sx_ride hbox, sx_state hbox, hrm, containsRide_ok _ _ _ hcl, j_jitkeep2_RoomsHold_1, SS]
    rw [succ64 _ _ (by omega)]
    simp only [SS]
    have no : (∀ k, countIn D k y = 0) → Yl (l_jitkeep2_RoomsHold_0 (.vslice (D.rooms.map encRoom)) (.vslice (X.map encSt)) (.vslice ((curOf D).map encRide)) v (.vslice (X.map encSt)) (I X.length) (I ((i + 1 : Nat) : Int)) (H ++ [.arr 10 [encSt y]]) k0) Q := by
      intro h0
      exact nx _ (by omega) (by rw [sures_same h0]; exact ho.app _)
    have hroom : D.room y.ride = D.rooms.findIdx? (inRoom y.ride) := rfl
    cases hr : D.rooms.findIdx? (inRoom y.ride) with
    | none =>
      have hneg : ¬ ((0 : Int) ≤ Desk.roomI none) := by show ¬ ((0 : Int) ≤ -1); omega
      simp only [hneg, if_false]
      exact no fun k => by unfold countIn; rw [if_neg]; rintro ⟨h, _⟩; rw [hroom, hr] at h; cases h
    | some k =>
      have hk : k < D.rooms.length := room_lt (r := y.ride) hr
      have hpos : (0 : Int) ≤ Desk.roomI (some k) := by show (0 : Int) ≤ (k : Int); omega
      simp only [hpos, if_true]
      by_cases h1 : y.state = 1
      · simp only [h1, if_true]
        by_cases hc : y.ride ∈ curOf D
        · simp only [hc, decide_true, SS]
          have ho' := ho.app [.arr 10 [encSt y]]
          obtain ⟨p, e1, e2⟩ := ho'.loadL lay_int (i := k) (by simpa [sures] using hk)
          obtain ⟨p', H3, f1, f2, o1, k1, l1⟩ := ho'.storeL lay_int (i := k) (by simpa [sures] using hk) (sumL (countIn D k) (X.take i) + y.ride.size)
          rw [sures_get hk] at e2
          have hz := size_bound hfi
          have hb := hbd k
          have hki : (I (Desk.roomI (some k)) : AV) = I (k : Int) := rfl
          rw [hki]
          simp only [e1, e2, sx_seats hbox, sx_wheels hbox, SS]
          rw [add64 _ _ (by omega) (by omega)]
          simp only [SS]
          have hsz : y.ride.seats + y.ride.wheels = y.ride.size := rfl
          rw [hsz, add64 _ _ (by omega) (by omega)]
          have hpp : p = p' := by rw [e1] at f1; exact Option.some.inj f1
          subst hpp
          simp only [f2, SS]
          rw [succ64 _ _ (by omega)]
          simp only [SS]
          exact nx _ (by omega) (by rw [sures_set (by rw [hroom, hr]) h1 hc]; exact o1)
        · simp only [hc, decide_false, SS]
          exact no fun j => by unfold countIn; rw [if_neg]; rintro ⟨_, _, h⟩; exact hc h
      · simp only [h1, if_false]
        exact no fun j => by unfold countIn; rw [if_neg]; rintro ⟨_, h, _⟩; exact h1 h

theorem law1 {D : Desk} {X : List Standing} (hX : X.length < 100) (hf : ∀ y ∈ X, Fit y.ride) (hrl : D.rooms.length < 1000000) (hcl : (curOf D).length < 1000000) {k2 : AV → AV → Heap → Option (AV × Heap)} {Q : AV → Heap → Prop} {v : AV} (hnb : ∀ y ∈ X, ¬ badSt D y)
    (hu : ∀ k, k < D.rooms.length → sumL (countIn D k) X = D.used.getD k 0) (hub : ∀ k, -1000000000 ≤ D.used.getD k 0 ∧ D.used.getD k 0 ≤ 1000000000)
    (hq : ∀ (H : Heap), Yl (k2 (.vslice ((curOf D).map encRide)) (I ((X.filter fun y => decide (y.ride ∈ curOf D)).length : Int)) H) Q) :
    ∀ (m i : Nat) (H : Heap), m + i = X.length → Own H 1 v ((sures D X).map I) →
      Yl (l_jitkeep2_RoomsHold_1 (.vslice (D.rooms.map encRoom)) (.vslice ((curOf D).map encRide)) v (I (((X.take i).filter fun y => decide (y.ride ∈ curOf D)).length : Int)) (.vslice (X.map encSt)) (I X.length) (I i) H k2) Q := by
  intro m
  induction m with
  | zero =>
    intro i H hm ho
    refine l_jitkeep2_RoomsHold_1_s _ _ _ _ _ _ _ _ _ ?_
    simp only [SS]
    rw [if_neg (by omega), List.take_of_length_le (by omega)]
    exact hq H
  | succ m ih =>
    intro i H hm ho
    refine l_jitkeep2_RoomsHold_1_s _ _ _ _ _ _ _ _ _ ?_
    have hi : i < X.length := by omega
    have he : (X.map encSt)[i]? = some (encSt X[i]) := by rw [List.getElem?_map, List.getElem?_eq_getElem hi]; rfl
    have htake := List.take_succ_eq_append_getElem hi
    have hfi := hf _ (List.getElem_mem hi)
    have hnbi := hnb _ (List.getElem_mem hi)
    have hcnt : ((X.take (i + 1)).filter fun y => decide (y.ride ∈ curOf D)).length = ((X.take i).filter fun y => decide (y.ride ∈ curOf D)).length + if X[i].ride ∈ curOf D then 1 else 0 := by
      rw [htake, List.filter_append, List.length_append]
      congr 1
      by_cases hc : X[i].ride ∈ curOf D <;> simp [hc]
    have hcb : ((X.take i).filter fun y => decide (y.ride ∈ curOf D)).length ≤ 100 := by
      have := List.length_filter_le (fun y : Standing => decide (y.ride ∈ curOf D)) (X.take i)
      simp at this; omega
    have nx := ih (i + 1)
    rw [hcnt] at nx
    generalize ((X.take i).filter fun y => decide (y.ride ∈ curOf D)).length = c at nx hcb ⊢
    generalize X[i] = y at he hfi hnbi nx
    have hbox : (H ++ [.arr 10 [encSt y]])[H.length]? = some (.arr 10 [encSt y]) := last_get H _
    have hrm := roomOf_ok (H ++ [.arr 10 [encSt y]]) D.rooms hrl y.ride
    have hs := hfi.seats
    have hw := hfi.wheels
    have hz := size_bound hfi
    have ho' := ho.app [.arr 10 [encSt y]]
    have A1 : binAV (H ++ [.arr 10 [encSt y]]) .add (.one .int) (I y.ride.seats) (I y.ride.wheels) = some (I y.ride.size) := add64 _ _ (by omega) (by omega)
    have A2 : binAV (H ++ [.arr 10 [encSt y]]) .add (.one .int) (I (i : Int)) (.int .i64 1) = some (I ((i + 1 : Nat) : Int)) := succ64 _ _ (by omega)
    have A3 : binAV (H ++ [.arr 10 [encSt y]]) .add (.one .int) (I (c : Int)) (.int .i64 1) = some (I ((c + 1 : Nat) : Int)) := succ64 _ _ (by omega)
    simp only [SS]
    rw [if_pos (by omega), index_vslice (sz := 10) he rfl]
    simp only [vl_st', box_st0, put_st, sx_ride hbox, sx_state hbox, sx_seats hbox, sx_wheels hbox, hrm, containsRide_ok _ _ _ hcl, j_jitkeep2_RoomsHold_2, j_jitkeep2_RoomsHold_3, A1, A2, A3, SS]
    by_cases hc : y.ride ∈ curOf D
    · have hnx := nx (H ++ [.arr 10 [encSt y]]) (by omega) ho'
      rw [if_pos hc] at hnx
      have n3 : ¬ y.state = 3 := fun h => hnbi ⟨hc, .inl h⟩
      have n4 : ¬ y.state = 4 := fun h => hnbi ⟨hc, .inr (.inl h)⟩
      simp only [hc, n3, n4, decide_true, if_false, Bool.not_true, SS]
      have hroom : D.room y.ride = D.rooms.findIdx? (inRoom y.ride) := rfl
      cases hr : D.rooms.findIdx? (inRoom y.ride) with
      | none =>
        have hneg : ¬ ((0 : Int) ≤ Desk.roomI none) := by show ¬ ((0 : Int) ≤ -1); omega
        have hng : (Desk.roomI none < (0 : Int)) := by show ((-1 : Int) < 0); omega
        have n1 : ¬ y.state = 1 := fun h => hnbi ⟨hc, .inr (.inr (.inr ⟨h, fun k hk => by rw [hroom, hr] at hk; cases hk⟩))⟩
        simp only [hneg, n1, if_false, ite_self]
        exact hnx
      | some k =>
        have hk : k < D.rooms.length := room_lt (r := y.ride) hr
        have hpos : (0 : Int) ≤ Desk.roomI (some k) := by show (0 : Int) ≤ (k : Int); omega
        have hng : ¬ (Desk.roomI (some k) < (0 : Int)) := by show ¬ ((k : Int) < 0); omega
        have hki : (I (Desk.roomI (some k)) : AV) = I (k : Int) := rfl
        obtain ⟨p, e1, e2⟩ := ho'.loadL lay_int (i := k) (by simpa [sures] using hk)
        rw [sures_get hk, hu k hk] at e2
        have hb := hub k
        have i2 : (D.rooms.map encRoom)[k]? = some (encRoom (D.rooms.getD k nilRoom)) := by rw [List.getElem?_map, getD_get hk nilRoom]; rfl
        have e3 := index_vslice (H := H ++ [.arr 10 [encSt y]]) (sz := 3) (k := .i64) i2 rfl
        simp only [hpos, hng, if_true, if_false, hki, e1, e2, e3, fa_room2, vl_room_seats, SS]
        rw [add64 _ _ (by omega) (by omega)]
        simp only [SS]
        by_cases h2 : y.state = 2
        · have hfull : ¬ D.used.getD k 0 + y.ride.size ≤ (D.rooms.getD k nilRoom).seats := fun h => hnbi ⟨hc, .inr (.inr (.inl ⟨h2, k, by rw [hroom, hr], h⟩))⟩
          have n1 : ¬ y.state = 1 := by omega
          simp only [h2, hfull, if_true, if_false, show ¬ ((2 : Int) = 1) by decide]
          exact hnx
        · simp only [h2, if_false]
          by_cases h1 : y.state = 1
          · have hover : ¬ (D.rooms.getD k nilRoom).seats < D.used.getD k 0 := fun h => hnbi ⟨hc, .inr (.inr (.inr ⟨h1, fun j hj => by
              rw [hroom, hr] at hj
              obtain rfl := Option.some.inj hj
              exact h⟩))⟩
            simp only [h1, hover, if_true, if_false]
            exact hnx
          · simp only [h1, if_false]
            exact hnx
    · have hnx := nx (H ++ [.arr 10 [encSt y]]) (by omega) ho'
      rw [if_neg hc] at hnx
      simp only [hc, decide_false, Bool.not_false, Bool.false_eq_true, if_false, if_true, ite_self]
      exact hnx

theorem law_ok (zs : List Int) : Yl (R prog f_jitkeep2_RoomsHold [.vslice (zs.map I)] []) fun v _ => v = .bool true := by
  refine r_jitkeep2_RoomsHold _ _ ?_
  have e1 : buildAV [.nilslice, I 0] [(0, 1, .vslice (zs.map I))] = some (.agg [.vslice (zs.map I), I 0]) := rfl
  have e2 : boxAV 2 (.agg [.vslice (zs.map I), I 0]) [] = some (.ptr 0 0 0, [stB zs 0]) := rfl
  obtain ⟨ra, rc, rd, rn, m1, m2, m3, m4, c1⟩ := riders_cut (zs := zs) (p := 0) (b := 0) (H := [stB zs 0]) rfl (by omega)
  obtain ⟨w1, w2, w3⟩ := riders_right m1 m2 m3 m4
  generalize (ridersOf ra rc rd).take rn = who at c1 w1 w2 w3
  obtain ⟨rooms, q1, o1, o2, o3, c2⟩ := rooms_cut (zs := zs) (p := 0 + 4) (b := 0) (H := [stB zs 0].set 0 (stB zs (0 + 4))) rfl (by omega)
  rw [List.set_set] at c2
  obtain ⟨N, n1, n2, c3⟩ := range_num (zs := zs) (p := q1) (b := 0) (H := [stB zs 0].set 0 (stB zs q1)) (lo := 0) (hi := 18) rfl (by omega) (by omega) (by omega) (by omega)
  rw [List.set_set] at c3
  obtain ⟨N', rfl⟩ : ∃ N' : Nat, N = (N' : Int) := ⟨_, (Int.toNat_of_nonneg n1).symm⟩
  obtain ⟨l, q2, s1, s2, s3, s4, c4⟩ := rightAsks_cut (zs := zs) (p := q1 + 1) (b := 0) (N := N') (H := [stB zs 0].set 0 (stB zs (q1 + 1))) rfl (by omega) (by omega)
  rw [List.set_set] at c4
  obtain ⟨t, t1, t2, c5⟩ := range_num (zs := zs) (p := q2) (b := 0) (H := [stB zs 0].set 0 (stB zs q2)) (lo := 0) (hi := 120) rfl (by omega) (by omega) (by omega) (by omega)
  rw [List.set_set] at c5
  have hright := (asksFault_right (by omega)).1 s2
  have hok : ∀ a ∈ l, AskOk a := fun a ha => askOk_of (s1 a ha) (hright.ok a ha)
  have hfine : Fine who l := ⟨w1, w2, w3, s2, hok, by omega⟩
  have hfr : FineR rooms := ⟨roomsFault_right o1 (by unfold endT; omega) (by omega), fun r hr => by have := o1.all r hr; omega, by omega⟩
  have htm : moment t = true := moment_iff.2 (by unfold endT; omega)
  have r3 := standings_ok (H := [stB zs 0].set 0 (stB zs (q2 + 1))) (v := .vslice (l.map encAsk)) rfl hfine hfr htm
  have r4 := current_ok (H := [stB zs 0].set 0 (stB zs (q2 + 1))) (v := .vslice (l.map encAsk)) rfl hfine htm
  rw [curOf_core (deskAt_core who [] rooms l t)] at r4
  obtain ⟨d, A, H', x1, x2, x3, x4, _⟩ := run_ok (who := who) (rooms := rooms) (rv := .vslice (rooms.map encRoom)) (.inr rfl) hfr.many hfine.many hfr.seats hfine.ok hfine.few (t := t) (by omega) []
  have hinv := inv_deskAt who rooms l t (fun k hk => (hfr.seats _ (by rw [List.getD_eq_getElem?_getD, List.getElem?_eq_getElem hk]; exact List.getElem_mem hk)).1) fun a ha => (hok a ha).size
  have hrooms : (deskAt who rooms l t).rooms = rooms := deskAt_rooms who rooms l t
  have he := errs_ok ([stB zs 0].set 0 (stB zs (q2 + 1))) (es := [0, 0]) (by decide)
  have hz : firstE [0, 0] = 0 := rfl
  rw [hz] at he
  simp only [e1, e2, c1, c2, c3, c4, c5, r3, r4, lit2_int', he, ne_eq, not_true_eq_false, SS, List.length_map]
  generalize deskAt who rooms l t = D at *
  subst hrooms
  have hm : mkSliceAV 1 8 (.int .i64 0) (I D.rooms.length) (I D.rooms.length) ([stB zs 0].set 0 (stB zs (q2 + 1))) = some (.slice 1 0 D.rooms.length, [stB zs 0].set 0 (stB zs (q2 + 1)) ++ [.arr 1 (List.replicate D.rooms.length (I 0))]) := by
    have := x3.rooms
    simp [mkSliceAV, AV.asNat, natArg]
    omega
  simp only [hm, SS]
  have hown : Own ([stB zs 0].set 0 (stB zs (q2 + 1)) ++ [.arr 1 (List.replicate D.rooms.length (I 0))]) 1 (.slice 1 0 D.rooms.length) ((sures D ((standOf D).take 0)).map I) := by
    refine .inr ⟨1, List.replicate D.rooms.length (I 0), ?_, rfl, ?_, ?_⟩
    · simp [sures]
    · simp [sures, sumL, List.map_const']
    · simp [sures]
  have hst : (standOf D).length < 100 := by
    unfold standOf
    rw [(sortI_perm _ _).length_eq, List.length_map]
    have := x4.len; omega
  have hcl : (curOf D).length < 1000000 := by
    unfold curOf
    rw [(sortI_perm _ _).length_eq, List.length_map]
    have := List.length_filter_le (fun e : Ent => e.opn) D.ents
    have := x4.len; omega
  have hfy : ∀ y ∈ standOf D, Fit y.ride := by
    intro y hy
    unfold standOf at hy
    rw [(sortI_perm _ _).mem_iff, List.mem_map] at hy
    obtain ⟨e, he, rfl⟩ := hy
    exact x3.fit e he
  refine law0 hst hfy x3.rooms hcl (fun H ho => ?_) (standOf D).length 0 _ (by omega) hown
  simp only [SS, List.length_map]
  have hc0 : (I 0 : AV) = I ((((standOf D).take 0).filter fun y => decide (y.ride ∈ curOf D)).length : Int) := by simp
  have := law1 (v := .slice 1 0 D.rooms.length) (k2 := fun v10_1 v16 H15 =>
    (lenX H15 .slice v10_1).bind fun v177 =>
    (binAV H15 .eql (.one .int) v16 v177).bind fun v178 =>
    gB v178 ((pureCall prog (R prog) f_jitkeep2_ready [] H15).bind fun v180 => some (v180, H15)) (some ((.bool false), H15))) (Q := fun v _ => v = .bool true)
    hst hfy x3.rooms hcl (no_bad hinv x4) (fun k hk => by rw [sum_ents x4, hinv.used k hk]) (used_getD x3.neat) (fun H => by
      simp only [SS, List.length_map, count_open x4, ready_ok]) (standOf D).length 0 H (by omega) ho
  rw [← hc0] at this
  exact this
end Y
end Go.Proofs.YtplginnkececaaaGreatDoor
