/- Sorting by insertion of elements api_Standing: what the library's functions compute. What Refused and Standings answer. Rooms hold: what the law counts. Sorting by insertion of elements api_Ride: what the library's functions compute. What Current answers; rooms of rides, and rides that are in a list. No condition. -/
import Derived.Test.YtplginnkececaaaGreatDoorZRDD
import Derived.Test.YtplginnkececaaaGreatDoorZRMA
set_option linter.unusedSimpArgs false
set_option linter.unusedVariables false
namespace Go.Proofs.YtplginnkececaaaGreatDoor
open Go
namespace Y
open X

section
variable {α : Type} {enc : α → AV} {c : α → α → Int} {cmp v : AV} {A : α → Prop} {P : Heap → Prop}

theorem ins_api_Standing (hz : Lay 10 (some 10) enc) (hc : Cmp A P enc cmp c) (hP : Steady P v) {l : List α} (hl : l.length < 1000000) (hA : ∀ a ∈ l, A a) {H : Heap} (hp : P H) (ho : Own H 10 v (l.map enc)) :
    ∃ H', R prog f_slices_insertionSortCmpFunc_api_Standing [v, I 0, I l.length, cmp] H = some (.tuple [], H') ∧ P H' ∧ Own H' 10 v ((sortI c l).map enc) ∧ Keeps H H' v v ∧ H'.length = H.length :=
  insG (fun v0 v1 v2 v3 v8 v9 H k2 Q h => l_slices_insertionSortCmpFunc_api_Standing_0_s v0 v1 v2 v3 v8 v9 H k2 h) (fun v0 v1 v2 v3 v8 H k0 Q h => l_slices_insertionSortCmpFunc_api_Standing_1_s v0 v1 v2 v3 v8 H k0 h) (fun v0 v1 v2 v3 H Q h => r_slices_insertionSortCmpFunc_api_Standing v0 v1 v2 v3 H h) hz hc hP hl hA hp ho

theorem sort_api_Standing (hz : Lay 10 (some 10) enc) (hc : Cmp A P enc cmp c) (hP : Steady P v) {l : List α} (hl : l.length ≤ 12) (hA : ∀ a ∈ l, A a) {H : Heap} (hp : P H) (ho : Own H 10 v (l.map enc)) :
    ∃ H', R prog f_slices_SortFunc_api_Standing_api_Standing [v, cmp] H = some (.tuple [], H') ∧ P H' ∧ Own H' 10 v ((sortI c l).map enc) ∧ Keeps H H' v v ∧ H'.length = H.length := by
  suffices h : Yl (R prog f_slices_SortFunc_api_Standing_api_Standing [v, cmp] H) fun r H' => r = .tuple [] ∧ P H' ∧ Own H' 10 v ((sortI c l).map enc) ∧ Keeps H H' v v ∧ H'.length = H.length by
    obtain ⟨r, H', h1, rfl, h2⟩ := h
    exact ⟨H', h1, h2⟩
  refine r_slices_SortFunc_api_Standing_api_Standing _ _ _ ?_
  have hlen : lenX H .slice v = some (I l.length) := by rw [ho.len]; simp
  obtain ⟨k, hb⟩ := bits_len l.length hl H
  obtain ⟨H', h1, h2⟩ := ins_api_Standing hz hc hP (by omega) hA hp ho
  simp only [hlen, conv_len (show l.length < 1000000 by omega), hb, SS]
  refine Yl.bind (Q' := fun r H' => P H' ∧ Own H' 10 v ((sortI c l).map enc) ∧ Keeps H H' v v ∧ H'.length = H.length) ?_ fun r H' h => yl_some.2 ⟨rfl, h⟩
  refine r_slices_pdqsortCmpFunc_api_Standing _ _ _ _ _ _ ?_
  refine l_slices_pdqsortCmpFunc_api_Standing_0_s _ _ _ _ _ _ _ _ ?_
  rw [sub64 _ _ (by omega) (by omega)]
  simp only [SS]
  rw [if_pos (by omega)]
  simp only [h1, SS]
  exact h2
end
end Y
end Go.Proofs.YtplginnkececaaaGreatDoor

set_option linter.unusedSimpArgs false
set_option linter.unusedVariables false
namespace Go.Proofs.YtplginnkececaaaGreatDoor
open Go
namespace Y
open X

theorem Own.ownOnlyK {H : Heap} {sz k : Nat} {v : AV} {l : List AV} (h : Own H sz v l) (hs : l.all (ownOnly H k) = true) : ownOnly H (k + 1) v = true := by
  rcases h with ⟨rfl, rfl⟩ | ⟨b, es, rfl, hb, h1, h2⟩
  · rfl
  · rw [ownOnly]
    simp only [hb, List.drop_zero, h1, hs]

theorem snap2 {H : Heap} {a b a' b' : AV} {k : Nat} (h1 : snap H k a = some a') (h2 : snap H k b = some b') : snap H (k + 1) (.tuple [a, b]) = some (.tuple [a', b']) := by
  rw [snap]; simp [List.mapM_cons, h1, h2]

theorem own2 {H : Heap} {a b : AV} {k : Nat} (h1 : ownOnly H k a = true) (h2 : ownOnly H k b = true) : ownOnly H (k + 1) (.tuple [a, b]) = true := by
  rw [ownOnly]; simp [h1, h2]

theorem mapM3 {H : Heap} {a b c a' b' c' : AV} (h1 : snap H deep a = some a') (h2 : snap H deep b = some b') (h3 : snap H deep c = some c') : [a, b, c].mapM (snap H deep) = some [a', b', c'] := by
  simp [List.mapM_cons, h1, h2, h3]
theorem mapM4 {H : Heap} {a b c d a' b' c' d' : AV} (h1 : snap H deep a = some a') (h2 : snap H deep b = some b') (h3 : snap H deep c = some c') (h4 : snap H deep d = some d') : [a, b, c, d].mapM (snap H deep) = some [a', b', c', d'] := by
  simp [List.mapM_cons, h1, h2, h3, h4]

structure Fine (who : List Rider) (l : List Ask) : Prop where
  riders : ridersFault who = 0
  keys : ∀ r ∈ who, r.key.length < 1000000
  many : who.length < 1000000
  asks : asksFault l = 0
  ok : ∀ a ∈ l, AskOk a
  few : l.length < 20

structure FineR (rooms : List Room) : Prop where
  right : roomsFault rooms = 0
  seats : ∀ r ∈ rooms, 0 ≤ r.seats ∧ r.seats ≤ 1000000
  many : rooms.length < 1000000

theorem fault_ok {H : Heap} {who : List Rider} {rooms : List Room} {l : List Ask} (hf : Fine who l) (hr : FineR rooms) :
    pureCall prog (R prog) f_request_fault [.vslice (who.map encRider), .vslice (rooms.map encRoom), .vslice (l.map encAsk)] H = some (I 0) := by
  refine pure_fz (by intro a ha; simp at ha; rcases ha with rfl | rfl | rfl <;> exact fz_vslice _) rfl (r_request_fault _ _ _ _ ?_)
  simp only [checkRiders_ok _ hf.many hf.keys, checkRooms_ok _ hr.many, checkAsks_ok _ (show l.length < 1000000 by have := hf.few; omega) (fun a ha => (hf.ok a ha).fit), hf.riders, hr.right, hf.asks, lit3_int', SS]
  rw [first_ok _ (by simp)]
  simp only [SS]
  rfl

def bySt (a b : Standing) : Int := cmpS a.ride.id b.ride.id

theorem fz_st (s : Standing) : Fz (encSt s) := fz_agg (by intro c hc; simp [Ride.cells] at hc; rcases hc with rfl | rfl | rfl | rfl | rfl | rfl | rfl | rfl | rfl | rfl <;> exact ⟨fun H => rfl, rfl⟩)

theorem bySt_ok (H : Heap) (a b : Standing) : pureCall prog (R prog) f_request_Standings_1 [encSt a, encSt b] H = some (I (bySt a b)) := by
  refine pure_fz (by simp [fz_st]) rfl (r_request_Standings_1 _ _ _ ?_)
  have k1 : boxAV 10 (encSt a) [] = some (.ptr 0 0 0, [.arr 10 [encSt a]]) := box_ok rfl rfl
  have k2 : boxAV 10 (encSt b) [.arr 10 [encSt a]] = some (.ptr 1 0 0, [.arr 10 [encSt a], .arr 10 [encSt b]]) := box_ok rfl rfl
  have l1 : loadAV [.arr 10 [encSt a], .arr 10 [encSt b]] none (.ptr 0 0 0) = some (.str a.ride.id) := rfl
  have l2 : loadAV [.arr 10 [encSt a], .arr 10 [encSt b]] none (.ptr 1 0 0) = some (.str b.ride.id) := rfl
  simp only [k1, k2, l1, l2, compare_ok, SS]
  rfl

def standOf (D : Desk) : List Standing := sortI bySt (D.ents.map fun e => e.st)

theorem standings_ok {H : Heap} {v : AV} {who : List Rider} {rooms : List Room} {l : List Ask} (hv : snap H deep v = some (.vslice (l.map encAsk))) (hf : Fine who l) (hr : FineR rooms) {t : Int} (ht : moment t = true) :
    pureCall prog (R prog) f_request_Standings [.vslice (who.map encRider), .vslice (rooms.map encRoom), v, I t] H = some (.tuple [.vslice ((standOf (deskAt who rooms l t)).map encSt), I 0]) := by
  refine pure_snap (bs := [.vslice (who.map encRider), .vslice (rooms.map encRoom), .vslice (l.map encAsk), I t]) (mapM4 ((fz_vslice _).1 H) ((fz_vslice _).1 H) hv rfl) rfl (r_request_Standings _ _ _ _ _ ?_)
  have htr := moment_iff.1 ht
  obtain ⟨d, A, H', e1, e2, e3, e4, e5, e6, e7⟩ := run_ok (who := who) (rooms := rooms) (rv := .vslice (rooms.map encRoom)) (.inr rfl) hr.many hf.many hr.seats hf.ok hf.few (t := t) (by unfold endT at htr; omega) []
  have hlen : lenX H' .slice A.vo = some (I A.ps.length) := by rw [e2.order.len]; simp
  simp only [fault_ok hf hr, moment_ok, ht, ne_eq, not_true_eq_false, e1, desk_vo e2.desk, hlen, SS]
  generalize deskAt who rooms l t = D at e2 e3 e4 e5 e6 ⊢
  generalize refusedOf who rooms l t = rs at e2
  have hn12 := e3.ents
  have key : ∀ (m i : Nat) (v : AV) (H2 : Heap), m + i = A.ps.length → Rep H2 d A D rs → Own H2 10 v (((D.ents.take i).map fun e => e.st).map encSt) → (∀ b, v.blockOf = some b → Out d A b) →
      Yl (l_request_Standings_0 v A.vo (I A.ps.length) (I i) H2 (fun v11 H4 => (R prog f_slices_SortFunc_api_Standing_api_Standing [v11, .func (.func f_request_Standings_1) []] H4).bind fun r5 => some (.tuple [v11, .int .i64 0], r5.2)))
        fun v' H' => snap H' deep v' = some (.tuple [.vslice ((standOf D).map encSt), I 0]) ∧ ownOnly H' deep v' = true := by
    intro m
    induction m with
    | zero =>
      intro i v H2 hm r ho hob
      refine l_request_Standings_0_s _ _ _ _ _ _ ?_
      simp only [SS]
      rw [if_neg (by omega)]
      have hlen := r.len
      rw [List.take_of_length_le (by omega)] at ho
      obtain ⟨H3, s1, s2, s3, s4, s5⟩ := sort_api_Standing (A := fun _ => True) (P := fun _ => True) (c := bySt) (cmp := .func (.func f_request_Standings_1) []) lay_st (by
        intro a b H2 K _ _ _
        rw [callK_pure (by rfl), List.append_nil, bySt_ok]; rfl) (fun _ _ _ _ _ => trivial) (l := D.ents.map fun e => e.st) (by simp; exact hn12) (fun _ _ => trivial) trivial ho
      simp only [s1, SS]
      refine ⟨snap2 (k := 11) (s3.snapK (k := 10) (mapM_id fun a ha => by obtain ⟨n, _, rfl⟩ := List.mem_map.1 ha; rfl)) rfl, own2 (k := 11) (s3.ownOnlyK (k := 10) (List.all_eq_true.2 fun a ha => by obtain ⟨n, _, rfl⟩ := List.mem_map.1 ha; rfl)) rfl⟩
    | succ m ih =>
      intro i v H2 hm r ho hob
      refine l_request_Standings_0_s _ _ _ _ _ _ ?_
      have hi : i < A.ps.length := by omega
      have hil : i < D.ents.length := by rw [← r.len]; exact hi
      obtain ⟨p, g1, g2⟩ := r.order.loadL (lay_ptr id) (i := i) hi
      have g2 : loadAV H2 none p = some (P0 A.ps[i]) := g2
      have hx := r.ents i hi
      have hls : litAV 10 [(.agg [(.str []), (.str []), (.str []), (.str []), (.int .i64 0), (.int .i64 0), (.int .i64 0), (.int .i64 0), (.int .i64 0), (.int .i64 0)])] [(0, encSt (entAt D.ents i).st)] false H2 = some (.vslice [encSt (entAt D.ents i).st], H2) := lit_one rfl rfl rfl
      obtain ⟨v', H3, c1, c2, c3⟩ := ho.appendL (bytes := 112) lay_st (entAt D.ents i).st (y := .vslice [encSt (entAt D.ents i).st]) rfl (by omega) (by simp; omega)
      simp only [SS]
      rw [if_pos (by omega)]
      simp only [g1, g2, ent_st hx, hls, c1, SS]
      rw [succ64 _ _ (by omega)]
      simp only [SS]
      refine ih (i + 1) v' H3 (by omega) (r.outBy c3 hob) ?_ (outBy r c3 hob)
      rw [List.take_succ_eq_append_getElem hil, List.map_append, ← entAt_get hil]
      exact c2
  exact key A.ps.length 0 .nilslice H' (by omega) e2 (.nil _ _) (fun b hb => by cases hb)

end Y
end Go.Proofs.YtplginnkececaaaGreatDoor

set_option linter.unusedSimpArgs false
set_option linter.unusedVariables false
namespace Go.Proofs.YtplginnkececaaaGreatDoor
open Go
namespace Y
open X

def byRide (a b : Ride) : Int := cmpS a.id b.id

def curOf (D : Desk) : List Ride := sortI byRide ((D.ents.filter fun e => e.opn).map fun e => e.ride)

theorem curOf_core {D D' : Desk} (h : core D.ents = core D'.ents) : curOf D = curOf D' := by
  have key : ∀ es : List Ent, ((es.filter fun e => e.opn).map fun e => e.ride) = ((core es).filter fun p => p.2).map fun p => p.1 := by
    intro es
    unfold core
    rw [List.filter_map, List.map_map]; rfl
  unfold curOf
  rw [key, h, ← key]

theorem deskAt_core (who : List Rider) (rooms rooms' : List Room) (l : List Ask) (t : Int) : core (deskAt who rooms l t).ents = core (deskAt who rooms' l t).ents :=
  (Desk.sim_over (Desk.sim_runGo t l [] 0 (D := desk0 who rooms) (D' := desk0 who rooms') ⟨rfl, rfl, rfl⟩).1 t).core

theorem mem_cur {D : Desk} {r : Ride} : r ∈ curOf D ↔ ∃ e ∈ D.ents, e.opn = true ∧ e.ride = r := by
  unfold curOf
  rw [(sortI_perm _ _).mem_iff, List.mem_map]
  constructor
  · rintro ⟨e, he, rfl⟩
    have := List.mem_filter.1 he
    exact ⟨e, this.1, this.2, rfl⟩
  · rintro ⟨e, h1, h2, rfl⟩
    exact ⟨e, List.mem_filter.2 ⟨h1, h2⟩, rfl⟩

theorem nodup_map_inj {α β : Type} {f : α → β} : ∀ {l : List α}, (l.map f).Nodup → ∀ {a b : α}, a ∈ l → b ∈ l → f a = f b → a = b
  | [], _, _, _, h, _, _ => by cases h
  | x :: l, hn, a, b, ha, hb, hf => by
    rw [List.map_cons, List.nodup_cons] at hn
    rcases List.mem_cons.1 ha with ea | ha'
    · rcases List.mem_cons.1 hb with eb | hb'
      · rw [ea, eb]
      · exact absurd (List.mem_map.2 ⟨b, hb', by rw [← hf, ea]⟩) hn.1
    · rcases List.mem_cons.1 hb with eb | hb'
      · exact absurd (List.mem_map.2 ⟨a, ha', by rw [hf, eb]⟩) hn.1
      · exact nodup_map_inj hn.2 ha' hb' hf

theorem cur_iff {D : Desk} (hi : Ids D) {e : Ent} (he : e ∈ D.ents) : e.ride ∈ curOf D ↔ e.opn = true := by
  rw [mem_cur]
  constructor
  · rintro ⟨e', h1, h2, h3⟩
    have : e' = e := nodup_map_inj hi.nodup h1 he (by rw [h3])
    rw [← this]; exact h2
  · intro h; exact ⟨e, he, h, rfl⟩

def countIn (D : Desk) (k : Nat) (y : Standing) : Int := if D.room y.ride = some k ∧ y.state = 1 ∧ y.ride ∈ curOf D then y.ride.size else 0

def sumL (f : Standing → Int) : List Standing → Int
  | [] => 0
  | x :: l => f x + sumL f l

theorem sumL_perm {f : Standing → Int} {l m : List Standing} (h : l.Perm m) : sumL f l = sumL f m := by
  induction h with
  | nil => rfl
  | cons x _ ih => simp only [sumL, ih]
  | swap x y l => simp only [sumL]; omega
  | trans _ _ h1 h2 => rw [h1, h2]

theorem sum_ents {D : Desk} (hi : Ids D) (k : Nat) : sumL (countIn D k) (standOf D) = sumE (cost D.rooms k) D.ents := by
  unfold standOf
  rw [sumL_perm (sortI_perm _ _)]
  have key : ∀ es : List Ent, (∀ e ∈ es, e ∈ D.ents) → sumL (countIn D k) (es.map fun e => e.st) = sumE (cost D.rooms k) es := by
    intro es
    induction es with
    | nil => intro _; rfl
    | cons e es ih =>
      intro h
      simp only [List.map_cons, sumL, sumE]
      rw [ih fun x hx => h x (by simp [hx])]
      congr 1
      unfold countIn cost
      have hc := cur_iff hi (h e (by simp))
      have hr : (D.room e.st.ride = some k) = (D.rooms.findIdx? (inRoom e.ride) = some k) := rfl
      by_cases h1 : e.opn = true ∧ e.st.state = 1 ∧ D.rooms.findIdx? (inRoom e.ride) = some k
      · rw [if_pos h1, if_pos ⟨by rw [hr]; exact h1.2.2, h1.2.1, hc.2 h1.1⟩]
      · rw [if_neg h1, if_neg fun h2 => h1 ⟨hc.1 h2.2.2, h2.2.1, by rw [← hr]; exact h2.1⟩]
  exact key D.ents fun _ h => h

def badSt (D : Desk) (y : Standing) : Prop :=
  y.ride ∈ curOf D ∧ (y.state = 3 ∨ y.state = 4 ∨
    (y.state = 2 ∧ ∃ k, D.room y.ride = some k ∧ D.used.getD k 0 + y.ride.size ≤ (D.rooms.getD k nilRoom).seats) ∨
    (y.state = 1 ∧ ∀ k, D.room y.ride = some k → (D.rooms.getD k nilRoom).seats < D.used.getD k 0))

theorem no_bad {D : Desk} (hv : Inv (fun _ _ => False) D) (hi : Ids D) : ∀ y ∈ standOf D, ¬ badSt D y := by
  intro y hy
  unfold standOf at hy
  rw [(sortI_perm _ _).mem_iff, List.mem_map] at hy
  obtain ⟨e, he, rfl⟩ := hy
  obtain ⟨i, hil, rfl⟩ := mem_entAt he
  rintro ⟨hc, hb⟩
  have ho := (cur_iff hi he).1 hc
  have hs := hv.state i hil ho
  rcases hb with h3 | h4 | ⟨h2, k, hk, hle⟩ | ⟨h1, hall⟩
  · rcases hs with hs | hs <;> rw [hs] at h3 <;> cases h3
  · rcases hs with hs | hs <;> rw [hs] at h4 <;> cases h4
  · have := hv.full i k hil ho h2 hk (fun h => h)
    have hle' : D.used.getD k 0 + (entAt D.ents i).ride.size ≤ (D.rooms.getD k nilRoom).seats := hle
    omega
  · obtain ⟨k, hk⟩ := hv.sure i hil ho h1
    have := hall k hk
    have := hv.most k (room_lt hk)
    omega

theorem count_open {D : Desk} (hi : Ids D) : ((standOf D).filter fun y => decide (y.ride ∈ curOf D)).length = (curOf D).length := by
  have h1 : ((standOf D).filter fun y => decide (y.ride ∈ curOf D)).length = ((D.ents.map fun e => e.st).filter fun y => decide (y.ride ∈ curOf D)).length :=
    ((sortI_perm bySt (D.ents.map fun e => e.st)).filter _).length_eq
  have h2 : (curOf D).length = (D.ents.filter fun e => e.opn).length := by
    unfold curOf
    rw [(sortI_perm _ _).length_eq, List.length_map]
  rw [h1, h2, List.filter_map, List.length_map]
  congr 1
  apply List.filter_congr
  intro e he
  have := cur_iff hi he
  simp only [Function.comp_apply]
  rw [Bool.eq_iff_iff, decide_eq_true_iff]
  exact this


theorem ups_rooms (t : Int) : ∀ (l : List Nat) (D : Desk), (l.foldl (Desk.up t) D).rooms = D.rooms
  | [], D => rfl
  | i :: l, D => by rw [List.foldl_cons, ups_rooms t l, Desk.up_rooms]
theorem moveUp_rooms (D : Desk) (k : Option Nat) (t : Int) : (D.moveUp k t).rooms = D.rooms := by
  unfold Desk.moveUp; split
  · rfl
  · exact ups_rooms _ _ _
theorem moveUps_rooms (t : Int) : ∀ (l : List Int) (D : Desk), (l.foldl (fun D k => D.moveUp (Desk.ofI k) t) D).rooms = D.rooms
  | [], D => rfl
  | k :: l, D => by rw [List.foldl_cons, moveUps_rooms t l, moveUp_rooms]
theorem closes_rooms (t : Int) : ∀ (l : List Nat) (p : Desk × List Int), (l.foldl (Desk.close1 t) p).1.rooms = p.1.rooms
  | [], p => rfl
  | i :: l, p => by
    rw [List.foldl_cons, closes_rooms t l]
    unfold Desk.close1; simp only; split
    · simp only [Desk.setEnt, Desk.leave_rooms]
    · rfl
theorem tick_rooms (D : Desk) (t : Int) : (D.tick t).rooms = D.rooms := by
  unfold Desk.tick; simp only
  rw [moveUps_rooms]
  exact closes_rooms t _ (D, [])
theorem over_rooms (D : Desk) (t : Int) : (D.over t).rooms = D.rooms := by
  have : ∀ (n : Nat) (D : Desk), (Desk.overN t n D).rooms = D.rooms := by
    intro n
    induction n with
    | zero => intro D; rfl
    | succ n ih =>
      intro D
      unfold Desk.overN
      split
      · rw [ih, tick_rooms]
      · rfl
  exact this _ D
theorem follow_rooms {D D2 : Desk} {a : Ask} (h : D.follow a = some D2) : D2.rooms = D.rooms := by
  unfold Desk.follow at h
  split at h
  · split at h
    · obtain rfl := Option.some.inj h
      rw [Desk.place_rooms]
    · cases h
  · simp only at h
    split at h
    · cases h
    split at h
    · cases h
    split at h
    · cases h
    obtain rfl := Option.some.inj h
    rw [moveUp_rooms]
    split
    · rw [Desk.place_rooms]; simp only [Desk.setEnt, Desk.leave_rooms]
    · simp only [Desk.setEnt, Desk.leave_rooms]
theorem runGo_rooms (t : Int) : ∀ (l : List Ask) (D : Desk) (rs : List Int) (i : Nat), (Desk.runGo t D rs i l).1.rooms = D.rooms
  | [], D, rs, i => rfl
  | a :: l, D, rs, i => by
    rw [Desk.runGo_cons]
    split
    · rfl
    · cases hf : (D.over a.at').follow a with
      | none => simp only; rw [runGo_rooms t l, over_rooms]
      | some D2 => simp only; rw [runGo_rooms t l, follow_rooms hf, over_rooms]
theorem deskAt_rooms (who : List Rider) (rooms : List Room) (l : List Ask) (t : Int) : (deskAt who rooms l t).rooms = rooms := by
  unfold deskAt
  rw [over_rooms, runGo_rooms]; rfl
end Y
end Go.Proofs.YtplginnkececaaaGreatDoor

set_option linter.unusedSimpArgs false
set_option linter.unusedVariables false
namespace Go.Proofs.YtplginnkececaaaGreatDoor
open Go
namespace Y
open X

section
variable {α : Type} {enc : α → AV} {c : α → α → Int} {cmp v : AV} {A : α → Prop} {P : Heap → Prop}

theorem ins_api_Ride (hz : Lay 8 (some 8) enc) (hc : Cmp A P enc cmp c) (hP : Steady P v) {l : List α} (hl : l.length < 1000000) (hA : ∀ a ∈ l, A a) {H : Heap} (hp : P H) (ho : Own H 8 v (l.map enc)) :
    ∃ H', R prog f_slices_insertionSortCmpFunc_api_Ride [v, I 0, I l.length, cmp] H = some (.tuple [], H') ∧ P H' ∧ Own H' 8 v ((sortI c l).map enc) ∧ Keeps H H' v v ∧ H'.length = H.length :=
  insG (fun v0 v1 v2 v3 v8 v9 H k2 Q h => l_slices_insertionSortCmpFunc_api_Ride_0_s v0 v1 v2 v3 v8 v9 H k2 h) (fun v0 v1 v2 v3 v8 H k0 Q h => l_slices_insertionSortCmpFunc_api_Ride_1_s v0 v1 v2 v3 v8 H k0 h) (fun v0 v1 v2 v3 H Q h => r_slices_insertionSortCmpFunc_api_Ride v0 v1 v2 v3 H h) hz hc hP hl hA hp ho

theorem sort_api_Ride (hz : Lay 8 (some 8) enc) (hc : Cmp A P enc cmp c) (hP : Steady P v) {l : List α} (hl : l.length ≤ 12) (hA : ∀ a ∈ l, A a) {H : Heap} (hp : P H) (ho : Own H 8 v (l.map enc)) :
    ∃ H', R prog f_slices_SortFunc_api_Ride_api_Ride [v, cmp] H = some (.tuple [], H') ∧ P H' ∧ Own H' 8 v ((sortI c l).map enc) ∧ Keeps H H' v v ∧ H'.length = H.length := by
  suffices h : Yl (R prog f_slices_SortFunc_api_Ride_api_Ride [v, cmp] H) fun r H' => r = .tuple [] ∧ P H' ∧ Own H' 8 v ((sortI c l).map enc) ∧ Keeps H H' v v ∧ H'.length = H.length by
    obtain ⟨r, H', h1, rfl, h2⟩ := h
    exact ⟨H', h1, h2⟩
  refine r_slices_SortFunc_api_Ride_api_Ride _ _ _ ?_
  have hlen : lenX H .slice v = some (I l.length) := by rw [ho.len]; simp
  obtain ⟨k, hb⟩ := bits_len l.length hl H
  obtain ⟨H', h1, h2⟩ := ins_api_Ride hz hc hP (by omega) hA hp ho
  simp only [hlen, conv_len (show l.length < 1000000 by omega), hb, SS]
  refine Yl.bind (Q' := fun r H' => P H' ∧ Own H' 8 v ((sortI c l).map enc) ∧ Keeps H H' v v ∧ H'.length = H.length) ?_ fun r H' h => yl_some.2 ⟨rfl, h⟩
  refine r_slices_pdqsortCmpFunc_api_Ride _ _ _ _ _ _ ?_
  refine l_slices_pdqsortCmpFunc_api_Ride_0_s _ _ _ _ _ _ _ _ ?_
  rw [sub64 _ _ (by omega) (by omega)]
  simp only [SS]
  rw [if_pos (by omega)]
  simp only [h1, SS]
  exact h2
end
end Y
end Go.Proofs.YtplginnkececaaaGreatDoor

set_option linter.unusedSimpArgs false
set_option linter.unusedVariables false
namespace Go.Proofs.YtplginnkececaaaGreatDoor
open Go
namespace Y
open X

theorem lay_ride : Lay 8 (some 8) encRide := Lay.agg (f := Ride.cells) (fun _ => rfl) (fun _ => rfl)

theorem byRide_ok (H : Heap) (a b : Ride) : pureCall prog (R prog) f_request_Current_1 [encRide a, encRide b] H = some (I (byRide a b)) := by
  refine pure_fz (by simp [fz_ride]) rfl (r_request_Current_1 _ _ _ ?_)
  have k1 : boxAV 8 (encRide a) [] = some (.ptr 0 0 0, [.arr 8 [encRide a]]) := box_ok rfl rfl
  have k2 : boxAV 8 (encRide b) [.arr 8 [encRide a]] = some (.ptr 1 0 0, [.arr 8 [encRide a], .arr 8 [encRide b]]) := box_ok rfl rfl
  have l1 : loadAV [.arr 8 [encRide a], .arr 8 [encRide b]] none (.ptr 0 0 0) = some (.str a.id) := rfl
  have l2 : loadAV [.arr 8 [encRide a], .arr 8 [encRide b]] none (.ptr 1 0 0) = some (.str b.id) := rfl
  simp only [k1, k2, l1, l2, compare_ok, SS]
  rfl

theorem current_ok {H : Heap} {v : AV} {who : List Rider} {l : List Ask} (hv : snap H deep v = some (.vslice (l.map encAsk))) (hf : Fine who l) {t : Int} (ht : moment t = true) :
    pureCall prog (R prog) f_request_Current [.vslice (who.map encRider), v, I t] H = some (.tuple [.vslice ((curOf (deskAt who [] l t)).map encRide), I 0]) := by
  refine pure_snap (bs := [.vslice (who.map encRider), .vslice (l.map encAsk), I t]) (mapM3 ((fz_vslice _).1 H) hv rfl) rfl (r_request_Current _ _ _ _ ?_)
  have htr := moment_iff.1 ht
  obtain ⟨d, A, H', e1, e2, e3, e4, e5, e6, e7⟩ := run_ok (who := who) (rooms := []) (rv := .nilslice) (.inl ⟨rfl, rfl⟩) (by simp) hf.many (by simp) hf.ok hf.few (t := t) (by unfold endT at htr; omega) []
  have hlen : lenX H' .slice A.vo = some (I A.ps.length) := by rw [e2.order.len]; simp
  simp only [checkRiders_ok _ hf.many hf.keys, checkAsks_ok _ (show l.length < 1000000 by have := hf.few; omega) (fun a ha => (hf.ok a ha).fit), hf.riders, hf.asks, lit2_int', SS]
  rw [first_ok _ (by simp)]
  have hz : firstE [0, 0] = 0 := rfl
  simp only [hz, moment_ok, ht, ne_eq, not_true_eq_false, e1, desk_vo e2.desk, hlen, SS]
  generalize deskAt who [] l t = D at e2 e3 e4 e5 e6 ⊢
  generalize refusedOf who [] l t = rs at e2
  have hn12 := e3.ents
  have key : ∀ (m i : Nat) (v : AV) (H2 : Heap), m + i = A.ps.length → Rep H2 d A D rs → Own H2 8 v ((((D.ents.take i).filter fun e => e.opn).map fun e => e.ride).map encRide) → (∀ b, v.blockOf = some b → Out d A b) →
      Yl (l_request_Current_0 v A.vo (I A.ps.length) (I i) H2 (fun v11 H4 => (R prog f_slices_SortFunc_api_Ride_api_Ride [v11, .func (.func f_request_Current_1) []] H4).bind fun r5 => some (.tuple [v11, .int .i64 0], r5.2)))
        fun v' H' => snap H' deep v' = some (.tuple [.vslice ((curOf D).map encRide), I 0]) ∧ ownOnly H' deep v' = true := by
    intro m
    induction m with
    | zero =>
      intro i v H2 hm r ho hob
      refine l_request_Current_0_s _ _ _ _ _ _ ?_
      simp only [SS]
      rw [if_neg (by omega)]
      have hlen := r.len
      rw [List.take_of_length_le (by omega)] at ho
      have hle : ((D.ents.filter fun e => e.opn).map fun e => e.ride).length ≤ 12 := by
        rw [List.length_map]; exact Nat.le_trans (List.length_filter_le _ _) hn12
      obtain ⟨H3, s1, s2, s3, s4, s5⟩ := sort_api_Ride (A := fun _ => True) (P := fun _ => True) (c := byRide) (cmp := .func (.func f_request_Current_1) []) lay_ride (by
        intro a b H2 K _ _ _
        rw [callK_pure (by rfl), List.append_nil, byRide_ok]; rfl) (fun _ _ _ _ _ => trivial) hle (fun _ _ => trivial) trivial ho
      simp only [s1, SS]
      refine ⟨snap2 (k := 11) (s3.snapK (k := 10) (mapM_id fun a ha => by obtain ⟨n, _, rfl⟩ := List.mem_map.1 ha; rfl)) rfl, own2 (k := 11) (s3.ownOnlyK (k := 10) (List.all_eq_true.2 fun a ha => by obtain ⟨n, _, rfl⟩ := List.mem_map.1 ha; rfl)) rfl⟩
    | succ m ih =>
      intro i v H2 hm r ho hob
      refine l_request_Current_0_s _ _ _ _ _ _ ?_
      have hi : i < A.ps.length := by omega
      have hil : i < D.ents.length := by rw [← r.len]; exact hi
      obtain ⟨p, g1, g2⟩ := r.order.loadL (lay_ptr id) (i := i) hi
      have g2 : loadAV H2 none p = some (P0 A.ps[i]) := g2
      have hx := r.ents i hi
      have htake : ((D.ents.take (i + 1)).filter fun e => e.opn) = ((D.ents.take i).filter fun e => e.opn) ++ if (entAt D.ents i).opn then [entAt D.ents i] else [] := by
        rw [List.take_succ_eq_append_getElem hil, List.filter_append, ← entAt_get hil]
        congr 1
        cases ho : (entAt D.ents i).opn <;> simp [ho]
      simp only [SS]
      rw [if_pos (by omega)]
      simp only [g1, g2, ent_open hx, ent_ride hx, SS]
      cases hop : (entAt D.ents i).opn with
      | false =>
        rw [hop] at htake
        simp only [SS]
        rw [succ64 _ _ (by omega)]
        simp only [SS]
        refine ih (i + 1) v H2 (by omega) r ?_ hob
        rw [htake]; simpa using ho
      | true =>
        rw [hop] at htake
        have hls : litAV 8 [(.agg [(.str []), (.str []), (.str []), (.str []), (.int .i64 0), (.int .i64 0), (.int .i64 0), (.int .i64 0)])] [(0, encRide (entAt D.ents i).st.ride)] false H2 = some (.vslice [encRide (entAt D.ents i).st.ride], H2) := lit_one rfl rfl rfl
        obtain ⟨v', H3, c1, c2, c3⟩ := ho.appendL (bytes := 96) lay_ride (entAt D.ents i).st.ride (y := .vslice [encRide (entAt D.ents i).st.ride]) rfl (by omega) (by
          rw [List.length_map]
          have := List.length_filter_le (fun e : Ent => e.opn) (D.ents.take i)
          simp at this; omega)
        simp only [hls, c1, SS]
        rw [succ64 _ _ (by omega)]
        simp only [SS]
        refine ih (i + 1) v' H3 (by omega) (r.outBy c3 hob) ?_ (outBy r c3 hob)
        rw [htake]
        simpa using c2
  exact key A.ps.length 0 .nilslice H' (by omega) e2 (.nil _ _) (fun b hb => by cases hb)

theorem roomOf1_ok (r : Ride) (H : Heap) (x : Room) : pureCall prog (R prog) f_jitkeep2_roomOf_1 [encRoom x, .vptr r.cells] H = some (.bool (inRoom r x)) := by
  refine pure_fz (by intro a ha; simp at ha; rcases ha with rfl | rfl; exact fz_agg (by intro c hc; simp at hc; rcases hc with rfl | rfl | rfl <;> exact ⟨fun H => rfl, rfl⟩); exact fz_vptr _) rfl (r_jitkeep2_roomOf_1 _ _ _ ?_)
  have h1 : ([Blk.arr 3 [encRoom x]] : Heap)[0]? = some (.arr 3 [encRoom x]) := rfl
  have k1 : boxAV 3 (encRoom x) [] = some (.ptr 0 0 0, [.arr 3 [encRoom x]]) := box_room [] x
  simp only [k1, room_frm h1, room_to h1, rv_at _ _ (show 4 ≤ 8 by omega), rv_ready, SS]
  unfold inRoom
  by_cases c1 : x.frm ≤ r.ready
  · simp only [c1, SS]; rfl
  · simp only [c1, SS]; rfl

theorem roomOf_ok (H : Heap) (rooms : List Room) (hl : rooms.length < 1000000) (r : Ride) : pureCall prog (R prog) f_jitkeep2_roomOf [.vslice (rooms.map encRoom), encRide r] H = some (I (Desk.roomI (rooms.findIdx? (inRoom r)))) := by
  refine pure_fz (by intro a ha; simp at ha; rcases ha with rfl | rfl; exact fz_vslice _; exact fz_ride _) rfl (r_jitkeep2_roomOf _ _ _ ?_)
  have h1 : ([Blk.arr 8 [encRide r]] : Heap)[0]? = some (.arr 8 [encRide r]) := rfl
  have k1 : boxAV 8 (encRide r) [] = some (.ptr 0 0 0, [.arr 8 [encRide r]]) := box_ride [] r
  simp only [k1, indexRoomG (f := f_jitkeep2_roomOf_1) (by rfl) (roomOf1_ok r) h1 rooms hl, SS]
  rfl

theorem containsRide_ok (H : Heap) (l : List Ride) (r : Ride) (hl : l.length < 1000000) : pureCall prog (R prog) f_slices_Contains_api_Ride_api_Ride [.vslice (l.map encRide), encRide r] H = some (.bool (decide (r ∈ l))) := by
  have hi : ∀ H, pureCall prog (R prog) f_slices_Index_api_Ride_api_Ride [.vslice (l.map encRide), encRide r] H = some (I (Desk.roomI (l.findIdx? fun x => decide (r = x)))) := by
    intro H
    refine pure_fz (by intro a ha; simp at ha; rcases ha with rfl | rfl; exact fz_vslice _; exact fz_ride _) rfl (r_slices_Index_api_Ride_api_Ride _ _ _ ?_)
    have h1 : ([Blk.arr 8 [encRide r]] : Heap)[0]? = some (.arr 8 [encRide r]) := rfl
    have k1 : boxAV 8 (encRide r) [] = some (.ptr 0 0 0, [.arr 8 [encRide r]]) := box_ride [] r
    simp only [k1, SS, List.length_map]
    refine range_yl (n := l.length) (L := fun i H => l_slices_Index_api_Ride_api_Ride_0 (.vslice (l.map encRide)) (.ptr 0 0 0) (I l.length) (I i) H (fun H2 => some (I (-1), H2)))
      (fun i H' => H' = [.arr 8 [encRide r]] ∧ l.findIdx? (fun x => decide (r = x)) = ((l.drop i).findIdx? fun x => decide (r = x)).map (· + i)) ?_ ?_ l.length 0 _ (by omega) ⟨rfl, by simp⟩
    · rintro H' ⟨rfl, h1⟩
      refine l_slices_Index_api_Ride_api_Ride_0_s _ _ _ _ _ _ ?_
      simp only [SS]
      rw [if_neg (by omega)]
      refine yl_some.2 ?_
      rw [h1]; simp [Desk.roomI]; rfl
    · rintro i hi H' ⟨rfl, h2⟩ ih
      refine l_slices_Index_api_Ride_api_Ride_0_s _ _ _ _ _ _ ?_
      have he : (l.map encRide)[i]? = some (encRide l[i]) := by rw [List.getElem?_map, List.getElem?_eq_getElem hi]; rfl
      rw [List.drop_eq_getElem_cons hi, List.findIdx?_cons] at h2
      generalize l[i] = s at he h2
      simp only [SS]
      rw [if_pos (by omega), index_vslice (sz := 8) he rfl]
      simp only [ride_all h1, vl_ride, ride_eql, SS]
      by_cases hs : r = s
      · simp only [hs, decide_true, if_true, SS] at h2 ⊢
        rw [h2]; simp [Desk.roomI]; rfl
      · simp only [hs, decide_false, Bool.false_eq_true, if_false] at h2 ⊢
        rw [succ64 _ _ (by omega)]
        simp only [SS]
        refine ih _ ⟨rfl, ?_⟩
        rw [h2, Option.map_map]
        congr 1
        funext x; simp; omega
  refine pure_fz (by intro a ha; simp at ha; rcases ha with rfl | rfl; exact fz_vslice _; exact fz_ride _) rfl (r_slices_Contains_api_Ride_api_Ride _ _ _ ?_)
  have h1 : ([Blk.arr 8 [encRide r]] : Heap)[0]? = some (.arr 8 [encRide r]) := rfl
  have k1 : boxAV 8 (encRide r) [] = some (.ptr 0 0 0, [.arr 8 [encRide r]]) := box_ride [] r
  simp only [k1, ride_all h1, hi, SS]
  have : decide ((0 : Int) ≤ Desk.roomI (l.findIdx? fun x => decide (r = x))) = decide (r ∈ l) := by
    cases hf : l.findIdx? (fun x => decide (r = x)) with
    | none =>
      rw [List.findIdx?_eq_none_iff] at hf
      have : ¬ r ∈ l := fun h => by have := hf r h; simp at this
      simp [Desk.roomI, this]
    | some i =>
      obtain ⟨h1, h2, _⟩ := List.findIdx?_eq_some_iff_getElem.1 hf
      have : r ∈ l := by simp at h2; rw [h2]; exact List.getElem_mem h1
      have h0 : (0 : Int) ≤ Desk.roomI (some i) := by show (0 : Int) ≤ (i : Int); omega
      simp [this, h0]
  rw [this]; rfl
end Y
end Go.Proofs.YtplginnkececaaaGreatDoor
