/- The desk: a change, or an end; all asks are followed. The desk: it is made, and follows all asks up to a moment. Sorting by insertion of elements api_Ask: what the library's functions compute. Neighbours that are alike are left out: CompactFunc_api_Ask_api_Ask. What Asks and RightAsks hand out. Asks that are right: each by itself, and in order; what is left out of them. No condition. -/
import Derived.Test.YtplginnkececaaaGreatDoorZRDG
import Derived.Test.YtplginnkececaaaGreatDoorZRDD
import Derived.Test.YtplginnkececaaaGreatDoorZRI
set_option linter.unusedSimpArgs false
set_option linter.unusedVariables false
namespace Go.Proofs.YtplginnkececaaaGreatDoor
open Go
namespace Y
open X

theorem chk_ok2 {α : Type} {b i o c j p j' p' : Nat} (h : b ≠ c) (K : Option α) : chkK [(.ptr b i o, .ptr c j p), (.ptr b i o, .ptr c j' p')] K = K := by
  have : Nat.beq b c = false := by
    cases hb : Nat.beq b c with
    | false => rfl
    | true => exact absurd (Nat.eq_of_beq_eq_true hb) h
  unfold chkK
  rw [if_pos]
  simp only [List.all_cons, List.all_nil, Bool.and_true]
  show (!Nat.beq b c && !Nat.beq b c) = true
  rw [this]; rfl

theorem follow_old {H : Heap} {d : Nat} {A : Addr} {D D2 : Desk} {rs : List Int} (h : Rep H d A D rs) (hg : Good D) {a : Ask} (hf : FitA a) (hs : a.kind = 2 → 0 ≤ a.ride.size) (hk0 : a.kind = 1 ∨ a.kind = 2 ∨ a.kind = 3 ∨ a.kind = 4) {i : Nat} (hfd : Desk.findId D.ents a.ride.id = some i) (hfo : D.follow a = some D2) (hm : D.moved.length < 90000) (hlt : D.late.length < 90000) :
    ∃ A' H', R prog f_request_desk_follow [P0 d, encAsk a] H = some (.bool true, H') ∧ Rep H' d A' D2 rs ∧ Fr H H' d A A' ∧ Good D2 ∧ D2.moved.length ≤ D.moved.length + 12 ∧ D2.late.length ≤ D.late.length + 1 := by
  have h1 := h.app [.arr 10 [encAsk a]]
  have hbox : (H ++ [.arr 10 [encAsk a]])[H.length]? = some (.arr 10 [encAsk a]) := last_get H _
  have hcout : Out d A H.length := h.out (Nat.le_refl _)
  have hlk := lookup_map P0 .nilptr a.ride.id h1.all
  rw [look_id h.len, hfd] at hlk
  generalize hH1 : H ++ [.arr 10 [encAsk a]] = H1 at h1 hbox hlk
  have hx1 : Ext0 H H1 := by rw [← hH1]; exact Ext0.app _ _
  have hpn : ∀ H b, binAV H .neq .ptr (P0 b) .nilptr = some (.bool true) := fun _ _ => rfl
  have hpe : ∀ H b, binAV H .eql .ptr (P0 b) .nilptr = some (.bool false) := fun _ _ => rfl
  have hil : i < D.ents.length := (List.findIdx?_eq_some_iff_getElem.1 hfd).1
  have hip : i < A.ps.length := by rw [h.len]; exact hil
  have hidi : (entAt D.ents i).ride.id = a.ride.id := by
    have := (List.findIdx?_eq_some_iff_getElem.1 hfd).2.1
    rw [entAt_get hil]; simpa using this
  have hpm := permits_ok h1 hg.neat hf.ride a.at' (some i) (fun j hj => by cases hj; exact hip)
  have hpt : A.ps.getD i 0 = A.ps[i] := by rw [List.getD_eq_getElem?_getD, List.getElem?_eq_getElem hip]; rfl
  have hptr : ptrO A (some i) = P0 A.ps[i] := congrArg P0 hpt
  rw [hptr] at hpm
  simp only [Option.map_some, Option.getD_some, hpt] at hlk
  have hx := h1.ents i hip
  unfold Desk.follow at hfo
  rw [hfd] at hfo
  simp only at hfo
  split at hfo
  · cases hfo
  rename_i c1
  split at hfo
  · cases hfo
  rename_i c2
  split at hfo
  · cases hfo
  rename_i c3
  have ho : (entAt D.ents i).opn = true := by
    cases ho : (entAt D.ents i).opn with
    | true => rfl
    | false => exact absurd (.inr (.inl ho)) c1
  have hk1 : ¬ a.kind = 1 := fun e => c1 (.inl e)
  have hrd : (entAt D.ents i).ride.rider = a.ride.rider := by
    by_cases e : (entAt D.ents i).ride.rider = a.ride.rider
    · exact e
    · exact absurd (.inr (.inr e)) c1
  have hrd' : (entAt D.ents i).st.ride.rider = a.ride.rider := hrd
  obtain ⟨H2, b1, b2, b3⟩ := leave_ok h1 hg.neat hip (hg.sure hil ho)
  have hbox2 := b3.out _ _ hbox hcout
  have hx2 := b2.ents i hip
  rw [Desk.leave_ents] at hx2
  have main : ∃ A' H', Rep H' d A' D2 rs ∧ Fr H1 H' d A A' ∧ Good D2 ∧ D2.moved.length ≤ D.moved.length + 12 ∧ D2.late.length ≤ D.late.length + 1 ∧ Yl (j_request_desk_follow_1 (P0 d) (.ptr H.length 0 0) (P0 A.ps[i]) H1) fun v H2 => v = .bool true ∧ H2 = H' := by
    unfold j_request_desk_follow_1
    by_cases h2 : a.kind = 2
    · simp only [h2, if_true, Option.some.injEq] at hfo
      have gd := hg.drop hil ho ⟨⟨a.ride, 2, (entAt D.ents i).st.since⟩, true⟩ (.inr rfl) (hs h2) hf.ride (D.leave i).late
      have r3 := b2.setEnt hip ⟨⟨a.ride, 2, (entAt D.ents i).st.since⟩, true⟩ (by rw [Desk.leave_ents]; exact hidi.symm)
      have q1 := ent_put hx2 ⟨⟨a.ride, (entAt D.ents i).st.state, (entAt D.ents i).st.since⟩, (entAt D.ents i).opn⟩ 0 8 (encRide a.ride) (by omega) rfl rfl rfl
      have q2 := ent_put (set_same (entB ⟨⟨a.ride, (entAt D.ents i).st.state, (entAt D.ents i).st.since⟩, (entAt D.ents i).opn⟩) hx2) ⟨⟨a.ride, 2, (entAt D.ents i).st.since⟩, (entAt D.ents i).opn⟩ 8 1 (I 2) (by omega) rfl rfl rfl
      rw [ho] at q1 q2
      rw [List.set_set] at q2
      have hil3 : i < ((D.leave i).setEnt i ⟨⟨a.ride, 2, (entAt D.ents i).st.since⟩, true⟩).ents.length := by simp [Desk.setEnt, Desk.leave_ents]; exact hil
      have he3 : entAt ((D.leave i).setEnt i ⟨⟨a.ride, 2, (entAt D.ents i).st.since⟩, true⟩).ents i = ⟨⟨a.ride, 2, (entAt D.ents i).st.since⟩, true⟩ := by
        simp only [Desk.setEnt, Desk.leave_ents]; exact entAt_set_self _ hil
      have hbox3 : (H2.set A.ps[i] (entB ⟨⟨a.ride, 2, (entAt D.ents i).st.since⟩, true⟩))[H.length]? = some (.arr 10 [encAsk a]) := set_other _ (fun e => hbox2.2.ps (e ▸ List.getElem_mem hip)) hbox2.1
      obtain ⟨H4, d1, d2, d3⟩ := placeIn_ok r3 gd.neat hip a.at'
      have gd4 := gd.place hil3 (by rw [he3]) (by rw [he3]; intro hc; cases hc) a.at'
      have hmo4 : (((D.leave i).setEnt i ⟨⟨a.ride, 2, (entAt D.ents i).st.since⟩, true⟩).place i a.at').moved = D.moved := by rw [place_eq]; simp only [Desk.setEnt, leave_moved]
      have hla4 : (((D.leave i).setEnt i ⟨⟨a.ride, 2, (entAt D.ents i).st.since⟩, true⟩).place i a.at').late = D.late := by rw [place_eq]; simp only [Desk.setEnt, leave_late]
      have hbox4 := d3.out _ _ hbox3 hbox2.2
      obtain ⟨A5, H5, m1, m2, m3, m4, m5, m6⟩ := moveUp_ok d2 gd4 (by rw [hmo4]; omega) (D.room (entAt D.ents i).ride) a.at'
      rw [hfo] at m2 m5 m6
      rw [hmo4] at m6
      refine ⟨A5, H5, m2, ((b3.trans (Fr.setEnt hip _)).trans d3).trans m4, m5, m6, ?_, ?_⟩
      · have : D2.late = D.late := by
          rw [← hfo]
          have := (Desk.sim_moveUp (((D.leave i).setEnt i ⟨⟨a.ride, 2, (entAt D.ents i).st.since⟩, true⟩).place i a.at') (D.room (entAt D.ents i).ride) a.at').late
          rw [this, hla4]
        rw [this]; omega
      · simp only [b1, ask_kind hbox2.1, h2, ask_ride hbox2.1, q1, q2, ask_at hbox3, d1, ask_at hbox4.1, m1, SS]
        first | exact ⟨trivial, trivial⟩ | exact ⟨rfl, rfl⟩ | exact yl_some.2 ⟨rfl, rfl⟩
    · simp only [h2, if_false, Option.some.injEq] at hfo
      have gd := hg.drop hil ho ⟨⟨(entAt D.ents i).ride, if a.kind = 4 then 4 else 3, a.at'⟩, false⟩ (.inl rfl) (hg.inv.size i hil) (by have := hg.fit _ (entAt_mem hil); exact this) ((D.leave i).late ++ [⟨a.at', a.kind, (entAt D.ents i).ride⟩])
      obtain ⟨v', H3, c1, c2, c3⟩ := b2.late.appendL (bytes := 112) lay_ask ⟨a.at', a.kind, (entAt D.ents i).ride⟩ (y := .vslice [encAsk ⟨a.at', a.kind, (entAt D.ents i).ride⟩]) rfl (by omega) (by rw [leave_late]; omega)
      obtain ⟨d1, d2, d3⟩ := b2.pushLate c2 c3
      have f3 := b3.trans d3
      have hx3 := d2.ents i hip
      have hx3' : (H3.set d (deskB { A with vl := v' }))[A.ps[i]]? = some (entB (entAt D.ents i)) := by
        have : (D.leave i).ents = D.ents := Desk.leave_ents D i
        simp only [this] at hx3; exact hx3
      have hbox3 := d3.out _ _ hbox2.1 hbox2.2
      have r4 := d2.setEnt (i := i) hip ⟨⟨(entAt D.ents i).ride, if a.kind = 4 then 4 else 3, a.at'⟩, false⟩ (by
        have : (D.leave i).ents = D.ents := Desk.leave_ents D i
        simp only [this])
      have hls : litAV 10 [(.agg [(.int .i64 0), (.int .i64 0), (.str []), (.str []), (.str []), (.str []), (.int .i64 0), (.int .i64 0), (.int .i64 0), (.int .i64 0)])] [(0, encAsk ⟨a.at', a.kind, (entAt D.ents i).ride⟩)] false H2 = some (.vslice [encAsk ⟨a.at', a.kind, (entAt D.ents i).ride⟩], H2) := lit_one rfl rfl rfl
      have hbl : buildAV [(.int .i64 0), (.int .i64 0), (.str []), (.str []), (.str []), (.str []), (.int .i64 0), (.int .i64 0), (.int .i64 0), (.int .i64 0)] [(0, 1, I a.at'), (1, 1, I a.kind), (2, 8, encRide (entAt D.ents i).st.ride)] = some (encAsk ⟨a.at', a.kind, (entAt D.ents i).ride⟩) := build_ask' _ _ _
      generalize hHd : H3.set d (deskB { A with vl := v' }) = Hd at d2 d3 f3 hx3' hbox3 r4
      have hpne : H.length ≠ A.ps[i] := fun e => hbox3.2.ps (e ▸ List.getElem_mem hip)
      have q1 := ent_put hx3' ⟨(entAt D.ents i).st, false⟩ 10 1 (.bool false) (by omega) rfl rfl rfl
      have q2 := ent_put (set_same (entB ⟨(entAt D.ents i).st, false⟩) hx3') ⟨⟨(entAt D.ents i).st.ride, 3, (entAt D.ents i).st.since⟩, false⟩ 8 1 (I 3) (by omega) rfl rfl rfl
      rw [List.set_set] at q2
      have q3 := ent_put (set_same (entB ⟨⟨(entAt D.ents i).st.ride, 3, (entAt D.ents i).st.since⟩, false⟩) hx3') ⟨⟨(entAt D.ents i).st.ride, 3, a.at'⟩, false⟩ 9 1 (I a.at') (by omega) rfl rfl rfl
      rw [List.set_set] at q3
      have q4 := ent_put (set_same (entB ⟨⟨(entAt D.ents i).st.ride, 3, a.at'⟩, false⟩) hx3') ⟨⟨(entAt D.ents i).st.ride, 4, a.at'⟩, false⟩ 8 1 (I 4) (by omega) rfl rfl rfl
      rw [List.set_set] at q4
      have hboxs : ∀ k, (Hd.set A.ps[i] k)[H.length]? = some (.arr 10 [encAsk a]) := fun k => set_other _ hpne hbox3.1
      have hmo4 : (({ D.leave i with late := (D.leave i).late ++ [⟨a.at', a.kind, (entAt D.ents i).ride⟩] } : Desk).setEnt i ⟨⟨(entAt D.ents i).ride, if a.kind = 4 then 4 else 3, a.at'⟩, false⟩).moved = D.moved := by simp only [Desk.setEnt, leave_moved]
      obtain ⟨A5, H5, m1, m2, m3, m4, m5, m6⟩ := moveUp_ok r4 gd (by rw [hmo4]; omega) (D.room (entAt D.ents i).ride) a.at'
      rw [hfo] at m2 m5 m6
      rw [hmo4] at m6
      refine ⟨A5, H5, m2, (f3.trans (Fr.setEnt (A := { A with vl := v' }) hip _)).trans m4, m5, m6, ?_, ?_⟩
      · have : D2.late = (D.leave i).late ++ [⟨a.at', a.kind, (entAt D.ents i).ride⟩] := by
          rw [← hfo]
          have := (Desk.sim_moveUp (({ D.leave i with late := (D.leave i).late ++ [⟨a.at', a.kind, (entAt D.ents i).ride⟩] } : Desk).setEnt i ⟨⟨(entAt D.ents i).ride, if a.kind = 4 then 4 else 3, a.at'⟩, false⟩) (D.room (entAt D.ents i).ride) a.at').late
          rw [this]; rfl
        rw [this, leave_late]; simp
      · have hput := desk_put_vl d1 v' c2.cells
        rw [hHd] at hput
        have m1' : ∀ H' k, H' = Hd.set A.ps[i] (entB ⟨⟨(entAt D.ents i).st.ride, if a.kind = 4 then 4 else 3, a.at'⟩, false⟩) → k = Desk.roomI (D.room (entAt D.ents i).ride) → R prog f_request_desk_moveUp [P0 d, I k, I a.at'] H' = some (.tuple [], H5) := by
          rintro H' k rfl rfl; exact m1
        simp only [b1, ask_kind hbox2.1, h2, desk_vl b2.desk, ask_at hbox2.1, ent_ride hx2, hbl, hls, c1, hput, ask_at hbox3.1, q1, q2, q3, SS]
        have hchk : ∀ K : Option (AV × Heap), chkK [(.ptr H.length 0 0, .ptr A.ps[i] 0 10), (.ptr H.length 0 0, .ptr A.ps[i] 0 8)] K = K := fun K => chk_ok2 hpne K
        simp only [hchk, ask_kind (hboxs _), SS]
        by_cases h4 : a.kind = 4
        · have e4 := m1' (Hd.set A.ps[i] (entB ⟨⟨(entAt D.ents i).st.ride, 4, a.at'⟩, false⟩)) _ (by rw [if_pos h4]) rfl
          simp only [h4, if_true, q4, ask_at (hboxs _), SS] at e4 ⊢
          have e4' : R prog f_request_desk_moveUp [P0 d, I (Desk.roomI (D.room (entAt D.ents i).ride)), I a.at'] (Hd.set A.ps[i] (entB ⟨⟨(entAt D.ents i).st.ride, 4, a.at'⟩, false⟩)) = some (.tuple [], H5) := e4
          simp only [e4', SS]
          first | exact ⟨trivial, trivial⟩ | exact ⟨rfl, rfl⟩ | exact yl_some.2 ⟨rfl, rfl⟩
        · have e4 := m1' (Hd.set A.ps[i] (entB ⟨⟨(entAt D.ents i).st.ride, 3, a.at'⟩, false⟩)) _ (by rw [if_neg h4]) rfl
          simp only [h4, if_false, ask_at (hboxs _), e4, SS]
          first | exact ⟨trivial, trivial⟩ | exact ⟨rfl, rfl⟩ | exact yl_some.2 ⟨rfl, rfl⟩
  obtain ⟨A', H', z1, z2, z3, z4, z5, z6⟩ := main
  suffices hh : Yl (R prog f_request_desk_follow [P0 d, encAsk a] H) fun v H2 => v = .bool true ∧ H2 = H' by
    obtain ⟨v, H2, a1, rfl, rfl⟩ := hh
    exact ⟨A', H2, a1, z1, (Fr.ext hx1).trans z2, z3, z4, z5⟩
  refine r_request_desk_follow _ _ _ ?_
  rw [box_ask, hH1]
  simp only [desk_am h1.desk, ask_id hbox, ask_kind hbox, ask_ride hbox, ask_at hbox, ask_rider hbox, ent_open hx, ent_rider hx, ent_ready hx, hlk, hpn, hpe, hpm, ho, hrd', hk1, j_request_desk_follow_2, ne_eq, not_true_eq_false, SS]
  by_cases h2 : a.kind = 2
  · have hp : D.permits a.ride a.at' (some i) = true := by
      cases hp : D.permits a.ride a.at' (some i) with
      | true => rfl
      | false => exact absurd ⟨h2, hp⟩ c2
    simp only [h2, hp, SS]
    exact z6
  · simp only [h2, if_false, SS]
    by_cases h4 : a.kind = 4
    · have : ¬ a.at' < (entAt D.ents i).st.ride.ready := fun e => c3 ⟨h4, e⟩
      simp only [h4, this, if_true, if_false]
      exact z6
    · simp only [h4, if_false]
      exact z6
end Y
end Go.Proofs.YtplginnkececaaaGreatDoor

set_option linter.unusedSimpArgs false
set_option linter.unusedVariables false
namespace Go.Proofs.YtplginnkececaaaGreatDoor
open Go
namespace Y
open X

structure AskOk (a : Ask) : Prop where
  fit : FitA a
  id : a.ride.id ∈ idsR
  size : a.kind = 1 ∨ a.kind = 2 → 0 ≤ a.ride.size
  kind : a.kind = 1 ∨ a.kind = 2 ∨ a.kind = 3 ∨ a.kind = 4
  at' : 0 ≤ a.at' ∧ a.at' ≤ 1000000000000

theorem over_rides (t : Int) : ∀ (n : Nat) (D : Desk), D.openN ≤ n → (D.over t).ents.map (fun e => e.ride.id) = D.ents.map fun e => e.ride.id := by
  have key : ∀ es : List Ent, es.map (fun e => e.ride.id) = (core es).map fun p => p.1.id := by
    intro es; simp [core, coreE, List.map_map]
  intro n
  induction n with
  | zero =>
    intro D h
    rw [Desk.over_eq, if_neg]
    intro hle
    have := Desk.tick_less D hle
    omega
  | succ n ih =>
    intro D h
    rw [Desk.over_eq]
    split
    · rename_i hle
      have := Desk.tick_less D hle
      rw [ih _ (by omega), key, Desk.tick_core, key, List.map_map]
      rfl
    · rfl

theorem Ids.of_map {D D' : Desk} (h : D'.ents.map (fun e => e.ride.id) = D.ents.map fun e => e.ride.id) (i : Ids D) : Ids D' := by
  refine ⟨by rw [h]; exact i.nodup, fun e he => ?_⟩
  have : e.ride.id ∈ D'.ents.map fun e => e.ride.id := List.mem_map.2 ⟨e, he, rfl⟩
  rw [h] at this
  obtain ⟨e', he', hc⟩ := List.mem_map.1 this
  rw [← hc]; exact i.mem e' he'

theorem Ids.over {D : Desk} (h : Ids D) (t : Int) : Ids (D.over t) := Ids.of_map (over_rides t _ D (Nat.le_refl _)) h

theorem map_set_id {es : List Ent} {i : Nat} {e : Ent} (h : e.ride.id = (entAt es i).ride.id) : (es.set i e).map (fun e => e.ride.id) = es.map fun e => e.ride.id := by
  rw [List.map_set]
  apply List.ext_getElem?
  intro j
  by_cases hj : i = j
  · subst hj
    by_cases hl : i < es.length
    · rw [List.getElem?_set_self (by simpa using hl), List.getElem?_map, List.getElem?_eq_getElem hl, h, entAt_get hl]; rfl
    · rw [List.getElem?_eq_none (by simp; omega), List.getElem?_eq_none (by simp; omega)]
  · rw [List.getElem?_set_ne hj]

theorem sim_ids {D D' : Desk} (h : Sim D D') : D.ents.map (fun e => e.ride.id) = D'.ents.map fun e => e.ride.id := by
  have key : ∀ es : List Ent, es.map (fun e => e.ride.id) = (core es).map fun p => p.1.id := by
    intro es; simp [core, coreE, List.map_map]
  rw [key, h.core, ← key]

theorem Ids.follow {D D2 : Desk} (h : Ids D) {a : Ask} (hid : a.ride.id ∈ idsR) (hf : D.follow a = some D2) : Ids D2 := by
  unfold Desk.follow at hf
  cases hfd : Desk.findId D.ents a.ride.id with
  | none =>
    rw [hfd] at hf
    simp only at hf
    split at hf
    · obtain rfl := Option.some.inj hf
      refine Ids.of_map (sim_ids (Desk.sim_place _ _ _)) ?_
      refine ⟨?_, fun e he => ?_⟩
      · simp only [List.map_append, List.map_cons, List.map_nil]
        refine List.nodup_append.2 ⟨h.nodup, by simp, fun x hx y hy => ?_⟩
        simp only [List.mem_singleton] at hy
        subst hy
        obtain ⟨e, he, rfl⟩ := List.mem_map.1 hx
        unfold Desk.findId at hfd
        rw [List.findIdx?_eq_none_iff] at hfd
        simpa using hfd e he
      · rcases List.mem_append.1 he with he | he
        · exact h.mem e he
        · simp at he; subst he; exact hid
    · cases hf
  | some i =>
    rw [hfd] at hf
    simp only at hf
    have hil : i < D.ents.length := (List.findIdx?_eq_some_iff_getElem.1 hfd).1
    have hidi : (entAt D.ents i).ride.id = a.ride.id := by
      have := (List.findIdx?_eq_some_iff_getElem.1 hfd).2.1
      rw [entAt_get hil]; simpa using this
    split at hf
    · cases hf
    split at hf
    · cases hf
    split at hf
    · cases hf
    obtain rfl := Option.some.inj hf
    refine Ids.of_map (sim_ids (Desk.sim_moveUp _ _ _)) ?_
    split
    · refine Ids.of_map (sim_ids (Desk.sim_place _ _ _)) ?_
      refine Ids.of_map ?_ h
      simp only [Desk.setEnt, Desk.leave_ents]
      exact map_set_id hidi.symm
    · refine Ids.of_map ?_ h
      simp only [Desk.setEnt, Desk.leave_ents]
      exact map_set_id rfl

theorem follow_ok {H : Heap} {d : Nat} {A : Addr} {D : Desk} {rs : List Int} (h : Rep H d A D rs) (hg : Good D) (hi : Ids D) {a : Ask} (ha : AskOk a) (hm : D.moved.length < 90000) (hl : D.late.length < 90000) :
    (D.follow a = none ∧ ∃ H', R prog f_request_desk_follow [P0 d, encAsk a] H = some (.bool false, H') ∧ Ext0 H H') ∨
    ∃ D2 A' H', D.follow a = some D2 ∧ R prog f_request_desk_follow [P0 d, encAsk a] H = some (.bool true, H') ∧ Rep H' d A' D2 rs ∧ Good D2 ∧ Ids D2 ∧ D2.moved.length ≤ D.moved.length + 12 ∧ D2.late.length ≤ D.late.length + 1 := by
  cases hfo : D.follow a with
  | none => exact .inl ⟨rfl, follow_no h hg ha.fit hfo⟩
  | some D2 =>
    right
    have hids := hi.follow ha.id hfo
    cases hfd : Desk.findId D.ents a.ride.id with
    | some i =>
      obtain ⟨A', H', e1, e2, e3, e4, e5, e6⟩ := follow_old h hg ha.fit (fun e => ha.size (.inr e)) ha.kind hfd hfo hm hl
      exact ⟨D2, A', H', rfl, e1, e2, e4, hids, e5, e6⟩
    | none =>
      have hfo' := hfo
      unfold Desk.follow at hfo
      rw [hfd] at hfo
      simp only at hfo
      split at hfo
      · rename_i hc
        obtain ⟨A', H', e1, e2, e3⟩ := follow_new h hg hi ha.fit ha.id (ha.size (.inl hc.1)) hfd hc.2 hc.1
        obtain rfl := Option.some.inj hfo
        refine ⟨_, A', H', rfl, e1, e2, hg.pushed hi ha.fit.ride (ha.size (.inl hc.1)) a.at', hids, ?_, ?_⟩
        · rw [place_new]; simp only; omega
        · rw [place_new]; simp only; omega
      · cases hfo


theorem Rep.setTab {H : Heap} {d : Nat} {A : Addr} {D : Desk} {rs : List Int} (h : Rep H d A D rs) (m : Tab Rider) : Rep (H.set A.rm (.map (tks m) (tvs encRider m))) d A { D with tab := m } rs := by
  obtain ⟨g, hg⟩ := h.tags
  have kp := h.kept (H' := H.set A.rm (.map (tks m) (tvs encRider m))) hg (t := 1) fun b j hb ht => set_other _ (fun e => ht (by rw [e]; exact hg.rm)) hb
  exact ⟨kp.desk (by omega), set_same _ h.tab, kp.all (by omega), h.rv, h.rvc, kp.order (by omega), kp.used (by omega), kp.moved (by omega), kp.refused (by omega), kp.late (by omega), h.len, fun i hi => kp.ents i hi (by omega), g, hg⟩

theorem newDesk_ok (H : Heap) {who : List Rider} {rooms : List Room} {rv : AV} (hv : (rv = .nilslice ∧ rooms = []) ∨ rv = .vslice (rooms.map encRoom)) (hl : rooms.length < 1000000) (hw : who.length < 1000000) :
    ∃ d A H', R prog f_request_newDesk [.vslice (who.map encRider), rv] H = some (P0 d, H') ∧ Rep H' d A (desk0 who rooms) [] := by
  suffices hh : Yl (R prog f_request_newDesk [.vslice (who.map encRider), rv] H) fun v H' => ∃ d A, v = P0 d ∧ Rep H' d A (desk0 who rooms) [] by
    obtain ⟨v, H', h1, d, A, rfl, h2⟩ := hh
    exact ⟨d, A, H', h1, h2⟩
  refine r_request_newDesk _ _ _ ?_
  have hrv : ∀ H k, snap H (k + 1) rv = some (.vslice (rooms.map encRoom)) := by
    intro H k; rcases hv with ⟨rfl, rfl⟩ | rfl <;> rfl
  have hc : rv.cells = [rv] ∧ rv.storable = true := by rcases hv with ⟨rfl, rfl⟩ | rfl <;> exact ⟨rfl, rfl⟩
  have hlen : ∀ H, lenX H .slice rv = some (I rooms.length) := by
    intro H; rcases hv with ⟨rfl, rfl⟩ | rfl
    · rfl
    · rw [len_vslice, List.length_map]
  let A : Addr := ⟨H.length, H.length + 1, rv, .nilslice, .slice (H.length + 2) 0 rooms.length, .nilslice, .nilslice, .nilslice, []⟩
  let H3 : Heap := H ++ [.map [] [], .map [] [], .arr 1 (List.replicate rooms.length (I 0)), deskB A]
  have m1 : newMapAV H = some (.map H.length, H ++ [.map [] []]) := rfl
  have m2 : newMapAV (H ++ [.map [] []]) = some (.map (H.length + 1), H ++ [.map [] [], .map [] []]) := by
    have := newMap_ok (H ++ [.map [] []]); simpa using this
  have m3 : mkSliceAV 1 8 (.int .i64 0) (I rooms.length) (I rooms.length) (H ++ [.map [] [], .map [] []]) = some (.slice (H.length + 2) 0 rooms.length, H ++ [.map [] [], .map [] [], .arr 1 (List.replicate rooms.length (I 0))]) := by
    simp [mkSliceAV, AV.asNat, natArg]
    omega
  have m4 : buildAV [.nilmap, .nilslice, .nilmap, .nilslice, .nilslice, .nilslice, .nilslice, .nilslice] [(0, 1, .map H.length), (1, 1, rv), (2, 1, .map (H.length + 1)), (4, 1, .slice (H.length + 2) 0 rooms.length)] = some (.agg (deskL A)) := by
    rcases hv with ⟨rfl, rfl⟩ | rfl <;> rfl
  have m5 : boxAV 8 (.agg (deskL A)) (H ++ [.map [] [], .map [] [], .arr 1 (List.replicate rooms.length (I 0))]) = some (P0 (H.length + 3), H3) := by
    have := box_ok (H := H ++ [.map [] [], .map [] [], .arr 1 (List.replicate rooms.length (I 0))]) (sz := 8) (v := .agg (deskL A)) rfl (by rcases hv with ⟨rfl, rfl⟩ | rfl <;> rfl)
    rw [this]
    simp [H3, deskB]
  have rep : Rep H3 (H.length + 3) A { desk0 who rooms with tab := [] } [] := by
    have gx : ∀ k, H3[H.length + k]? = ([.map [] [], .map [] [], .arr 1 (List.replicate rooms.length (I 0)), deskB A] : List Blk)[k]? := fun k => app_get _ _ k
    refine ⟨gx 3, gx 0, gx 1, hrv, hc, .nil _ _, ?_, .nil _ _, .nil _ _, .nil _ _, rfl, fun i hi => absurd hi (Nat.not_lt_zero _), ?_⟩
    · refine .inr ⟨H.length + 2, List.replicate rooms.length (I 0), ?_, gx 2, ?_, ?_⟩
      · simp [desk0, A]
      · simp [desk0]
      · simp [desk0]
    · refine ⟨fun b => if b = H.length then 1 else if b = H.length + 1 then 2 else if b = H.length + 2 then 4 else 0, ?_, ?_, ?_, ?_, ?_, ?_, ?_, ?_, ?_⟩
      · show (if _ then _ else _) = _
        rw [if_neg (by omega), if_neg (by omega), if_neg (by omega)]
      · show (if H.length = H.length then 1 else _) = 1
        rw [if_pos rfl]
      · show (if H.length + 1 = H.length then 1 else if H.length + 1 = H.length + 1 then 2 else _) = 2
        rw [if_neg (by omega), if_pos rfl]
      · intro c h; cases h
      · intro c h
        have : H.length + 2 = c := Option.some.inj h
        subst this
        show (if _ then _ else _) = _
        rw [if_neg (by omega), if_neg (by omega), if_pos rfl]
      · intro c h; cases h
      · intro c h; cases h
      · intro c h; cases h
      · intro i hi; exact absurd hi (Nat.not_lt_zero _)
  simp only [m1, m2, hlen, m3, m4, m5, List.length_map, SS]
  generalize H.length + 3 = d at rep ⊢
  generalize A = A' at rep ⊢
  have key : ∀ (m i : Nat) (H' : Heap), m + i = who.length → Rep H' d A' { desk0 who rooms with tab := (who.take i).foldl (fun m r => upd r.key r m) [] } [] →
      Yl (l_request_newDesk_0 (P0 d) (.vslice (who.map encRider)) (I who.length) (I i) H' (fun v5 H8 => some (v5, H8))) fun v H' => ∃ d A, v = P0 d ∧ Rep H' d A (desk0 who rooms) [] := by
    intro m
    induction m with
    | zero =>
      intro i H' hm r
      refine l_request_newDesk_0_s _ _ _ _ _ _ ?_
      simp only [SS]
      rw [if_neg (by omega)]
      rw [List.take_of_length_le (by omega)] at r
      exact yl_some.2 ⟨d, A', rfl, r⟩
    | succ m ih =>
      intro i H' hm r
      refine l_request_newDesk_0_s _ _ _ _ _ _ ?_
      have hi : i < who.length := by omega
      have he : (who.map encRider)[i]? = some (encRider who[i]) := by rw [List.getElem?_map, List.getElem?_eq_getElem hi]; rfl
      have nx := ih (i + 1)
      rw [List.take_succ_eq_append_getElem hi, List.foldl_append] at nx
      simp only [List.foldl_cons, List.foldl_nil] at nx
      generalize who[i] = w at he nx
      simp only [SS]
      rw [if_pos (by omega), index_vslice (sz := 3) he rfl]
      have r1 := r.app [.arr 3 [encRider w]]
      have hup := update_map encRider w.key w r1.tab
      simp only [vl_rider, box_rider0, put_rider, desk_rm r1.desk, rider_key (last_get _ _), rider_all (last_get _ _), hup, SS]
      rw [succ64 _ _ (by omega)]
      simp only [SS]
      exact nx _ (by omega) (r1.setTab _)
  exact key who.length 0 H3 (by omega) rep


theorem runGo_drop {t : Int} {D : Desk} {rs : List Int} {i : Nat} {l : List Ask} (h : i < l.length) : Desk.runGo t D rs i (l.drop i) = if t < (l[i]).at' then (D, rs) else
    match (D.over (l[i]).at').follow l[i] with
    | some D2 => Desk.runGo t D2 rs (i + 1) (l.drop (i + 1))
    | none => Desk.runGo t (D.over (l[i]).at') (rs ++ [(i : Int)]) (i + 1) (l.drop (i + 1)) := by
  rw [List.drop_eq_getElem_cons h]; rfl

theorem run_ok {who : List Rider} {rooms : List Room} {rv : AV} (hv : (rv = .nilslice ∧ rooms = []) ∨ rv = .vslice (rooms.map encRoom)) (hl : rooms.length < 1000000) (hw : who.length < 1000000)
    (hseats : ∀ r ∈ rooms, 0 ≤ r.seats ∧ r.seats ≤ 1000000) {l : List Ask} (ha : ∀ a ∈ l, AskOk a) (hn : l.length < 20) {t : Int} (ht : 0 ≤ t ∧ t ≤ 1000000000000) (H0 : Heap) :
    ∃ d A H, R prog f_request_run [.vslice (who.map encRider), rv, .vslice (l.map encAsk), I t] H0 = some (P0 d, H) ∧ Rep H d A (deskAt who rooms l t) (refusedOf who rooms l t) ∧ Good (deskAt who rooms l t) ∧ Ids (deskAt who rooms l t) ∧ (deskAt who rooms l t).moved.length < 40000 ∧ (deskAt who rooms l t).late.length ≤ l.length ∧ (refusedOf who rooms l t).length ≤ l.length := by
  obtain ⟨d, A, H1, e1, r1⟩ := newDesk_ok H0 hv hl hw
  have g1 : Good (desk0 who rooms) := by
    refine ⟨Desk.Inv.weak (inv_desk0 who rooms fun k hk => ?_) fun _ _ _ _ _ _ _ => trivial, hl, hseats, by simp [desk0], by simp [desk0]⟩
    exact (hseats _ (by rw [List.getD_eq_getElem?_getD, List.getElem?_eq_getElem hk]; exact List.getElem_mem hk)).1
  have i1 : Ids (desk0 who rooms) := ⟨by simp [desk0], by simp [desk0]⟩
  suffices hh : Yl (R prog f_request_run [.vslice (who.map encRider), rv, .vslice (l.map encAsk), I t] H0) fun v H => v = P0 d ∧ ∃ A, Rep H d A (deskAt who rooms l t) (refusedOf who rooms l t) ∧ Good (deskAt who rooms l t) ∧ Ids (deskAt who rooms l t) ∧ (deskAt who rooms l t).moved.length < 40000 ∧ (deskAt who rooms l t).late.length ≤ l.length ∧ (refusedOf who rooms l t).length ≤ l.length by
    obtain ⟨v, H, h1, rfl, A, h2⟩ := hh
    exact ⟨d, A, H, h1, h2⟩
  refine r_request_run _ _ _ _ _ ?_
  simp only [e1, List.length_map, SS]
  have key : ∀ (m i : Nat) (A : Addr) (D : Desk) (rs : List Int) (H : Heap), m + i = l.length → Rep H d A D rs → Good D → Ids D → D.moved.length ≤ 1740 * i → D.late.length ≤ i → rs.length ≤ i → Desk.runGo t D rs i (l.drop i) = Desk.runGo t (desk0 who rooms) [] 0 l →
      Yl (l_request_run_0 (I t) (P0 d) (.vslice (l.map encAsk)) (I l.length) (I i) H (fun v3_1 v9 H9 => (R prog f_request_desk_over [v9, v3_1] H9).bind fun r10 => some (v9, r10.2)))
        fun v H => v = P0 d ∧ ∃ A, Rep H d A (deskAt who rooms l t) (refusedOf who rooms l t) ∧ Good (deskAt who rooms l t) ∧ Ids (deskAt who rooms l t) ∧ (deskAt who rooms l t).moved.length < 40000 ∧ (deskAt who rooms l t).late.length ≤ l.length ∧ (refusedOf who rooms l t).length ≤ l.length := by
    have fin : ∀ (i : Nat) (A : Addr) (D : Desk) (rs : List Int) (H : Heap), i ≤ l.length → Rep H d A D rs → Good D → Ids D → D.moved.length ≤ 1740 * i → D.late.length ≤ i → rs.length ≤ i → (D, rs) = Desk.runGo t (desk0 who rooms) [] 0 l →
        Yl ((R prog f_request_desk_over [P0 d, I t] H).bind fun r10 => some (P0 d, r10.2)) fun v H => v = P0 d ∧ ∃ A, Rep H d A (deskAt who rooms l t) (refusedOf who rooms l t) ∧ Good (deskAt who rooms l t) ∧ Ids (deskAt who rooms l t) ∧ (deskAt who rooms l t).moved.length < 40000 ∧ (deskAt who rooms l t).late.length ≤ l.length ∧ (refusedOf who rooms l t).length ≤ l.length := by
      intro i A D rs H hi r g ids hm hlt hrs he
      obtain ⟨A', H', o1, o2, o3, o4, o5, o6⟩ := over_ok r g ht (by omega)
      rw [o1]
      simp only [SS]
      have hd : deskAt who rooms l t = D.over t := by unfold deskAt; rw [← he]
      have hr : refusedOf who rooms l t = rs := by unfold refusedOf; rw [← he]
      have hla : (D.over t).late = D.late := by
        have : ∀ (n : Nat) (D : Desk), D.openN ≤ n → (D.over t).late = D.late := by
          intro n
          induction n with
          | zero =>
            intro D h
            rw [Desk.over_eq, if_neg]
            intro hle
            have := Desk.tick_less D hle
            omega
          | succ n ih =>
            intro D h
            rw [Desk.over_eq]
            split
            · rename_i hle
              have := Desk.tick_less D hle
              rw [ih _ (by omega)]
              unfold Desk.tick
              simp only
              rw [(Desk.sim_moveUps _ _ _).late]
              have cl : ∀ (L : List Nat) (p : Desk × List Int), (L.foldl (Desk.close1 (D.nextDue t)) p).1.late = p.1.late := by
                intro L
                induction L with
                | nil => intro p; rfl
                | cons j L ihL =>
                  intro p
                  rw [List.foldl_cons, ihL]
                  unfold Desk.close1
                  simp only
                  split
                  · simp only [Desk.setEnt, leave_late]
                  · rfl
              unfold Desk.closeAll
              rw [cl]
            · rfl
        exact this _ D (Nat.le_refl _)
      rw [hd, hr]
      exact ⟨trivial, A', o2, o5, ids.over t, by omega, by rw [hla]; omega, by omega⟩
    intro m
    induction m with
    | zero =>
      intro i A D rs H hm r g ids hmv hlt hrs he
      refine l_request_run_0_s _ _ _ _ _ _ _ ?_
      rw [List.drop_eq_nil_of_le (by omega)] at he
      simp only [SS]
      rw [if_neg (by omega)]
      exact fin i A D rs H (by omega) r g ids hmv hlt hrs he
    | succ m ih =>
      intro i A D rs H hm r g ids hmv hlt hrs he
      refine l_request_run_0_s _ _ _ _ _ _ _ ?_
      have hi : i < l.length := by omega
      rw [runGo_drop hi] at he
      have hel : (l.map encAsk)[i]? = some (encAsk l[i]) := by rw [List.getElem?_map, List.getElem?_eq_getElem hi]; rfl
      have hao := ha _ (List.getElem_mem hi)
      generalize l[i] = a at he hel hao
      have r1 := r.app [.arr 10 [encAsk a]]
      have hbox : (H ++ [.arr 10 [encAsk a]])[H.length]? = some (.arr 10 [encAsk a]) := last_get H _
      have hcout : Out d A H.length := r.out (Nat.le_refl _)
      simp only [SS]
      rw [if_pos (by omega), index_vslice (sz := 10) hel rfl]
      simp only [vl_ask, box_ask0, put_ask, ask_at hbox, SS]
      by_cases htl : t < a.at'
      · rw [if_pos htl] at he ⊢
        exact fin i A D rs _ (by omega) r1 g ids hmv hlt hrs he
      · rw [if_neg htl] at he ⊢
        obtain ⟨A2, H2, o1, o2, o3, o4, o5, o6⟩ := over_ok r1 g hao.at' (by omega)
        have ids2 := ids.over a.at'
        have hbox2 := (o4.out _ _ hbox hcout).1
        have hla : (D.over a.at').late.length ≤ i := by
          have : (D.over a.at').late = D.late := by
            have cl : ∀ (u : Int) (L : List Nat) (p : Desk × List Int), (L.foldl (Desk.close1 u) p).1.late = p.1.late := by
              intro u L
              induction L with
              | nil => intro p; rfl
              | cons j L ihL =>
                intro p
                rw [List.foldl_cons, ihL]
                unfold Desk.close1
                simp only
                split
                · simp only [Desk.setEnt, leave_late]
                · rfl
            have : ∀ (n : Nat) (D : Desk), D.openN ≤ n → (D.over a.at').late = D.late := by
              intro n
              induction n with
              | zero =>
                intro D h
                rw [Desk.over_eq, if_neg]
                intro hle
                have := Desk.tick_less D hle
                omega
              | succ n ih =>
                intro D h
                rw [Desk.over_eq]
                split
                · rename_i hle
                  have := Desk.tick_less D hle
                  rw [ih _ (by omega)]
                  unfold Desk.tick
                  simp only
                  rw [(Desk.sim_moveUps _ _ _).late]
                  unfold Desk.closeAll
                  rw [cl]
                · rfl
            exact this _ D (Nat.le_refl _)
          rw [this]; exact hlt
        simp only [o1, ask_all hbox2, SS]
        rcases follow_ok o2 o5 ids2 hao (by omega) (by omega) with ⟨hno, H3, f1, f2⟩ | ⟨D3, A3, H3, hyes, f1, f2, f3, f4, f5, f6⟩
        · rw [hno] at he
          simp only at he
          have r3 := o2.mono f2
          obtain ⟨v', H4, c1, c2, c3⟩ := r3.refused.appendL (bytes := 8) lay_int (i : Int) (y := .vslice [I i]) rfl (by omega) (by omega)
          obtain ⟨d1, d2, d3⟩ := r3.pushRefused c2 c3
          have hls : litAV 1 [.int .i64 0] [(0, I i)] false H3 = some (.vslice [I i], H3) := lit_one rfl rfl rfl
          simp only [f1, Bool.not_false, desk_vr r3.desk, hls, c1, desk_put_vr d1 v' c2.cells, SS]
          rw [succ64 _ _ (by omega)]
          simp only [SS]
          exact ih (i + 1) _ _ _ _ (by omega) d2 o5 ids2 (by omega) (by omega) (by simp; omega) he
        · rw [hyes] at he
          simp only at he
          simp only [f1, Bool.not_true, SS]
          rw [succ64 _ _ (by omega)]
          simp only [SS]
          exact ih (i + 1) _ _ _ _ (by omega) f2 f3 f4 (by omega) (by omega) (by omega) he
  exact key l.length 0 A (desk0 who rooms) [] H1 (by omega) r1 g1 i1 (by simp [desk0]) (by simp [desk0]) (by simp) rfl
end Y
end Go.Proofs.YtplginnkececaaaGreatDoor

set_option linter.unusedSimpArgs false
set_option linter.unusedVariables false
namespace Go.Proofs.YtplginnkececaaaGreatDoor
open Go
namespace Y
open X

section
variable {α : Type} {enc : α → AV} {c : α → α → Int} {cmp v : AV} {A : α → Prop} {P : Heap → Prop}

theorem ins_api_Ask (hz : Lay 10 (some 10) enc) (hc : Cmp A P enc cmp c) (hP : Steady P v) {l : List α} (hl : l.length < 1000000) (hA : ∀ a ∈ l, A a) {H : Heap} (hp : P H) (ho : Own H 10 v (l.map enc)) :
    ∃ H', R prog f_slices_insertionSortCmpFunc_api_Ask [v, I 0, I l.length, cmp] H = some (.tuple [], H') ∧ P H' ∧ Own H' 10 v ((sortI c l).map enc) ∧ Keeps H H' v v ∧ H'.length = H.length :=
  insG (fun v0 v1 v2 v3 v8 v9 H k2 Q h => l_slices_insertionSortCmpFunc_api_Ask_0_s v0 v1 v2 v3 v8 v9 H k2 h) (fun v0 v1 v2 v3 v8 H k0 Q h => l_slices_insertionSortCmpFunc_api_Ask_1_s v0 v1 v2 v3 v8 H k0 h) (fun v0 v1 v2 v3 H Q h => r_slices_insertionSortCmpFunc_api_Ask v0 v1 v2 v3 H h) hz hc hP hl hA hp ho

theorem stable_api_Ask (hz : Lay 10 (some 10) enc) (hc : Cmp A P enc cmp c) (hP : Steady P v) {l : List α} (hl : l.length < 20) (hA : ∀ a ∈ l, A a) {H : Heap} (hp : P H) (ho : Own H 10 v (l.map enc)) :
    ∃ H', R prog f_slices_SortStableFunc_api_Ask_api_Ask [v, cmp] H = some (.tuple [], H') ∧ P H' ∧ Own H' 10 v ((sortI c l).map enc) ∧ Keeps H H' v v ∧ H'.length = H.length := by
  suffices h : Yl (R prog f_slices_SortStableFunc_api_Ask_api_Ask [v, cmp] H) fun r H' => r = .tuple [] ∧ P H' ∧ Own H' 10 v ((sortI c l).map enc) ∧ Keeps H H' v v ∧ H'.length = H.length by
    obtain ⟨r, H', h1, rfl, h2⟩ := h
    exact ⟨H', h1, h2⟩
  refine r_slices_SortStableFunc_api_Ask_api_Ask _ _ _ ?_
  have hlen : lenX H .slice v = some (I l.length) := by rw [ho.len]; simp
  obtain ⟨H', h1, h2⟩ := ins_api_Ask hz hc hP (by omega) hA hp ho
  simp only [hlen, SS]
  refine Yl.bind (Q' := fun r H' => P H' ∧ Own H' 10 v ((sortI c l).map enc) ∧ Keeps H H' v v ∧ H'.length = H.length) ?_ fun r H' h => yl_some.2 ⟨rfl, h⟩
  refine r_slices_stableCmpFunc_api_Ask _ _ _ _ ?_
  refine l_slices_stableCmpFunc_api_Ask_0_s _ _ _ _ _ _ _ _ ?_
  simp only [SS]
  rw [if_neg (by omega)]
  simp only [h1, SS]
  refine l_slices_stableCmpFunc_api_Ask_2_s _ _ _ _ _ _ ?_
  simp only [SS]
  rw [if_neg (by omega)]
  exact yl_some.2 h2
end
end Y
end Go.Proofs.YtplginnkececaaaGreatDoor

set_option linter.unusedSimpArgs false
set_option linter.unusedVariables false
namespace Go.Proofs.YtplginnkececaaaGreatDoor
open Go
namespace Y
open X

section
variable {α : Type} {enc : α → AV} {eq : α → α → Bool} {cmp v : AV} {A : α → Prop} {P : Heap → Prop}

theorem loop0_CompactFunc_api_Ask_api_Ask (hz : Lay 10 (some 10) enc) (hc : ∀ a b H (K : AV → Heap → Option (AV × Heap)), A a → A b → P H → callK prog (R prog) cmp [enc a, enc b] H K = K (.bool (eq a b)) H) {b k0 n : Nat} (hP : Steady P (.slice b 0 n)) (hn' : n < 1000000) {k2 : AV → AV → Heap → Option (AV × Heap)} {Q : AV → Heap → Prop} (t : List α) :
    ∀ (d junk : List α) (p : α) (m : Nat) (es : List AV) (H : Heap), (∀ a ∈ p :: t, A a) → P H → (d ++ junk ++ p :: t).length = n → d.length + junk.length + 1 = k0 + m → 1 ≤ m → k0 ≤ n → H[b]? = some (.arr 10 es) → es.take n = (d ++ junk ++ p :: t).map enc → n ≤ es.length →
    (∀ H' es' J, P H' → Keeps H H' (.slice b 0 n) (.slice b 0 n) → H'.length = H.length → H'[b]? = some (.arr 10 es') → es'.take n = (d ++ keepB eq p t ++ J).map enc → n ≤ es'.length → d.length + (keepB eq p t).length + 1 ≤ n → Yl (k2 (.slice b 0 n) (I ((d.length + (keepB eq p t).length : Nat) : Int)) H') Q) →
    Yl (l_slices_CompactFunc_api_Ask_api_Ask_0 (.slice b 0 n) cmp (I d.length) (.slice b k0 (n - k0)) (I m) H k2) Q := by
  induction t with
  | nil =>
    intro d junk p m es H hA hp hl hm h1 hk hb he hle hq
    simp only [List.length_append, List.length_cons, List.length_nil] at hl
    refine l_slices_CompactFunc_api_Ask_api_Ask_0_s _ _ _ _ _ _ _ ?_
    simp only [SS]
    rw [if_neg (by omega)]
    simp only [keepB, List.length_nil, Nat.add_zero, List.append_nil] at hq
    exact hq H es (junk ++ [p]) hp (.refl _ _) rfl hb (by simpa using he) hle (by omega)
  | cons x t ih =>
    intro d junk p m es H hA hp hl hm h1 hk hb he hle hq
    have hl' := hl
    simp only [List.length_append, List.length_cons] at hl
    refine l_slices_CompactFunc_api_Ask_api_Ask_0_s _ _ _ _ _ _ _ ?_
    simp only [SS]
    rw [if_pos (by omega)]
    have gx : (d ++ junk ++ p :: x :: t)[k0 + m]'(by simp; omega) = x := by
      have : k0 + m = (d ++ junk ++ [p]).length := by simp; omega
      simp only [this]
      have e : d ++ junk ++ p :: x :: t = (d ++ junk ++ [p]) ++ x :: t := by simp
      simp only [e, List.getElem_append_right (Nat.le_refl _), Nat.sub_self, List.getElem_cons_zero]
    have gp : (d ++ junk ++ p :: x :: t)[k0 + (m - 1)]'(by simp; omega) = p := by
      have : k0 + (m - 1) = (d ++ junk).length := by simp; omega
      simp only [this, List.getElem_append_right (Nat.le_refl _), Nat.sub_self, List.getElem_cons_zero]
    have he' := he
    rw [← hl'] at he'
    have ax := at_block he' (i := k0 + m) (by simp; omega)
    have ap := at_block he' (i := k0 + (m - 1)) (by simp; omega)
    rw [gx] at ax
    rw [gp] at ap
    have lx : loadAV H (some 10) (.ptr b (k0 + m) 0) = some (enc x) := load_ptr hb ax (hz.pick x)
    have lp : loadAV H (some 10) (.ptr b (k0 + (m - 1)) 0) = some (enc p) := load_ptr hb ap (hz.pick p)
    have i1 : indexV H 10 (.slice b k0 (n - k0)) (I m) = some (.ptr b (k0 + m) 0) := index_slice hb (by omega)
    have i2 : indexV H 10 (.slice b k0 (n - k0)) (I ((m - 1 : Nat) : Int)) = some (.ptr b (k0 + (m - 1)) 0) := index_slice hb (by omega)
    have i3 : indexV H 10 (.slice b 0 n) (I d.length) = some (.ptr b d.length 0) := by have := index_slice (k := .i64) hb (show d.length < n by omega) (o := 0); simpa using this
    simp only [SS, i1, lx]
    rw [pred64 _ _ h1 (by omega)]
    simp only [SS, i2, lp]
    rw [hc _ _ _ _ (hA _ (by simp)) (hA _ (by simp)) hp]
    have hA' : ∀ a ∈ x :: t, A a := fun a ha => hA a (List.mem_cons_of_mem _ ha)
    cases hx : eq x p with
    | true =>
      simp only [keepB, hx, if_true] at hq
      simp only [SS, Bool.not_true]
      rw [succ64 _ _ (by omega)]
      simp only [SS]
      exact ih d (junk ++ [p]) x (m + 1) es H hA' hp (by simp; omega) (by simp; omega) (by omega) hk hb (by simpa using he) hle hq
    | false =>
      simp only [keepB, hx, Bool.false_eq_true, if_false, List.length_cons] at hq
      simp only [SS, Bool.not_false, i1, lx, i3]
      have hd : d.length < (d ++ junk ++ p :: x :: t).length := by simp; omega
      obtain ⟨s1, s2, s3⟩ := set_block hz hb he' (by rw [hl']; exact hle) hd x
      simp only [SS, s1]
      rw [succ64 _ _ (by omega), succ64 _ _ (by omega)]
      simp only [SS]
      rw [tail_set] at s3
      have hp' := hP H _ hp (keeps_set (k := .arr 10 (es.set d.length (enc x))) (m := n)) (by simp)
      have htl : (junk ++ [p]).tail.length = junk.length := by simp
      have := ih (d ++ [x]) (junk ++ [p]).tail x (m + 1) (es.set d.length (enc x)) (H.set b (.arr 10 (es.set d.length (enc x)))) hA' hp' (by simp; omega) (by simp; omega) (by omega) hk s2 (by rw [hl'] at s3; exact s3) (by simp; omega) (fun H' es' J a1 a2 a3 a4 a5 a6 a7 => by
        simp only [List.length_append, List.length_singleton] at a7 ⊢
        rw [show d.length + 1 + (keepB eq x t).length = d.length + ((keepB eq x t).length + 1) by omega]
        exact hq H' es' J a1 (keeps_set.trans a2) (by simpa using a3) a4 (by simpa using a5) a6 (by omega))
      simpa using this

theorem loop1_CompactFunc_api_Ask_api_Ask (hz : Lay 10 (some 10) enc) (hc : ∀ a b H (K : AV → Heap → Option (AV × Heap)), A a → A b → P H → callK prog (R prog) cmp [enc a, enc b] H K = K (.bool (eq a b)) H) {b n : Nat} (hP : Steady P (.slice b 0 n)) (hn' : n < 1000000) {k0 : AV → Heap → Option (AV × Heap)} {Q : AV → Heap → Prop} {es : List AV} {H : Heap} (hp : P H) (hb : H[b]? = some (.arr 10 es)) (hle : n ≤ es.length)
    (t : List α) : ∀ (d : List α) (p : α), (∀ a ∈ d ++ p :: t, A a) → (d ++ p :: t).length = n → es.take n = (d ++ p :: t).map enc →
    (∀ H' es' m, P H' → Keeps H H' (.slice b 0 n) (.slice b 0 m) → H'.length = H.length → H'[b]? = some (.arr 10 es') → m = (d ++ p :: keepB eq p t).length → es'.take m = (d ++ p :: keepB eq p t).map enc → m ≤ es'.length → m < n → Q (.slice b 0 m) H') →
    (keepB eq p t = t → Yl (k0 (.slice b 0 n) H) Q) →
    Yl (l_slices_CompactFunc_api_Ask_api_Ask_1 (.slice b 0 n) cmp (I ((d.length + 1 : Nat) : Int)) H k0) Q := by
  induction t with
  | nil =>
    intro d p hA hl he hq hk
    simp only [List.length_append, List.length_cons, List.length_nil] at hl
    refine l_slices_CompactFunc_api_Ask_api_Ask_1_s _ _ _ _ _ ?_
    simp only [SS]
    rw [if_neg (by omega)]
    exact hk rfl
  | cons x t ih =>
    intro d p hA hl he hq hk
    have hl' := hl
    simp only [List.length_append, List.length_cons] at hl
    refine l_slices_CompactFunc_api_Ask_api_Ask_1_s _ _ _ _ _ ?_
    simp only [SS]
    rw [if_pos (by omega)]
    have gx : (d ++ p :: x :: t)[d.length + 1]'(by simp) = x := by simp [List.getElem_append_right]
    have gp : (d ++ p :: x :: t)[d.length]'(by simp) = p := by simp [List.getElem_append_right]
    have he' := he
    rw [← hl'] at he'
    have ax := at_block he' (i := d.length + 1) (by simp)
    have ap := at_block he' (i := d.length) (by simp)
    rw [gx] at ax
    rw [gp] at ap
    have lx : loadAV H (some 10) (.ptr b (d.length + 1) 0) = some (enc x) := load_ptr hb ax (hz.pick x)
    have lp : loadAV H (some 10) (.ptr b d.length 0) = some (enc p) := load_ptr hb ap (hz.pick p)
    have i1 : indexV H 10 (.slice b 0 n) (I ((d.length + 1 : Nat) : Int)) = some (.ptr b (d.length + 1) 0) := by have := index_slice (k := .i64) hb (show d.length + 1 < n by omega) (o := 0); simpa using this
    have i2 : indexV H 10 (.slice b 0 n) (I d.length) = some (.ptr b d.length 0) := by have := index_slice (k := .i64) hb (show d.length < n by omega) (o := 0); simpa using this
    simp only [SS, i1, lx]
    rw [pred64 _ _ (by omega) (by omega)]
    simp only [SS, Nat.add_sub_cancel, i2, lp]
    rw [hc _ _ _ _ (hA _ (by simp)) (hA _ (by simp)) hp]
    cases hx : eq x p with
    | true =>
      simp only [keepB, hx, if_true] at hq
      simp only [SS]
      rw [slice_sl_from hb (by omega) hle]
      simp only [SS]
      have := loop0_CompactFunc_api_Ask_api_Ask (A := A) hz hc (b := b) (k0 := d.length + 1) (n := n) hP hn' (k2 := fun v0_1 v3_1 H2 =>
        (sliceSlAV H2 10 v0_1 (some v3_1) none).bind fun v56 =>
        (clearAV H2 10 (.agg [(.int .i64 0), (.int .i64 0), (.str []), (.str []), (.str []), (.str []), (.int .i64 0), (.int .i64 0), (.int .i64 0), (.int .i64 0)]) v56).bind fun H3 =>
        (sliceSlAV H3 10 v0_1 none (some v3_1)).bind fun v59 =>
        some (v59, H3)) (Q := Q) t (d ++ [p]) [] x 1 es H (fun a ha => hA a (by simp at ha ⊢; rcases ha with h | h <;> simp [h])) hp (by simp; omega) (by simp) (by omega) (by omega) hb (by simpa using he) hle (fun H' es' J a1 a2 a3 a4 a5 a6 a7 => by
          simp only [List.length_append, List.length_singleton] at a7 ⊢
          rw [slice_sl_from a4 (by omega) a6]
          simp only [SS]
          rw [clear_sl a4 (by omega) (by omega)]
          simp only [SS]
          have hm : d.length + 1 + (keepB eq x t).length ≤ es'.length := by omega
          rw [slice_sl_to (set_same _ a4) (by simp; omega)]
          refine yl_some.2 (hq _ _ _ (hP _ _ a1 keeps_set (by simp)) (a2.trans keeps_set) (by simpa using a3) (set_same _ a4) (by simp; omega) ?_ (by simp; omega) (by omega))
          rw [List.append_assoc, List.take_append_of_le_length (by simp; omega), List.take_take, Nat.min_self]
          have := congrArg (List.take (d.length + 1 + (keepB eq x t).length)) a5
          rw [List.take_take, Nat.min_eq_left (by omega), List.map_append, List.take_left' (by simp; omega)] at this
          rw [this]; simp)
      simpa using this
    | false =>
      simp only [keepB, hx, Bool.false_eq_true, if_false] at hq hk
      simp only [SS]
      rw [succ64 _ _ (by omega)]
      simp only [SS]
      have := ih (d ++ [p]) x (by simpa using hA) (by simp; omega) (by simpa using he) (fun H' es' m a1 a2 a3 a4 a5 a6 a7 a8 => hq H' es' m a1 a2 a3 a4 (by simpa using a5) (by simpa using a6) a7 a8) (fun h => hk (by rw [h]))
      simpa using this

theorem ok_CompactFunc_api_Ask_api_Ask (hz : Lay 10 (some 10) enc) (hc : ∀ a b H (K : AV → Heap → Option (AV × Heap)), A a → A b → P H → callK prog (R prog) cmp [enc a, enc b] H K = K (.bool (eq a b)) H) (hP : Steady P v) {l : List α} (hl : l.length < 1000000) (hA : ∀ a ∈ l, A a) {H : Heap} (hp : P H) (ho : Own H 10 v (l.map enc)) :
    ∃ v' H', R prog f_slices_CompactFunc_api_Ask_api_Ask [v, cmp] H = some (v', H') ∧ P H' ∧ Own H' 10 v' ((compactF eq l).map enc) ∧ Keeps H H' v v' ∧ H'.length = H.length := by
  suffices h : Yl (R prog f_slices_CompactFunc_api_Ask_api_Ask [v, cmp] H) fun v' H' => P H' ∧ Own H' 10 v' ((compactF eq l).map enc) ∧ Keeps H H' v v' ∧ H'.length = H.length by
    obtain ⟨v', H', h1, h2⟩ := h
    exact ⟨v', H', h1, h2⟩
  refine r_slices_CompactFunc_api_Ask_api_Ask _ _ _ ?_
  have hlen : lenX H .slice v = some (I l.length) := by rw [ho.len]; simp
  simp only [hlen, SS]
  by_cases h2 : l.length < 2
  · rw [if_pos (by omega)]
    refine yl_some.2 ⟨hp, ?_, .refl _ _, rfl⟩
    match l, h2 with
    | [], _ => exact ho
    | [x], _ => exact ho
  · rw [if_neg (by omega)]
    obtain ⟨p, x, t, rfl⟩ : ∃ p x t, l = p :: x :: t := by
      match l, h2 with
      | [], h => exact absurd (by simp) h
      | [_], h => exact absurd (by simp) h
      | p :: x :: t, _ => exact ⟨p, x, t, rfl⟩
    rcases ho with ⟨_, h⟩ | ⟨b, es, rfl, hb, h1, h2⟩
    · cases h
    · simp only [List.length_map] at h1 h2 hP ⊢
      refine loop1_CompactFunc_api_Ask_api_Ask (A := A) hz hc hP hl hp hb h2 (x :: t) [] p (by simpa using hA) rfl (by simpa using h1) (fun H' es' m a1 a2 a3 a4 a5 a6 a7 a8 => ?_) fun hk => ?_
      · subst a5
        exact ⟨a1, own_block a4 a6 a7, a2, a3⟩
      · refine yl_some.2 ⟨hp, ?_, .refl _ _, rfl⟩
        simp only [compactF, hk]
        exact own_block (l := p :: x :: t) hb h1 h2
end
end Y
end Go.Proofs.YtplginnkececaaaGreatDoor

set_option linter.unusedSimpArgs false
set_option linter.unusedVariables false
namespace Go.Proofs.YtplginnkececaaaGreatDoor
open Go
namespace Y
open X

theorem lit6_int (H : Heap) (a b c d e f : Int) : litAV 1 [.int .i64 0, .int .i64 0, .int .i64 0, .int .i64 0, .int .i64 0, .int .i64 0] [(0, .int .i64 a), (1, .int .i64 b), (2, .int .i64 c), (3, .int .i64 d), (4, .int .i64 e), (5, .int .i64 f)] false H = some (.vslice ([a, b, c, d, e, f].map I), H) := (rfl)
theorem build_ask (t k : Int) (r : Ride) : buildAV [.int .i64 0, .int .i64 0, .str [], .str [], .str [], .str [], .int .i64 0, .int .i64 0, .int .i64 0, .int .i64 0] [(0, 1, .int .i64 t), (1, 1, .int .i64 k), (2, 8, encRide r)] = some (encAsk ⟨t, k, r⟩) := (rfl)

theorem asks_loop {b L N : Nat} {zs : List Int} {Q : AV → Heap → Prop} {k0 : AV → AV → Heap → Option (AV × Heap)} (hbL : b < L) (hN : N < 900) {H0 : Heap} (m : Nat) : ∀ (i p : Nat) (H : Heap) (v : AV) (l : List Ask) (t : Int), m + i = N → H[b]? = some (stB zs p) → p + 30 * m < 70000 → Own H 10 v (l.map encAsk) → Lo L v → L ≤ H.length → l.length = i → (∀ a ∈ l, SaneA a) → 0 ≤ t → t ≤ 20 * i → Stay L b H0 H →
    (∀ (H' : Heap) (v' : AV) (l' : List Ask) (p' : Nat), Stay L b H0 H' → H'[b]? = some (stB zs p') → Own H' 10 v' (l'.map encAsk) → Lo L v' → l'.length = N → (∀ a ∈ l', SaneA a) → p' ≤ p + 30 * m → L ≤ H'.length → Yl (k0 (.ptr b 0 0) v' H') Q) →
    Yl (l_jitmake_Stream_Asks_0 (.ptr b 0 0) v (I t) (I N) (I i) H k0) Q := by
  induction m with
  | zero =>
    intro i p H v l t hm hb hp ho hl hH hi hs h0 h1 st hq
    refine l_jitmake_Stream_Asks_0_s _ _ _ _ _ _ _ ?_
    obtain rfl : i = N := by omega
    simp only [SS]
    rw [if_neg (by omega)]
    exact hq H v l p st hb ho hl hi hs (by omega) hH
  | succ m ih =>
    intro i p H v l t hm hb hp ho hl hH hi hs h0 h1 st hq
    refine l_jitmake_Stream_Asks_0_s _ _ _ _ _ _ _ ?_
    simp only [SS]
    rw [if_pos (by omega)]
    have hlt : b < H.length := by omega
    have nxt : ∀ (q : Nat), (H.set b (stB zs q))[b]? = some (stB zs q) := fun q => List.getElem?_set_self hlt
    obtain ⟨x1, m1, e1⟩ := pick_cut [0, 1, 2, 5, 10, 20] hb (by omega) (by decide) (by decide)
    obtain ⟨x2, m2, e2⟩ := pick_cut [1, 1, 1, 2, 3, 4] (nxt (p + 1)) (by omega) (by decide) (by decide)
    rw [set_set_same] at e2
    have r1 : 0 ≤ x1 ∧ x1 ≤ 20 := by simp at m1; omega
    have r2 : 1 ≤ x2 ∧ x2 ≤ 4 := by simp at m2; omega
    obtain ⟨r, hr, e3⟩ := asked_cut (t := t + x1) (nxt (p + 1 + 1)) (by omega) (by omega) (by omega)
    rw [set_set_same] at e3
    have sr := hr.sane (by omega) (by omega)
    have hak : Ak L b zs v l H0 H.length (p + 1 + 1 + 8) ⟨t + x1, x2, r⟩ (H.set b (stB zs (p + 1 + 1 + 8)) ++ [.arr 10 [encAsk ⟨t + x1, x2, r⟩]]) := by
      refine ⟨?_, app_old _ (nxt _), (ho.setb hl hbL).app _, hl, hbL, hH, ?_, ?_, by simp; omega⟩
      · exact (st.trans Stay.set).trans (Stay.app _ (by simpa using hH))
      · intro e
        rcases ho with ⟨rfl, _⟩ | ⟨c, es, rfl, hc, _⟩
        · cases e
        · have := (List.getElem?_eq_some_iff.1 hc).1
          simp [AV.blockOf] at e; omega
      · simp
    have bx : boxAV 10 (.agg [(.int .i64 0), (.int .i64 0), (.str []), (.str []), (.str []), (.str []), (.int .i64 0), (.int .i64 0), (.int .i64 0), (.int .i64 0)]) (H.set b (stB zs (p + 1 + 1 + 8))) = some (.ptr H.length 0 0, H.set b (stB zs (p + 1 + 1 + 8)) ++ [.arr 10 [encAsk ⟨0, 0, ⟨[], [], [], [], 0, 0, 0, 0⟩⟩]]) := by
      have := box_ask0 (H.set b (stB zs (p + 1 + 1 + 8)))
      rwa [List.length_set] at this
    have px : storeAV (H.set b (stB zs (p + 1 + 1 + 8)) ++ [.arr 10 [encAsk ⟨0, 0, ⟨[], [], [], [], 0, 0, 0, 0⟩⟩]]) 10 (.ptr H.length 0 0) (encAsk ⟨t + x1, x2, r⟩) = some (H.set b (stB zs (p + 1 + 1 + 8)) ++ [.arr 10 [encAsk ⟨t + x1, x2, r⟩]]) := by
      have := put_ask (H.set b (stB zs (p + 1 + 1 + 8))) ⟨0, 0, ⟨[], [], [], [], 0, 0, 0, 0⟩⟩ ⟨t + x1, x2, r⟩
      rwa [List.length_set] at this
    have sa : SaneA ⟨t + x1, x2, r⟩ := ⟨sr, by simp only; omega, by simp only; omega⟩
    have K : ∀ q, q ≤ p + 11 → ∀ H' v' a' q', Stay L b H0 H' → H'[b]? = some (stB zs q') → Own H' 10 v' ((l ++ [a']).map encAsk) → Lo L v' → SaneA a' → q' ≤ q + 10 → L ≤ H'.length → Yl (l_jitmake_Stream_Asks_0 (.ptr b 0 0) v' (I (t + x1)) (I N) (I ((i + 1 : Nat) : Int)) H' k0) Q := by
      intro q hq' H' v' a' q' k1 k2 k3 k4 k5 k6 k7
      refine ih (i + 1) q' H' v' (l ++ [a']) (t + x1) (by omega) k2 (by omega) k3 k4 k7 (by simp [hi]) ?_ (by omega) (by omega) k1 ?_
      · intro a ha
        rcases List.mem_append.1 ha with ha | ha
        · exact hs a ha
        · simp at ha; subst ha; exact k5
      · intro H'' v'' l'' p'' c1 c2 c3 c4 c5 c6 c7 c8
        exact hq H'' v'' l'' p'' c1 c2 c3 c4 c5 c6 (by omega) c8
    simp only [lit6_int, e1, SS]
    rw [add64 _ _ (by omega) (by omega)]
    simp only [lit6_int, e2, e3, build_ask, bx, px, ask_kind hak.box, SS]
    have hlen : lenX (H.set b (stB zs (p + 1 + 1 + 8)) ++ [.arr 10 [encAsk ⟨t + x1, x2, r⟩]]) .slice v = some (I l.length) := by rw [hak.own.len]; simp
    have e0 := flip_ok (n := 5) hak.str (by omega) (by omega) (by omega)
    simp only [hlen, e0, SS]
    by_cases hk : x2 = 1
    · simp only [hk, ne_eq, not_true_eq_false, if_false] at hak sa ⊢
      exact asks_j4 hak sa hs (by omega) (by simp) (by omega) (by omega) (K _ (by omega))
    · simp only [hk, ne_eq, not_false_eq_true, if_true]
      by_cases hl0 : (0 : Int) < l.length
      · rw [if_pos hl0]
        exact asks_j4 (hak.stream (p + 1 + 1 + 8 + 1)) sa hs (by omega) (fun _ => by rintro rfl; simp at hl0) (by omega) (by omega) (K _ (by omega))
      · rw [if_neg hl0]
        exact asks_j4 hak sa hs (by omega) (by simp) (by omega) (by omega) (K _ (by omega))

theorem order_cmp {P : Heap → Prop} : Cmp SaneA P encAsk (.func (.func f_jitref2_AskOrder) []) byAsk := by
  intro a b H K ha hb hp
  rw [callK_pure (by rfl), List.append_nil]
  have a1 := ha.at'
  have a2 := ha.kind
  have b1 := hb.at'
  have b2 := hb.kind
  rw [order_ok (by omega)]
  rfl

theorem asks1_ok {P : Heap → Prop} (a b : Ask) (H : Heap) (K : AV → Heap → Option (AV × Heap)) (ha : SaneA a) (hb : SaneA b) (hp : P H) : callK prog (R prog) (.func (.func f_jitmake_Stream_Asks_1) []) [encAsk a, encAsk b] H K = K (.bool (decide (byAsk a b = 0))) H := by
  rw [callK_pure (by rfl), List.append_nil]
  have : pureCall prog (R prog) f_jitmake_Stream_Asks_1 [encAsk a, encAsk b] H = some (.bool (decide (byAsk a b = 0))) := by
    refine pure_fz (by simp [fz_ask]) rfl (r_jitmake_Stream_Asks_1 _ _ _ ?_)
    have h1 : ([Blk.arr 10 [encAsk a], .arr 10 [encAsk b]] : Heap)[0]? = some (.arr 10 [encAsk a]) := rfl
    have h2 : ([Blk.arr 10 [encAsk a], .arr 10 [encAsk b]] : Heap)[1]? = some (.arr 10 [encAsk b]) := rfl
    have k1 : boxAV 10 (encAsk a) [] = some (.ptr 0 0 0, [.arr 10 [encAsk a]]) := box_ask [] a
    have k2 : boxAV 10 (encAsk b) [.arr 10 [encAsk a]] = some (.ptr 1 0 0, [.arr 10 [encAsk a], .arr 10 [encAsk b]]) := box_ask [.arr 10 [encAsk a]] b
    have a1 := ha.at'
    have a2 := ha.kind
    have b1 := hb.at'
    have b2 := hb.kind
    simp only [k1, k2, ask_all h1, ask_all h2, SS]
    rw [order_ok (by omega)]
    simp only [SS]
    rfl
  rw [this]; rfl

theorem snap_ask (H : Heap) (k : Nat) (hk : 2 ≤ k) (a : Ask) : snap H k (encAsk a) = some (encAsk a) := by
  obtain ⟨k, rfl⟩ := Nat.exists_eq_add_of_le hk
  rw [show 2 + k = k + 1 + 1 by omega]
  simp [snap, encAsk, Ride.cells]

theorem mapM_asks (H : Heap) (k : Nat) (hk : 2 ≤ k) (l : List Ask) : (l.map encAsk).mapM (snap H k) = some (l.map encAsk) :=
  mapM_id fun v hv => by obtain ⟨a, _, rfl⟩ := List.mem_map.1 hv; exact snap_ask H k hk a

theorem asks_cut {H : Heap} {b p N : Nat} {zs : List Int} (hb : H[b]? = some (stB zs p)) (hN : N < 20) (hp : p < 60000) :
    ∃ (l : List Ask) (q : Nat), (∀ a ∈ l, SaneA a) ∧ l.length ≤ N ∧ q ≤ p + 30 * N + 1 ∧ cutCall (R prog) f_jitmake_Stream_Asks [.ptr b 0 0, I N] H = some (.vslice (l.map encAsk), H.set b (stB zs q)) := by
  have hlt : b < H.length := (List.getElem?_eq_some_iff.1 hb).1
  suffices h : Yl (R prog f_jitmake_Stream_Asks [.ptr b 0 0, I N] H) fun v H' => ∃ (l : List Ask) (q : Nat), (∀ a ∈ l, SaneA a) ∧ l.length ≤ N ∧ q ≤ p + 30 * N + 1 ∧ Stay H.length b H H' ∧ H'[b]? = some (stB zs q) ∧ Own H' 10 v (l.map encAsk) ∧ Lo H.length v by
    obtain ⟨v, H', h1, l, q, a1, a2, a3, a4, a5, a6, a7⟩ := h
    refine ⟨l, q, a1, a2, a3, cut_of hlt rfl ⟨v, H', h1, a4, a5, a6.snap (mapM_asks _ _ (by omega) l), ?_⟩⟩
    refine a6.aboveK a7 (List.all_eq_true.2 fun u hu => ?_)
    obtain ⟨r, _, rfl⟩ := List.mem_map.1 hu
    rfl
  refine r_jitmake_Stream_Asks _ _ _ ?_
  refine asks_loop (L := H.length) (N := N) (H0 := H) hlt (by omega) N 0 p H .nilslice [] 0 (by omega) hb (by omega) (.nil _ _) (.nil _) (Nat.le_refl _) rfl (by simp) (by omega) (by omega) (.refl _ _ _) ?_
  intro H' v l q s1 s2 s3 s4 s5 s6 s7 s8
  have steady : ∀ q : Nat, Steady (fun H2 => Stay H.length b H H2 ∧ H2[b]? = some (stB zs q) ∧ H.length ≤ H2.length) v := by
    intro q H1 H2 ⟨p1, p2, p3⟩ k hl
    have k2 := (k.lo s4 p3).2
    exact ⟨p1.trans (k2 b), by rw [(k2 (b + 1)).old b hlt (by omega)]; exact p2, by omega⟩
  obtain ⟨H2, e1, ⟨t1, t2, t3⟩, t4, t5, t6⟩ := stable_api_Ask lay_ask (order_cmp (P := fun H2 => Stay H.length b H H2 ∧ H2[b]? = some (stB zs q) ∧ H.length ≤ H2.length)) (steady q) (l := l) (by omega) s6 ⟨s1, s2, s8⟩ s3
  have e0 := flip_ok (n := 60) t2 (by omega) (by omega) (by omega)
  simp only [e1, e0, SS]
  have hs : ∀ a ∈ sortI byAsk l, SaneA a := fun a ha => s6 a ((sortI_perm _ _).subset ha)
  have hlen : (sortI byAsk l).length = N := by rw [(sortI_perm _ _).length_eq]; exact s5
  by_cases hf : nx zs q 60 = 0
  · rw [if_pos hf]
    exact yl_some.2 ⟨sortI byAsk l, q + 1, hs, by omega, by omega, t1.trans Stay.set, set_same _ t2, t4.setb s4 hlt, s4⟩
  · rw [if_neg hf]
    have st3 : Stay H.length b H (H2.set b (stB zs (q + 1))) := t1.trans Stay.set
    obtain ⟨v', H3, e2, ⟨u1, u2, u3⟩, u4, u5, u6⟩ := ok_CompactFunc_api_Ask_api_Ask (eq := fun a b => decide (byAsk a b = 0)) lay_ask (asks1_ok (P := fun H2 => Stay H.length b H H2 ∧ H2[b]? = some (stB zs (q + 1)) ∧ H.length ≤ H2.length)) (steady (q + 1)) (l := sortI byAsk l) (by omega) hs (H := H2.set b (stB zs (q + 1))) ⟨st3, set_same _ t2, by simpa using t3⟩ (t4.setb s4 hlt)
    simp only [e2, SS]
    have sub := compactF_sub (fun a b => decide (byAsk a b = 0)) (sortI byAsk l)
    refine ⟨compactF (fun a b => decide (byAsk a b = 0)) (sortI byAsk l), q + 1, fun a ha => hs a (sub.subset ha), by have := sub.length_le; omega, by omega, u1, u2, u4, ?_⟩
    exact (u5.lo s4 (by simpa using t3)).1

theorem rightAsks_cut {H : Heap} {b p N : Nat} {zs : List Int} (hb : H[b]? = some (stB zs p)) (hN : N < 20) (hp : p < 50000) :
    ∃ (l : List Ask) (q : Nat), (∀ a ∈ l, SaneA a) ∧ asksFault l = 0 ∧ l.length ≤ N ∧ q ≤ p + 3000 ∧ cutCall (R prog) f_jitmake_Stream_RightAsks [.ptr b 0 0, I N] H = some (.vslice (l.map encAsk), H.set b (stB zs q)) := by
  have hlt : b < H.length := (List.getElem?_eq_some_iff.1 hb).1
  suffices h : Yl (R prog f_jitmake_Stream_RightAsks [.ptr b 0 0, I N] H) fun v H' => ∃ (l : List Ask) (q : Nat), (∀ a ∈ l, SaneA a) ∧ asksFault l = 0 ∧ l.length ≤ N ∧ q ≤ p + 3000 ∧ H' = H.set b (stB zs q) ∧ (v = .vslice (l.map encAsk) ∨ v = .nilslice ∧ l = []) by
    obtain ⟨v, H', h1, l, q, a1, a2, a3, a4, rfl, a6⟩ := h
    refine ⟨l, q, a1, a2, a3, a4, cut_of hlt rfl ⟨v, _, h1, Stay.one, List.getElem?_set_self hlt, ?_, ?_⟩⟩
    · rcases a6 with rfl | ⟨rfl, rfl⟩ <;> rfl
    · rcases a6 with rfl | ⟨rfl, rfl⟩ <;> rfl
  refine r_jitmake_Stream_RightAsks _ _ _ ?_
  refine range_yl (n := 5) (L := fun i H => l_jitmake_Stream_RightAsks_0 (.ptr b 0 0) (I N) (I i) H (fun H2 => some (.nilslice, H2))) (fun i H' => ∃ q, q ≤ p + 600 * i ∧ H' = H.set b (stB zs q)) ?_ ?_ 5 0 H (by omega) ⟨p, by omega, ?_⟩
  · rintro H' ⟨q, hq, rfl⟩
    refine l_jitmake_Stream_RightAsks_0_s _ _ _ _ _ ?_
    simp only [SS]
    rw [if_neg (by omega)]
    exact yl_some.2 ⟨[], q, by simp, rfl, by simp, by omega, rfl, .inr ⟨rfl, rfl⟩⟩
  · rintro i hi H' ⟨q, hq, rfl⟩ ih
    refine l_jitmake_Stream_RightAsks_0_s _ _ _ _ _ ?_
    obtain ⟨l, q', s1, s2, s3, e1⟩ := asks_cut (H := H.set b (stB zs q)) (List.getElem?_set_self hlt) hN (by omega)
    rw [set_set_same] at e1
    simp only [SS]
    rw [if_pos (by omega), e1]
    simp only [asksFault2_ok _ (show l.length < 1000000 by omega) (fun a ha => (s1 a ha).fit), SS]
    by_cases hz : asksFault l = 0
    · rw [if_pos hz]
      exact yl_some.2 ⟨l, q', s1, hz, s2, by omega, rfl, .inl rfl⟩
    · rw [if_neg hz, succ64 _ _ (by omega)]
      simp only [SS]
      exact ih _ ⟨q', by omega, rfl⟩
  · apply List.ext_getElem?
    intro j
    by_cases hj : b = j
    · subst hj; rw [List.getElem?_set_self hlt, hb]
    · rw [List.getElem?_set_ne hj]
end Y
end Go.Proofs.YtplginnkececaaaGreatDoor

set_option linter.unusedSimpArgs false
set_option linter.unusedVariables false
namespace Go.Proofs.YtplginnkececaaaGreatDoor
open Go
namespace Y
open X

theorem cmpI_pos {a b : Int} : 0 < cmpI b a ↔ a < b := by
  unfold cmpI
  by_cases h1 : b < a
  · rw [if_pos h1]; constructor <;> intro h <;> omega
  · rw [if_neg h1]
    by_cases h2 : a < b
    · rw [if_pos h2]; constructor <;> intro h <;> omega
    · rw [if_neg h2]; constructor <;> intro h <;> omega

theorem cmpI_zero {a b : Int} : cmpI a b = 0 ↔ a = b := by
  unfold cmpI
  by_cases h1 : a < b
  · rw [if_pos h1]; constructor <;> intro h <;> omega
  · rw [if_neg h1]
    by_cases h2 : b < a
    · rw [if_pos h2]; constructor <;> intro h <;> omega
    · rw [if_neg h2]; constructor <;> intro h <;> omega

theorem cmpS_zero {s t : Str} : cmpS s t = 0 ↔ s = t := by
  unfold cmpS
  cases h1 : lt s t with
  | true => simp; exact lt_ne h1
  | false => by_cases h2 : s = t <;> simp [h2]

theorem cmpS_pos {s t : Str} : 0 < cmpS t s ↔ lt s t = true := by
  rw [cmpS_anti, ← cmpS_neg]; omega

theorem byAsk_pos {a b : Ask} : 0 < byAsk b a ↔ a.at' < b.at' ∨ (a.at' = b.at' ∧ (lt a.ride.id b.ride.id = true ∨ (a.ride.id = b.ride.id ∧ a.kind < b.kind))) := by
  unfold byAsk
  by_cases h1 : cmpI b.at' a.at' = 0
  · rw [if_neg (by simpa using h1)]
    have e1 := cmpI_zero.1 h1
    by_cases h2 : cmpS b.ride.id a.ride.id = 0
    · rw [if_neg (by simpa using h2)]
      have e2 := cmpS_zero.1 h2
      rw [cmpI_pos]
      rw [e1, e2]
      have := lt_irrefl a.ride.id
      simp [this]
    · rw [if_pos (by simpa using h2), cmpS_pos]
      have e2 : ¬ a.ride.id = b.ride.id := fun e => h2 (cmpS_zero.2 e.symm)
      simp [e1, e2]
  · rw [if_pos (by simpa using h1), cmpI_pos]
    have e1 : ¬ a.at' = b.at' := fun e => h1 (cmpI_zero.2 e.symm)
    simp [e1]

theorem byAsk_trans {a b c : Ask} (h1 : 0 < byAsk b a) (h2 : 0 < byAsk c b) : 0 < byAsk c a := by
  rw [byAsk_pos] at *
  rcases h1 with h1 | ⟨e1, h1⟩
  · rcases h2 with h2 | ⟨e2, _⟩
    · exact .inl (by omega)
    · exact .inl (by omega)
  · rcases h2 with h2 | ⟨e2, h2⟩
    · exact .inl (by omega)
    · refine .inr ⟨by omega, ?_⟩
      rcases h1 with h1 | ⟨f1, h1⟩
      · rcases h2 with h2 | ⟨f2, h2⟩
        · exact .inl (lt_trans h1 h2)
        · exact .inl (f2 ▸ h1)
      · rcases h2 with h2 | ⟨f2, h2⟩
        · exact .inl (f1.symm ▸ h2)
        · exact .inr ⟨f1.trans f2, by omega⟩

structure Right (l : List Ask) : Prop where
  ok : ∀ a ∈ l, askFault a = 0
  pw : l.Pairwise fun a b => 0 < byAsk b a

def lateBy (p : Option Ask) (a : Ask) : Bool :=
  match p with
  | some q => decide (byAsk a q ≤ 0)
  | none => false

theorem asksGo_cons (p : Option Ask) (a : Ask) (l : List Ask) : asksGo p (a :: l) = if askFault a ≠ 0 then askFault a else if lateBy p a = true then 7 else asksGo (some a) l := by
  cases p <;> rfl

theorem asksGo_right : ∀ (l : List Ask) (p : Option Ask), asksGo p l = 0 ↔ (∀ a ∈ l, askFault a = 0) ∧ (∀ a b, p = some a → l.head? = some b → 0 < byAsk b a) ∧ l.Pairwise fun a b => 0 < byAsk b a
  | [], p => by simp [asksGo]
  | a :: l, p => by
    rw [asksGo_cons]
    by_cases h0 : askFault a = 0
    · rw [if_neg (by simpa using h0)]
      have ih := asksGo_right l (some a)
      by_cases hp : lateBy p a = true
      · rw [if_pos hp]
        constructor
        · intro h; cases h
        · rintro ⟨_, h2, _⟩
          cases p with
          | none => cases hp
          | some q =>
            have := h2 q a rfl rfl
            simp only [lateBy, decide_eq_true_eq] at hp
            omega
      · rw [if_neg hp, ih]
        constructor
        · rintro ⟨h1, h2, h3⟩
          refine ⟨fun x hx => ?_, fun q b hq hb => ?_, ?_⟩
          · rcases List.mem_cons.1 hx with rfl | hx
            · exact h0
            · exact h1 x hx
          · simp at hb; subst hb
            subst hq
            simp only [lateBy, decide_eq_true_eq] at hp; omega
          · rw [List.pairwise_cons]
            refine ⟨fun x hx => ?_, h3⟩
            cases l with
            | nil => cases hx
            | cons y l =>
              have hy := h2 a y rfl rfl
              rcases List.mem_cons.1 hx with rfl | hx
              · exact hy
              · rw [List.pairwise_cons] at h3
                exact byAsk_trans hy (h3.1 x hx)
        · rintro ⟨h1, h2, h3⟩
          rw [List.pairwise_cons] at h3
          refine ⟨fun x hx => h1 x (by simp [hx]), fun q b hq hb => ?_, h3.2⟩
          obtain rfl := Option.some.inj hq
          exact h3.1 b (List.mem_of_head? hb)
    · rw [if_pos (by simpa using h0)]
      constructor
      · intro h; exact absurd h h0
      · rintro ⟨h1, _⟩; exact absurd (h1 a (by simp)) h0

theorem asksFault_right {l : List Ask} (hl : l.length ≤ 2000) : asksFault l = 0 ↔ Right l := by
  unfold asksFault
  rw [if_neg (by omega), asksGo_right]
  constructor
  · rintro ⟨h1, _, h3⟩; exact ⟨h1, h3⟩
  · rintro ⟨h1, h3⟩; exact ⟨h1, fun _ _ h => (by cases h), h3⟩

theorem Right.sub {l m : List Ask} (h : Right l) (hs : m.Sublist l) : Right m := ⟨fun a ha => h.ok a (hs.subset ha), h.pw.sublist hs⟩

theorem Right.sorted {l : List Ask} (h : Right l) : l.Pairwise fun a b => a.at' ≤ b.at' := h.pw.imp fun hab => by rw [byAsk_pos] at hab; omega

theorem moment_iff {n : Int} : moment n = true ↔ 0 ≤ n ∧ n < endT := by
  unfold moment out endT; simp; omega

theorem askOk_of {a : Ask} (hs : SaneA a) (h : askFault a = 0) : AskOk a := by
  unfold askFault at h
  split at h
  · cases h
  rename_i hm
  split at h
  · cases h
  rename_i hk
  have hm : 0 ≤ a.at' ∧ a.at' < endT := by
    rw [← moment_iff]; simpa using hm
  have hk : 1 ≤ a.kind ∧ a.kind ≤ 4 := by
    unfold out at hk; simp at hk; omega
  have hid : isKey a.ride.id = true → a.ride.id ∈ idsR := by
    intro hk
    rcases hs.ride.id with h | h | h
    · exact h
    · rw [h] at hk; cases hk
    · rw [h] at hk; exact absurd hk (by decide)
  have ht : 0 ≤ a.at' ∧ a.at' ≤ 1000000000000 := by unfold endT at hm; omega
  have hkk : a.kind = 1 ∨ a.kind = 2 ∨ a.kind = 3 ∨ a.kind = 4 := by omega
  split at h
  · rename_i h12
    unfold rideFault at h
    split at h
    · cases h
    rename_i hkeys
    split at h
    · cases h
    split at h
    · cases h
    rename_i hnum
    simp only [Bool.not_eq_true', Bool.not_eq_false, Bool.and_eq_true] at hkeys
    simp only [Bool.or_eq_true, not_or, Bool.not_eq_true, out, Bool.or_eq_false_iff, decide_eq_false_iff_not] at hnum
    refine ⟨hs.fit, hid hkeys.1.1.1, fun _ => ?_, hkk, ht⟩
    unfold Ride.size; omega
  · rename_i h12
    split at h
    · cases h
    rename_i hkeys
    simp only [Bool.not_eq_true', Bool.not_eq_false, Bool.and_eq_true] at hkeys
    exact ⟨hs.fit, hid hkeys.1, fun e => absurd e h12, hkk, ht⟩


theorem riders_right {a c d : Int} {n : Nat} (ha : a ∈ ([1, 2, 3, 9] : List Int)) (hc : c ∈ ([2, 4, 9] : List Int)) (hd : d ∈ ([0, 1, 5] : List Int)) (hn : n = 2 ∨ n = 3) : ridersFault ((ridersOf a c d).take n) = 0 ∧ (∀ r ∈ (ridersOf a c d).take n, r.key.length < 1000000) ∧ ((ridersOf a c d).take n).length < 1000000 := by
  simp only [List.mem_cons, List.not_mem_nil, or_false] at ha hc hd
  rcases ha with rfl | rfl | rfl | rfl <;> rcases hc with rfl | rfl | rfl <;> rcases hd with rfl | rfl | rfl <;> rcases hn with rfl | rfl <;> decide

theorem rooms_right : ∀ {l : List Room} {p : Option Room} {f : Int}, RoomsTo f l → f ≤ endT → (∀ q, p = some q → ∀ r ∈ l, q.to ≤ r.frm) → roomsGo p l = 0
  | [], _, _, _, _, _ => rfl
  | r :: l, p, f, h, hf, hp => by
    have h1 := h.all r (by simp)
    have h2 := List.pairwise_cons.1 h.pw
    unfold roomsGo
    rw [if_neg (by unfold out endT at *; simp; omega)]
    rw [if_neg]
    · exact rooms_right (f := f) ⟨h2.2, fun x hx => h.all x (by simp [hx])⟩ hf fun q hq x hx => by
        obtain rfl := Option.some.inj hq
        exact h2.1 x hx
    · cases p with
      | none => simp
      | some q =>
        have := hp q rfl r (by simp)
        simp; omega

theorem roomsFault_right {l : List Room} {f : Int} (h : RoomsTo f l) (hf : f ≤ endT) (hl : l.length ≤ 200) : roomsFault l = 0 := by
  unfold roomsFault
  rw [if_neg (by omega)]
  exact rooms_right h hf fun q hq => by cases hq


theorem mem_nums {k : Int} : ∀ {bs : List Bool} {i : Nat}, k ∈ Desk.nums i bs ↔ ∃ j, bs[j]? = some false ∧ k = ((i + j : Nat) : Int)
  | [], i => by simp [Desk.nums]
  | b :: bs, i => by
    unfold Desk.nums
    cases b with
    | true =>
      simp only [if_true]
      rw [mem_nums]
      constructor
      · rintro ⟨j, h1, h2⟩; exact ⟨j + 1, by simpa using h1, by omega⟩
      · rintro ⟨j, h1, h2⟩
        cases j with
        | zero => simp at h1
        | succ j => exact ⟨j, by simpa using h1, by omega⟩
    | false =>
      simp only [Bool.false_eq_true, if_false, List.mem_cons]
      rw [mem_nums]
      constructor
      · rintro (rfl | ⟨j, h1, h2⟩)
        · exact ⟨0, rfl, by omega⟩
        · exact ⟨j + 1, by simpa using h1, by omega⟩
      · rintro ⟨j, h1, h2⟩
        cases j with
        | zero => exact .inl (by omega)
        | succ j => exact .inr ⟨j, by simpa using h1, by omega⟩

theorem oks_len : ∀ (l : List Ask) (D : Desk), (Desk.oks D l).length = l.length
  | [], D => rfl
  | a :: l, D => by
    unfold Desk.oks
    split <;> simp [oks_len l]

theorem sel_sub : ∀ (bs : List Bool) (l : List Ask), (Desk.sel bs l).Sublist l
  | [], l => by simp [Desk.sel]
  | _ :: _, [] => by simp [Desk.sel]
  | b :: bs, a :: l => by
    unfold Desk.sel
    cases b
    · exact (sel_sub bs l).cons _
    · exact (sel_sub bs l).cons_cons _

theorem sel_take {bs : List Bool} {l : List Ask} (hl : bs.length = l.length) {i : Nat} (hi : i < l.length) : Desk.sel (bs.take (i + 1)) (l.take (i + 1)) = Desk.sel (bs.take i) (l.take i) ++ if bs[i]? = some true then [l[i]] else [] := by
  induction i generalizing bs l with
  | zero =>
    cases l with
    | nil => simp at hi
    | cons a l =>
      cases bs with
      | nil => simp at hl
      | cons b bs => cases b <;> simp [Desk.sel]
  | succ i ih =>
    cases l with
    | nil => simp at hi
    | cons a l =>
      cases bs with
      | nil => simp at hl
      | cons b bs =>
        have := ih (bs := bs) (l := l) (by simpa using hl) (by simpa using hi)
        simp only [List.take_succ_cons, Desk.sel, List.getElem?_cons_succ, List.getElem_cons_succ]
        rw [this]
        cases b <;> simp
end Y
end Go.Proofs.YtplginnkececaaaGreatDoor
