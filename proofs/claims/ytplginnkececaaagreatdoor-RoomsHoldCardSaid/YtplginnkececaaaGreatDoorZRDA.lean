/- Following asks, in plain Lean: rides that stand, wait, move up and are over. Following asks: what does not hang on rooms; rides that are over; asks that are refused say nothing. Following asks: rooms hold what they should, and nobody waits for whom there is room. The desk as it is written out: what its functions that only look compute. No condition. -/
import Derived.Test.YtplginnkececaaaGreatDoorZRA
import Derived.Test.YtplginnkececaaaGreatDoorZYSO
set_option linter.unusedSimpArgs false
set_option linter.unusedVariables false
namespace Go.Proofs.YtplginnkececaaaGreatDoor
open Go
namespace Y
open X

structure Ent where
  st : Standing
  opn : Bool
  deriving DecidableEq

def nilRide : Ride := ⟨[], [], [], [], 0, 0, 0, 0⟩
def nilEnt : Ent := ⟨⟨nilRide, 0, 0⟩, false⟩
def nilRoom : Room := ⟨0, 0, 0⟩
def Ride.size (r : Ride) : Int := r.seats + r.wheels

abbrev Ent.ride (e : Ent) : Ride := e.st.ride

def entAt (es : List Ent) (i : Nat) : Ent := es.getD i nilEnt

structure Desk where
  tab : Tab Rider
  rooms : List Room
  ents : List Ent
  used : List Int
  moved : List Standing
  late : List Ask

def inRoom (r : Ride) (x : Room) : Bool := decide (x.frm ≤ r.ready) && decide (r.ready < x.to)

namespace Desk
def room (D : Desk) (r : Ride) : Option Nat := D.rooms.findIdx? (inRoom r)

def fits (D : Desk) (r : Ride) : Bool :=
  match D.room r with
  | none => false
  | some k => decide (D.used.getD k 0 + r.size ≤ (D.rooms.getD k nilRoom).seats)

def addUsed (D : Desk) (k : Nat) (n : Int) : Desk := { D with used := D.used.set k (D.used.getD k 0 + n) }

def setEnt (D : Desk) (i : Nat) (e : Ent) : Desk := { D with ents := D.ents.set i e }

def place (D : Desk) (i : Nat) (t : Int) : Desk :=
  let e := entAt D.ents i
  if D.fits e.ride then (D.addUsed ((D.room e.ride).getD 0) e.ride.size).setEnt i ⟨⟨e.ride, 1, t⟩, e.opn⟩
  else D.setEnt i ⟨⟨e.ride, 2, t⟩, e.opn⟩

def leave (D : Desk) (i : Nat) : Desk :=
  let e := entAt D.ents i
  if e.st.state = 1 then D.addUsed ((D.room e.ride).getD 0) (-e.ride.size) else D

def byWait (es : List Ent) (i j : Nat) : Int :=
  let a := entAt es i
  let b := entAt es j
  if cmpI a.st.since b.st.since ≠ 0 then cmpI a.st.since b.st.since else cmpS a.ride.id b.ride.id

def waits (D : Desk) (k : Option Nat) (e : Ent) : Bool := e.opn && decide (e.st.state = 2) && decide (D.room e.ride = k)

def waiting (D : Desk) (k : Option Nat) : List Nat :=
  sortI (byWait D.ents) ((List.range D.ents.length).filter fun i => D.waits k (entAt D.ents i))

def up (t : Int) (D : Desk) (i : Nat) : Desk :=
  if D.fits (entAt D.ents i).ride then
    let D' := D.place i t
    { D' with moved := D'.moved ++ [(entAt D'.ents i).st] }
  else D

def moveUp (D : Desk) (k : Option Nat) (t : Int) : Desk :=
  match k with
  | none => D
  | some k => (D.waiting (some k)).foldl (up t) D

def nextDue (D : Desk) (t : Int) : Int := D.ents.foldl (fun m e => if e.opn then min m e.ride.due else m) (t + 1)

def roomI (k : Option Nat) : Int :=
  match k with
  | none => -1
  | some k => k

def close1 (t : Int) (p : Desk × List Int) (i : Nat) : Desk × List Int :=
  let e := entAt p.1.ents i
  if e.opn = true ∧ e.ride.due = t then ((p.1.leave i).setEnt i ⟨e.st, false⟩, p.2 ++ [roomI (p.1.room e.ride)]) else p

def closeAll (D : Desk) (t : Int) : Desk × List Int := (List.range D.ents.length).foldl (close1 t) (D, [])

def ofI (k : Int) : Option Nat := if k < 0 then none else some k.toNat

def dedup : List Int → List Int
  | a :: b :: l => if a = b then dedup (b :: l) else a :: dedup (b :: l)
  | l => l

def tick (D : Desk) (t : Int) : Desk :=
  let p := D.closeAll t
  (dedup (sortI cmpI p.2)).foldl (fun D k => D.moveUp (ofI k) t) p.1

def openN (D : Desk) : Nat := (D.ents.filter (·.opn)).length

def overN (t : Int) : Nat → Desk → Desk
  | 0, D => D
  | n + 1, D => if D.nextDue t ≤ t then overN t n (D.tick (D.nextDue t)) else D

def over (D : Desk) (t : Int) : Desk := overN t D.openN D

def bookings (D : Desk) (who : Str) (but : Option Nat) : List Ent :=
  ((List.range D.ents.length).filter fun i => (entAt D.ents i).opn && decide ((entAt D.ents i).ride.rider = who) && decide (some i ≠ but)).map (entAt D.ents)

def sumSize (l : List Ent) : Int := l.foldl (fun n e => n + e.ride.size) 0

def permits (D : Desk) (r : Ride) (t : Int) (but : Option Nat) : Bool :=
  match look r.rider D.tab with
  | none => false
  | some w => (but.isSome || decide (((D.bookings r.rider but).length : Int) < w.opn)) && decide (r.size + sumSize (D.bookings r.rider but) ≤ w.seats) && decide (t ≤ r.ready)

def findId (es : List Ent) (id : Str) : Option Nat := es.findIdx? fun e => decide (e.ride.id = id)

def follow (D : Desk) (a : Ask) : Option Desk :=
  match findId D.ents a.ride.id with
  | none =>
    if a.kind = 1 ∧ D.permits a.ride a.at' none = true then
      some (({ D with ents := D.ents ++ [⟨⟨a.ride, 0, 0⟩, true⟩] } : Desk).place D.ents.length a.at')
    else none
  | some i =>
    let e := entAt D.ents i
    if a.kind = 1 ∨ e.opn = false ∨ e.ride.rider ≠ a.ride.rider then none
    else if a.kind = 2 ∧ D.permits a.ride a.at' (some i) = false then none
    else if a.kind = 4 ∧ a.at' < e.ride.ready then none
    else
      let D1 := D.leave i
      let D2 := if a.kind = 2 then (D1.setEnt i ⟨⟨a.ride, 2, e.st.since⟩, true⟩).place i a.at'
        else ({ D1 with late := D1.late ++ [⟨a.at', a.kind, e.ride⟩] } : Desk).setEnt i ⟨⟨e.ride, if a.kind = 4 then 4 else 3, a.at'⟩, false⟩
      some (D2.moveUp (D.room e.ride) a.at')

def runGo (t : Int) : Desk → List Int → Nat → List Ask → Desk × List Int
  | D, rs, _, [] => (D, rs)
  | D, rs, i, a :: l =>
    if t < a.at' then (D, rs) else
    match (D.over a.at').follow a with
    | some D2 => runGo t D2 rs (i + 1) l
    | none => runGo t (D.over a.at') (rs ++ [(i : Int)]) (i + 1) l
end Desk

def tabOf (l : List Rider) : Tab Rider := l.foldl (fun m r => upd r.key r m) []

def desk0 (who : List Rider) (rooms : List Room) : Desk := ⟨tabOf who, rooms, [], List.replicate rooms.length 0, [], []⟩

def deskAt (who : List Rider) (rooms : List Room) (l : List Ask) (t : Int) : Desk := (Desk.runGo t (desk0 who rooms) [] 0 l).1.over t

def refusedOf (who : List Rider) (rooms : List Room) (l : List Ask) (t : Int) : List Int := (Desk.runGo t (desk0 who rooms) [] 0 l).2
end Y
end Go.Proofs.YtplginnkececaaaGreatDoor

set_option linter.unusedSimpArgs false
set_option linter.unusedVariables false
namespace Go.Proofs.YtplginnkececaaaGreatDoor
open Go
namespace Y
open X

def coreE (e : Ent) : Ride × Bool := (e.ride, e.opn)
def core (es : List Ent) : List (Ride × Bool) := es.map coreE

theorem entAt_core (es : List Ent) (i : Nat) : coreE (entAt es i) = (core es).getD i (nilRide, false) := by
  unfold core entAt
  rw [List.getD_eq_getElem?_getD, List.getD_eq_getElem?_getD, List.getElem?_map]
  cases es[i]? <;> rfl

theorem entAt_core_eq {es es' : List Ent} (h : core es = core es') (i : Nat) : (entAt es i).ride = (entAt es' i).ride ∧ (entAt es i).opn = (entAt es' i).opn := by
  have h1 := entAt_core es i
  have h2 := entAt_core es' i
  rw [h, ← h2] at h1
  simp only [coreE, Prod.mk.injEq] at h1
  exact h1

theorem core_len {es es' : List Ent} (h : core es = core es') : es.length = es'.length := by
  have := congrArg List.length h
  simpa [core] using this

theorem core_set (es : List Ent) (i : Nat) (e : Ent) : core (es.set i e) = (core es).set i (coreE e) := by
  simp [core, List.map_set]

theorem core_set_same {es : List Ent} {i : Nat} {e : Ent} (h : coreE e = coreE (entAt es i)) : core (es.set i e) = core es := by
  rw [core_set]
  apply List.ext_getElem?
  intro j
  by_cases hj : i = j
  · subst hj
    by_cases hl : i < (core es).length
    · rw [List.getElem?_set_self hl, h, entAt_core, List.getD_eq_getElem?_getD, List.getElem?_eq_getElem hl]; rfl
    · rw [List.getElem?_eq_none (by simpa using hl), List.getElem?_eq_none (by simpa using hl)]
  · rw [List.getElem?_set_ne hj]

structure Sim (D D' : Desk) : Prop where
  tab : D.tab = D'.tab
  core : core D.ents = core D'.ents
  late : D.late = D'.late

namespace Sim
theorem refl (D : Desk) : Sim D D := ⟨rfl, rfl, rfl⟩
theorem symm {D D' : Desk} (h : Sim D D') : Sim D' D := ⟨h.tab.symm, h.core.symm, h.late.symm⟩
theorem trans {D D' D'' : Desk} (h : Sim D D') (h' : Sim D' D'') : Sim D D'' := ⟨h.tab.trans h'.tab, h.core.trans h'.core, h.late.trans h'.late⟩
end Sim

namespace Desk
theorem sim_addUsed (D : Desk) (k : Nat) (n : Int) : Sim (D.addUsed k n) D := ⟨rfl, rfl, rfl⟩
theorem sim_leave (D : Desk) (i : Nat) : Sim (D.leave i) D := by
  unfold leave; simp only; split
  · exact sim_addUsed _ _ _
  · exact .refl _
theorem sim_place (D : Desk) (i : Nat) (t : Int) : Sim (D.place i t) D := by
  unfold place; simp only; split
  · exact ⟨rfl, core_set_same rfl, rfl⟩
  · exact ⟨rfl, core_set_same rfl, rfl⟩
theorem sim_up (t : Int) (D : Desk) (i : Nat) : Sim (up t D i) D := by
  unfold up; split
  · exact ⟨(sim_place D i t).tab, (sim_place D i t).core, (sim_place D i t).late⟩
  · exact .refl _
theorem sim_ups (t : Int) : ∀ (l : List Nat) (D : Desk), Sim (l.foldl (up t) D) D
  | [], D => .refl _
  | i :: l, D => (sim_ups t l _).trans (sim_up t D i)
theorem sim_moveUp (D : Desk) (k : Option Nat) (t : Int) : Sim (D.moveUp k t) D := by
  unfold moveUp; split
  · exact .refl _
  · exact sim_ups _ _ _
theorem sim_moveUps (t : Int) : ∀ (l : List Int) (D : Desk), Sim (l.foldl (fun D k => D.moveUp (ofI k) t) D) D
  | [], D => .refl _
  | k :: l, D => (sim_moveUps t l _).trans (sim_moveUp D _ t)

theorem Sim_set {D D' : Desk} (h : Sim D D') (i : Nat) (e e' : Ent) (he : coreE e = coreE e') : Sim (D.setEnt i e) (D'.setEnt i e') :=
  ⟨h.tab, by simp only [setEnt]; rw [core_set, core_set, h.core, he], h.late⟩

theorem sim_close1 (t : Int) {p p' : Desk × List Int} (h : Sim p.1 p'.1) (i : Nat) : Sim (close1 t p i).1 (close1 t p' i).1 := by
  have hc := entAt_core_eq h.core i
  unfold close1
  simp only [hc.1, hc.2]
  split
  · exact Sim_set (((sim_leave _ _).trans h).trans (sim_leave _ _).symm) i _ _ (by simp only [coreE, Ent.ride] at hc ⊢; rw [hc.1])
  · exact h

theorem sim_closes (t : Int) : ∀ (l : List Nat) {p p' : Desk × List Int}, Sim p.1 p'.1 → Sim (l.foldl (close1 t) p).1 (l.foldl (close1 t) p').1
  | [], _, _, h => h
  | i :: l, p, p', h => sim_closes t l (sim_close1 t h i)

theorem sim_closeAll {D D' : Desk} (h : Sim D D') (t : Int) : Sim (D.closeAll t).1 (D'.closeAll t).1 := by
  unfold closeAll
  rw [core_len h.core]
  exact sim_closes t _ h

theorem sim_tick {D D' : Desk} (h : Sim D D') (t : Int) : Sim (D.tick t) (D'.tick t) := by
  unfold tick
  exact ((sim_moveUps _ _ _).trans (sim_closeAll h t)).trans (sim_moveUps _ _ _).symm

theorem openN_core (D : Desk) : D.openN = ((core D.ents).filter (·.2)).length := by
  unfold openN core
  rw [List.filter_map, List.length_map]; rfl

theorem sim_openN {D D' : Desk} (h : Sim D D') : D.openN = D'.openN := by rw [openN_core, openN_core, h.core]

theorem nextDue_core (D : Desk) (t : Int) : D.nextDue t = (core D.ents).foldl (fun m e => if e.2 then min m e.1.due else m) (t + 1) := by
  unfold nextDue core
  rw [List.foldl_map]; rfl

theorem sim_nextDue {D D' : Desk} (h : Sim D D') (t : Int) : D.nextDue t = D'.nextDue t := by rw [nextDue_core, nextDue_core, h.core]

theorem sim_overN (t : Int) : ∀ (n : Nat) {D D' : Desk}, Sim D D' → Sim (overN t n D) (overN t n D')
  | 0, _, _, h => h
  | n + 1, D, D', h => by
    unfold overN
    rw [sim_nextDue h t]
    split
    · exact sim_overN t n (sim_tick h _)
    · exact h

theorem sim_over {D D' : Desk} (h : Sim D D') (t : Int) : Sim (D.over t) (D'.over t) := by
  unfold over
  rw [sim_openN h]
  exact sim_overN t _ h

theorem bookings_core (D : Desk) (who : Str) (but : Option Nat) : (D.bookings who but).map coreE =
    ((List.range (core D.ents).length).filter fun i => ((core D.ents).getD i (nilRide, false)).2 && decide (((core D.ents).getD i (nilRide, false)).1.rider = who) && decide (some i ≠ but)).map fun i => (core D.ents).getD i (nilRide, false) := by
  unfold bookings
  rw [List.map_map]
  have h : ∀ i, (coreE ∘ entAt D.ents) i = (core D.ents).getD i (nilRide, false) := fun i => entAt_core _ _
  have hl : (core D.ents).length = D.ents.length := by simp [core]
  rw [hl]
  simp only [← entAt_core]
  rfl

theorem sumSize_core (l : List Ent) : sumSize l = (l.map coreE).foldl (fun n e => n + e.1.size) 0 := by
  unfold sumSize
  rw [List.foldl_map]; rfl

theorem sim_permits {D D' : Desk} (h : Sim D D') (r : Ride) (t : Int) (but : Option Nat) : D.permits r t but = D'.permits r t but := by
  have hb : (D.bookings r.rider but).map coreE = (D'.bookings r.rider but).map coreE := by rw [bookings_core, bookings_core, h.core]
  have hl : (D.bookings r.rider but).length = (D'.bookings r.rider but).length := by simpa using congrArg List.length hb
  unfold permits
  rw [h.tab, sumSize_core, sumSize_core, hb, hl]

theorem findId_core (es : List Ent) (id : Str) : findId es id = (core es).findIdx? fun e => decide (e.1.id = id) := by
  unfold findId core
  rw [List.findIdx?_map]; rfl

def SimO (x y : Option Desk) : Prop :=
  match x, y with
  | none, none => True
  | some D, some D' => Sim D D'
  | _, _ => False

theorem sim_follow {D D' : Desk} (h : Sim D D') (a : Ask) : SimO (D.follow a) (D'.follow a) := by
  unfold follow
  rw [findId_core, findId_core, h.core]
  split
  · rw [sim_permits h]
    split
    · show Sim _ _
      refine ((sim_place _ _ _).trans ?_).trans (sim_place _ _ _).symm
      refine ⟨h.tab, ?_, h.late⟩
      have := h.core
      simp only [core, List.map_append] at this ⊢
      rw [this]
    · trivial
  · rename_i i hi
    have hc := entAt_core_eq h.core i
    have hc1 : (entAt D.ents i).st.ride = (entAt D'.ents i).st.ride := hc.1
    simp only [hc.1, hc.2, sim_permits h]
    split
    · trivial
    · split
      · trivial
      · split
        · trivial
        · show Sim _ _
          refine ((sim_moveUp _ _ _).trans ?_).trans (sim_moveUp _ _ _).symm
          split
          · refine ((sim_place _ _ _).trans ?_).trans (sim_place _ _ _).symm
            exact Sim_set (((sim_leave _ _).trans h).trans (sim_leave _ _).symm) i _ _ rfl
          · refine Sim_set ⟨?_, ?_, ?_⟩ i _ _ (by simp [coreE])
            · exact (((sim_leave D i).trans h).trans (sim_leave D' i).symm).tab
            · exact (((sim_leave D i).trans h).trans (sim_leave D' i).symm).core
            · have := (((sim_leave D i).trans h).trans (sim_leave D' i).symm).late
              simp only [this]

theorem sim_runGo (t : Int) : ∀ (l : List Ask) {D D' : Desk} (rs : List Int) (i : Nat), Sim D D' → Sim (runGo t D rs i l).1 (runGo t D' rs i l).1 ∧ (runGo t D rs i l).2 = (runGo t D' rs i l).2
  | [], D, D', rs, i, h => ⟨h, rfl⟩
  | a :: l, D, D', rs, i, h => by
    unfold runGo
    split
    · exact ⟨h, rfl⟩
    · have hf := sim_follow (sim_over h a.at') a
      revert hf
      cases (D.over a.at').follow a <;> cases (D'.over a.at').follow a
      · exact fun _ => sim_runGo t l _ _ (sim_over h _)
      · exact fun hf => hf.elim
      · exact fun hf => hf.elim
      · exact fun hf => sim_runGo t l _ _ hf


theorem fold_min (l : List (Ride × Bool)) : ∀ m : Int, (l.foldl (fun m e => if e.2 then min m e.1.due else m) m ≤ m) ∧
    (∀ e ∈ l, e.2 = true → l.foldl (fun m e => if e.2 then min m e.1.due else m) m ≤ e.1.due) ∧
    (l.foldl (fun m e => if e.2 then min m e.1.due else m) m = m ∨ ∃ e ∈ l, e.2 = true ∧ e.1.due = l.foldl (fun m e => if e.2 then min m e.1.due else m) m) := by
  induction l with
  | nil => intro m; simp
  | cons e l ih =>
    intro m
    simp only [List.foldl_cons]
    obtain ⟨h1, h2, h3⟩ := ih (if e.2 then min m e.1.due else m)
    cases he : e.2 with
    | false =>
      simp only [he, Bool.false_eq_true, if_false] at h1 h2 h3 ⊢
      refine ⟨h1, ?_, ?_⟩
      · intro x hx hx2
        rcases List.mem_cons.1 hx with rfl | hx
        · rw [he] at hx2; cases hx2
        · exact h2 x hx hx2
      · rcases h3 with h3 | ⟨x, hx, hx2⟩
        · exact .inl h3
        · exact .inr ⟨x, List.mem_cons_of_mem _ hx, hx2⟩
    | true =>
      simp only [he, if_true] at h1 h2 h3 ⊢
      refine ⟨by omega, ?_, ?_⟩
      · intro x hx hx2
        rcases List.mem_cons.1 hx with rfl | hx
        · omega
        · exact h2 x hx hx2
      · rcases h3 with h3 | ⟨x, hx, hx2⟩
        · by_cases hm : m ≤ e.1.due
          · exact .inl (by rw [h3]; omega)
          · exact .inr ⟨e, by simp, he, by rw [h3]; omega⟩
        · exact .inr ⟨x, List.mem_cons_of_mem _ hx, hx2⟩

theorem nextDue_le (D : Desk) (t : Int) : D.nextDue t ≤ t + 1 := by rw [nextDue_core]; exact (fold_min _ _).1
theorem nextDue_min (D : Desk) (t : Int) {e : Ride × Bool} (h : e ∈ core D.ents) (ho : e.2 = true) : D.nextDue t ≤ e.1.due := by rw [nextDue_core]; exact (fold_min _ _).2.1 e h ho
theorem nextDue_is (D : Desk) {t : Int} (h : D.nextDue t ≤ t) : ∃ e ∈ core D.ents, e.2 = true ∧ e.1.due = D.nextDue t := by
  rw [nextDue_core] at h ⊢
  rcases (fold_min (core D.ents) (t + 1)).2.2 with h3 | h3
  · omega
  · exact h3

theorem nextDue_mono (D : Desk) {t u : Int} (htu : t ≤ u) (h : D.nextDue t ≤ t) : D.nextDue u = D.nextDue t := by
  obtain ⟨e, he, ho, hd⟩ := nextDue_is D h
  have h1 := nextDue_min D u he ho
  obtain ⟨e', he', ho', hd'⟩ := nextDue_is D (t := u) (by omega)
  have h2 := nextDue_min D t he' ho'
  omega

def shut (t : Int) (e : Ride × Bool) : Ride × Bool := (e.1, e.2 && decide (e.1.due ≠ t))

theorem close1_core (t : Int) (p : Desk × List Int) (i : Nat) : core (close1 t p i).1.ents = (core p.1.ents).set i (shut t ((core p.1.ents).getD i (nilRide, false))) := by
  have hc := entAt_core p.1.ents i
  unfold close1
  simp only
  split
  · rename_i h
    simp only [setEnt]
    rw [core_set, (sim_leave p.1 i).core, ← hc]
    have h2 := h.2
    simp only [Ent.ride] at h2
    simp [shut, coreE, h.1, h2]
  · rename_i h
    have : shut t ((core p.1.ents).getD i (nilRide, false)) = (core p.1.ents).getD i (nilRide, false) := by
      rw [← hc]
      simp only [shut, coreE, Prod.mk.injEq, true_and]
      cases ho : (entAt p.1.ents i).opn with
      | false => rfl
      | true =>
        have : ¬ (entAt p.1.ents i).ride.due = t := fun e => h ⟨ho, e⟩
        simp only [Ent.ride] at this
        simp [this]
    rw [this]
    apply List.ext_getElem?
    intro j
    by_cases hj : i = j
    · subst hj
      by_cases hl : i < (core p.1.ents).length
      · rw [List.getElem?_set_self hl, List.getD_eq_getElem?_getD, List.getElem?_eq_getElem hl]; rfl
      · rw [List.getElem?_eq_none (by simpa using hl), List.getElem?_eq_none (by simpa using hl)]
    · rw [List.getElem?_set_ne hj]

theorem closes_core (t : Int) (D : Desk) : ∀ (m : Nat), (core ((List.range m).foldl (close1 t) (D, [])).1.ents).length = (core D.ents).length ∧
    ∀ j, (core ((List.range m).foldl (close1 t) (D, [])).1.ents).getD j (nilRide, false) = if j < m then shut t ((core D.ents).getD j (nilRide, false)) else (core D.ents).getD j (nilRide, false)
  | 0 => by simp
  | m + 1 => by
    obtain ⟨h1, h2⟩ := closes_core t D m
    rw [List.range_succ, List.foldl_append]
    simp only [List.foldl_cons, List.foldl_nil]
    rw [close1_core]
    refine ⟨by simpa using h1, fun j => ?_⟩
    by_cases hj : m = j
    · subst hj
      rw [if_pos (by omega)]
      by_cases hl : m < (core D.ents).length
      · rw [List.getD_eq_getElem?_getD, List.getElem?_set_self (by omega), h2 m, if_neg (by omega)]; rfl
      · rw [List.getD_eq_getElem?_getD, List.getElem?_eq_none (by simp; omega), List.getD_eq_getElem?_getD, List.getElem?_eq_none (by omega)]; rfl
    · rw [List.getD_eq_getElem?_getD, List.getElem?_set_ne hj, ← List.getD_eq_getElem?_getD, h2 j]
      by_cases h : j < m
      · rw [if_pos h, if_pos (by omega)]
      · rw [if_neg h, if_neg (by omega)]

theorem tick_core (D : Desk) (t : Int) : core (D.tick t).ents = (core D.ents).map (shut t) := by
  unfold tick
  simp only
  rw [(sim_moveUps _ _ _).core]
  unfold closeAll
  obtain ⟨h1, h2⟩ := closes_core t D D.ents.length
  apply List.ext_getElem?
  intro j
  have hl : (core D.ents).length = D.ents.length := by simp [core]
  by_cases hj : j < D.ents.length
  · have := h2 j
    rw [if_pos hj, List.getD_eq_getElem?_getD, List.getD_eq_getElem?_getD, List.getElem?_eq_getElem (by omega), List.getElem?_eq_getElem (by omega)] at this
    rw [List.getElem?_eq_getElem (by omega), List.getElem?_map, List.getElem?_eq_getElem (by omega)]
    simp only [Option.getD_some] at this
    rw [this]; rfl
  · rw [List.getElem?_eq_none (by omega), List.getElem?_eq_none (by simp; omega)]

theorem filter_shut (t : Int) : ∀ (l : List (Ride × Bool)), ((l.map (shut t)).filter (·.2)).length ≤ (l.filter (·.2)).length ∧ ((∃ e ∈ l, e.2 = true ∧ e.1.due = t) → ((l.map (shut t)).filter (·.2)).length < (l.filter (·.2)).length)
  | [] => by simp
  | e :: l => by
    obtain ⟨h1, h2⟩ := filter_shut t l
    obtain ⟨r, o⟩ := e
    simp only [List.map_cons, shut]
    cases o with
    | false =>
      simp only [Bool.false_and, List.filter_cons, Bool.false_eq_true, if_false]
      refine ⟨h1, fun h => h2 ?_⟩
      obtain ⟨x, hx, ho, hd⟩ := h
      rcases List.mem_cons.1 hx with rfl | hx
      · cases ho
      · exact ⟨x, hx, ho, hd⟩
    | true =>
      by_cases hd : r.due = t
      · simp only [hd, ne_eq, not_true_eq_false, decide_false, Bool.and_false, List.filter_cons, Bool.false_eq_true, if_false, if_true, List.length_cons]
        exact ⟨by omega, fun _ => by omega⟩
      · simp only [hd, ne_eq, not_false_eq_true, decide_true, Bool.and_true, List.filter_cons, if_true, List.length_cons]
        refine ⟨by omega, fun h => ?_⟩
        obtain ⟨x, hx, ho, hd'⟩ := h
        rcases List.mem_cons.1 hx with rfl | hx
        · exact absurd hd' hd
        · have := h2 ⟨x, hx, ho, hd'⟩; omega

theorem tick_less (D : Desk) {t : Int} (h : D.nextDue t ≤ t) : (D.tick (D.nextDue t)).openN < D.openN := by
  rw [openN_core, openN_core, tick_core]
  exact (filter_shut _ _).2 (nextDue_is D h)

theorem overN_fuel (t : Int) : ∀ (n m : Nat) (D : Desk), D.openN ≤ n → D.openN ≤ m → overN t n D = overN t m D
  | 0, 0, D, _, _ => rfl
  | 0, m + 1, D, h, _ => by
    unfold overN
    rw [if_neg]
    intro hle
    have := tick_less D hle
    omega
  | n + 1, 0, D, _, h => by
    unfold overN
    rw [if_neg]
    intro hle
    have := tick_less D hle
    omega
  | n + 1, m + 1, D, h1, h2 => by
    unfold overN
    split
    · rename_i hle
      have := tick_less D hle
      exact overN_fuel t n m _ (by omega) (by omega)
    · rfl

theorem over_eq (D : Desk) (t : Int) : D.over t = if D.nextDue t ≤ t then (D.tick (D.nextDue t)).over t else D := by
  unfold over
  by_cases h : D.nextDue t ≤ t
  · rw [if_pos h]
    have hl := tick_less D h
    obtain ⟨n, hn⟩ : ∃ n, D.openN = n + 1 := ⟨D.openN - 1, by omega⟩
    rw [hn]
    conv => lhs; unfold overN
    rw [if_pos h]
    exact overN_fuel t _ _ _ (by omega) (Nat.le_refl _)
  · rw [if_neg h]
    cases D.openN with
    | zero => rfl
    | succ n => unfold overN; rw [if_neg h]

theorem over_over {t u : Int} (htu : t ≤ u) : ∀ (n : Nat) (D : Desk), D.openN ≤ n → (D.over t).over u = D.over u := by
  intro n
  induction n with
  | zero =>
    intro D h
    rw [over_eq D t, if_neg]
    intro hle
    have := tick_less D hle
    omega
  | succ n ih =>
    intro D h
    rw [over_eq D t]
    split
    · rename_i hle
      have hl := tick_less D hle
      rw [ih _ (by omega)]
      conv => rhs; rw [over_eq D u]
      have hm := nextDue_mono D htu hle
      rw [hm, if_pos (by omega)]
    · rfl

theorem over_twice {t u : Int} (htu : t ≤ u) (D : Desk) : (D.over t).over u = D.over u := over_over htu _ D (Nat.le_refl _)


def oks : Desk → List Ask → List Bool
  | _, [] => []
  | D, a :: l =>
    match (D.over a.at').follow a with
    | some D2 => true :: oks D2 l
    | none => false :: oks (D.over a.at') l

def sel : List Bool → List Ask → List Ask
  | b :: bs, a :: l => if b then a :: sel bs l else sel bs l
  | _, _ => []

def nums : Nat → List Bool → List Int
  | _, [] => []
  | i, b :: bs => if b then nums (i + 1) bs else (i : Int) :: nums (i + 1) bs

theorem sel_mem {a : Ask} : ∀ {bs : List Bool} {l : List Ask}, a ∈ sel bs l → a ∈ l
  | [], _, h => by cases h
  | _ :: _, [], h => by cases h
  | b :: bs, x :: l, h => by
    cases b with
    | false => exact List.mem_cons_of_mem _ (sel_mem (bs := bs) h)
    | true =>
      rcases List.mem_cons.1 h with rfl | h
      · simp
      · exact List.mem_cons_of_mem _ (sel_mem h)

theorem sim_oks : ∀ (l : List Ask) {D D' : Desk}, Sim D D' → oks D l = oks D' l
  | [], _, _, _ => rfl
  | a :: l, D, D', h => by
    have hf := sim_follow (sim_over h a.at') a
    unfold oks
    revert hf
    cases (D.over a.at').follow a <;> cases (D'.over a.at').follow a
    · exact fun _ => congrArg _ (sim_oks l (sim_over h _))
    · exact fun hf => hf.elim
    · exact fun hf => hf.elim
    · exact fun hf => congrArg _ (sim_oks l hf)

theorem runGo_refused {t : Int} : ∀ (l : List Ask) (D : Desk) (rs : List Int) (i : Nat), (∀ a ∈ l, a.at' ≤ t) → (runGo t D rs i l).2 = rs ++ nums i (oks D l)
  | [], D, rs, i, h => by simp [runGo, oks, nums]
  | a :: l, D, rs, i, h => by
    have ha := h a (by simp)
    have hl : ∀ b ∈ l, b.at' ≤ t := fun b hb => h b (by simp [hb])
    unfold runGo oks
    rw [if_neg (by omega)]
    cases (D.over a.at').follow a with
    | none => simp only [nums]; rw [runGo_refused l _ _ _ hl]; simp
    | some D2 => simp only [nums]; rw [runGo_refused l _ _ _ hl]; simp

theorem runGo_cons (t : Int) (D : Desk) (rs : List Int) (i : Nat) (a : Ask) (l : List Ask) : runGo t D rs i (a :: l) = if t < a.at' then (D, rs) else
    match (D.over a.at').follow a with
    | some D2 => runGo t D2 rs (i + 1) l
    | none => runGo t (D.over a.at') (rs ++ [(i : Int)]) (i + 1) l := rfl

theorem runGo_late {t : Int} {D : Desk} {rs : List Int} {i : Nat} {l : List Ask} (h : ∀ a ∈ l, t < a.at') : runGo t D rs i l = (D, rs) := by
  cases l with
  | nil => rfl
  | cons a l => unfold runGo; rw [if_pos (h a (by simp))]

theorem run_sel {t : Int} : ∀ (l : List Ask) (D D' : Desk) (rs rs' : List Int) (i j : Nat) (u : Int), (a_le : ∀ a ∈ l, u ≤ a.at') → l.Pairwise (fun a b => a.at' ≤ b.at') → u ≤ t →
    (∀ v, u ≤ v → D.over v = D'.over v) → (runGo t D rs i l).1.over t = (runGo t D' rs' j (sel (oks D l) l)).1.over t ∧ (runGo t D' rs' j (sel (oks D l) l)).2 = rs'
  | [], D, D', rs, rs', i, j, u, hu, hp, hut, hv => ⟨hv t hut, rfl⟩
  | a :: l, D, D', rs, rs', i, j, u, hu, hp, hut, hv => by
    have ha := hu a (by simp)
    rw [List.pairwise_cons] at hp
    by_cases hlt : t < a.at'
    · have hall : ∀ b ∈ a :: l, t < b.at' := by
        intro b hb
        rcases List.mem_cons.1 hb with rfl | hb
        · exact hlt
        · have := hp.1 b hb; omega
      rw [runGo_late hall, runGo_late fun b hb => hall b (sel_mem hb)]
      exact ⟨hv t hut, rfl⟩
    · have hat : ∀ b ∈ l, a.at' ≤ b.at' := hp.1
      rw [runGo_cons t D, if_neg hlt]
      unfold oks
      cases hf : (D.over a.at').follow a with
      | none =>
        simp only [sel, Bool.false_eq_true, if_false]
        refine run_sel l _ D' _ rs' _ j a.at' hat hp.2 (Int.not_lt.1 hlt) fun v hav => ?_
        rw [over_twice hav, hv v (Int.le_trans ha hav)]
      | some D2 =>
        simp only [sel, if_true]
        rw [runGo_cons, if_neg hlt, ← hv _ ha, hf]
        exact run_sel l D2 D2 _ rs' _ _ a.at' hat hp.2 (Int.not_lt.1 hlt) fun v _ => rfl

end Desk
end Y
end Go.Proofs.YtplginnkececaaaGreatDoor

set_option linter.unusedSimpArgs false
set_option linter.unusedVariables false
namespace Go.Proofs.YtplginnkececaaaGreatDoor
open Go
namespace Y
open X

def sumE (f : Ent → Int) : List Ent → Int
  | [] => 0
  | e :: l => f e + sumE f l

theorem sumE_set (f : Ent → Int) (e : Ent) : ∀ (l : List Ent) (i : Nat), i < l.length → sumE f (l.set i e) = sumE f l - f (entAt l i) + f e
  | [], i, h => by simp at h
  | x :: l, 0, h => by simp [sumE, entAt]; omega
  | x :: l, i + 1, h => by
    have := sumE_set f e l i (by simpa using h)
    simp only [List.set_cons_succ, sumE, this, entAt, List.getD_cons_succ]; omega

theorem sumE_append (f : Ent → Int) (e : Ent) : ∀ l : List Ent, sumE f (l ++ [e]) = sumE f l + f e
  | [] => by simp [sumE]
  | x :: l => by simp only [List.cons_append, sumE, sumE_append f e l]; omega

theorem sumE_nonneg {f : Ent → Int} : ∀ {l : List Ent}, (∀ e ∈ l, 0 ≤ f e) → 0 ≤ sumE f l
  | [], _ => by simp [sumE]
  | x :: l, h => by
    have h1 := h x (by simp)
    have h2 := sumE_nonneg (f := f) (l := l) fun e he => h e (by simp [he])
    simp only [sumE]; omega

def cost (rooms : List Room) (k : Nat) (e : Ent) : Int := if e.opn = true ∧ e.st.state = 1 ∧ rooms.findIdx? (inRoom e.ride) = some k then e.ride.size else 0

theorem room_lt {rooms : List Room} {r : Ride} {k : Nat} (h : rooms.findIdx? (inRoom r) = some k) : k < rooms.length := (List.findIdx?_eq_some_iff_getElem.1 h).1

theorem entAt_set_self {es : List Ent} {i : Nat} (e : Ent) (h : i < es.length) : entAt (es.set i e) i = e := by
  unfold entAt; rw [List.getD_eq_getElem?_getD, List.getElem?_set_self h]; rfl
theorem entAt_set_ne {es : List Ent} {i j : Nat} (e : Ent) (h : i ≠ j) : entAt (es.set i e) j = entAt es j := by
  unfold entAt; rw [List.getD_eq_getElem?_getD, List.getElem?_set_ne h, ← List.getD_eq_getElem?_getD]
theorem entAt_mem {es : List Ent} {i : Nat} (h : i < es.length) : entAt es i ∈ es := by
  unfold entAt; rw [List.getD_eq_getElem?_getD, List.getElem?_eq_getElem h]; exact List.getElem_mem h

theorem getD_set_self {l : List Int} {k : Nat} (v : Int) (h : k < l.length) : (l.set k v).getD k 0 = v := by
  rw [List.getD_eq_getElem?_getD, List.getElem?_set_self h]; rfl
theorem getD_set_ne {l : List Int} {k j : Nat} (v : Int) (h : k ≠ j) : (l.set k v).getD j 0 = l.getD j 0 := by
  rw [List.getD_eq_getElem?_getD, List.getElem?_set_ne h, ← List.getD_eq_getElem?_getD]

structure Inv (E : Nat → Nat → Prop) (D : Desk) : Prop where
  len : D.used.length = D.rooms.length
  used : ∀ k, k < D.rooms.length → D.used.getD k 0 = sumE (cost D.rooms k) D.ents
  most : ∀ k, k < D.rooms.length → D.used.getD k 0 ≤ (D.rooms.getD k nilRoom).seats
  size : ∀ i, i < D.ents.length → 0 ≤ (entAt D.ents i).ride.size
  state : ∀ i, i < D.ents.length → (entAt D.ents i).opn = true → (entAt D.ents i).st.state = 1 ∨ (entAt D.ents i).st.state = 2
  sure : ∀ i, i < D.ents.length → (entAt D.ents i).opn = true → (entAt D.ents i).st.state = 1 → ∃ k, D.room (entAt D.ents i).ride = some k
  full : ∀ i k, i < D.ents.length → (entAt D.ents i).opn = true → (entAt D.ents i).st.state = 2 → D.room (entAt D.ents i).ride = some k → ¬ E k i → (D.rooms.getD k nilRoom).seats < D.used.getD k 0 + (entAt D.ents i).ride.size

namespace Desk
theorem Inv.weak {E E' : Nat → Nat → Prop} {D : Desk} (h : Inv E D) (hE : ∀ i k, i < D.ents.length → (entAt D.ents i).opn = true → (entAt D.ents i).st.state = 2 → D.room (entAt D.ents i).ride = some k → E k i → E' k i) : Inv E' D :=
  ⟨h.len, h.used, h.most, h.size, h.state, h.sure, fun i k h1 h2 h3 h4 h5 => h.full i k h1 h2 h3 h4 fun he => h5 (hE i k h1 h2 h3 h4 he)⟩

theorem place_rooms (D : Desk) (i : Nat) (t : Int) : (D.place i t).rooms = D.rooms := by
  unfold place; simp only; split <;> rfl
theorem place_len (D : Desk) (i : Nat) (t : Int) : (D.place i t).ents.length = D.ents.length := by
  unfold place; simp only; split <;> simp [setEnt, addUsed]
theorem place_other (D : Desk) {i j : Nat} (t : Int) (h : i ≠ j) : entAt (D.place i t).ents j = entAt D.ents j := by
  unfold place; simp only; split <;> simp only [setEnt, addUsed] <;> exact entAt_set_ne _ h

theorem inv_set {E E' : Nat → Nat → Prop} {D D' : Desk} (h : Inv E D) {i : Nat} (hi : i < D.ents.length) {e' : Ent} (hr : D'.rooms = D.rooms) (he : D'.ents = D.ents.set i e') (hlen : D'.used.length = D.used.length)
    (hused : ∀ k, k < D.rooms.length → D'.used.getD k 0 = D.used.getD k 0 - cost D.rooms k (entAt D.ents i) + cost D.rooms k e')
    (hmost : ∀ k, k < D.rooms.length → D'.used.getD k 0 ≤ (D.rooms.getD k nilRoom).seats)
    (hsize : 0 ≤ e'.ride.size) (hstate : e'.opn = true → e'.st.state = 1 ∨ e'.st.state = 2) (hsure : e'.opn = true → e'.st.state = 1 → ∃ k, D.room e'.ride = some k)
    (hfull : ∀ k, e'.opn = true → e'.st.state = 2 → D.room e'.ride = some k → ¬ E' k i → (D.rooms.getD k nilRoom).seats < D'.used.getD k 0 + e'.ride.size)
    (hoth : ∀ k j, k < D.rooms.length → j ≠ i → ¬ E' k j → ¬ E k j ∧ D.used.getD k 0 ≤ D'.used.getD k 0) : Inv E' D' := by
  have hroom : ∀ r, D'.room r = D.room r := fun r => by unfold room; rw [hr]
  have key : ∀ j, j < D.ents.length → (j = i ∧ entAt D'.ents j = e') ∨ (j ≠ i ∧ entAt D'.ents j = entAt D.ents j) := by
    intro j hj
    rw [he]
    by_cases hij : i = j
    · subst hij; exact .inl ⟨rfl, entAt_set_self _ hi⟩
    · exact .inr ⟨Ne.symm hij, entAt_set_ne _ hij⟩
  have hl : D'.ents.length = D.ents.length := by rw [he]; simp
  refine ⟨by rw [hlen, hr]; exact h.len, fun k hk => ?_, fun k hk => ?_, fun j hj => ?_, fun j hj => ?_, fun j hj => ?_, fun j k hj => ?_⟩
  · rw [hr] at hk ⊢
    rw [he, sumE_set _ _ _ _ hi, hused k hk, h.used k hk]
  · rw [hr] at hk ⊢
    exact hmost k hk
  · rw [hl] at hj
    rcases key j hj with ⟨rfl, e⟩ | ⟨hne, e⟩
    · rw [e]; exact hsize
    · rw [e]; exact h.size j hj
  · rw [hl] at hj
    rcases key j hj with ⟨rfl, e⟩ | ⟨hne, e⟩
    · rw [e]; exact hstate
    · rw [e]; exact h.state j hj
  · rw [hl] at hj
    rcases key j hj with ⟨rfl, e⟩ | ⟨hne, e⟩
    · rw [e]; simp only [hroom]; exact hsure
    · rw [e]; simp only [hroom]; exact h.sure j hj
  · rw [hl] at hj
    rcases key j hj with ⟨rfl, e⟩ | ⟨hne, e⟩
    · rw [e, hroom, hr]; exact hfull k
    · rw [e, hroom, hr]
      intro h1 h2 h3 h4
      obtain ⟨g1, g2⟩ := hoth k j (room_lt h3) hne h4
      have := h.full j k hj h1 h2 h3 g1
      omega

theorem inv_place {E : Nat → Nat → Prop} {D : Desk} (h : Inv E D) {i : Nat} (hi : i < D.ents.length) (ho : (entAt D.ents i).opn = true) (hs : (entAt D.ents i).st.state ≠ 1) (t : Int) : Inv (fun k j => E k j ∧ j ≠ i) (D.place i t) := by
  have hsz := h.size i hi
  have c1 : ∀ k, cost D.rooms k (entAt D.ents i) = 0 := by intro k; unfold cost; rw [if_neg fun c => hs c.2.1]
  have c2 : ∀ k, cost D.rooms k ⟨⟨(entAt D.ents i).ride, 2, t⟩, (entAt D.ents i).opn⟩ = 0 := by intro k; unfold cost; rw [if_neg]; simp
  unfold place
  simp only
  cases hf : D.fits (entAt D.ents i).ride with
  | false =>
    simp only [Bool.false_eq_true, if_false]
    refine inv_set h hi rfl rfl rfl (fun k hk => ?_) h.most hsz (fun _ => .inr rfl) (fun _ hc => by cases hc) (fun k _ _ hc _ => ?_) fun k j _ hne hE => ⟨fun he => hE ⟨he, hne⟩, Int.le_refl _⟩
    · simp only [setEnt]; rw [c1, c2]; omega
    · simp only [setEnt]
      unfold fits at hf
      have hc' : D.room (entAt D.ents i).ride = some k := hc
      rw [hc'] at hf
      simp only [decide_eq_false_iff_not] at hf
      simp only [Ent.ride] at hf ⊢
      omega
  | true =>
    simp only [if_true]
    obtain ⟨m, hr, hfit⟩ : ∃ m, D.room (entAt D.ents i).ride = some m ∧ D.used.getD m 0 + (entAt D.ents i).ride.size ≤ (D.rooms.getD m nilRoom).seats := by
      unfold fits at hf
      cases hr : D.room (entAt D.ents i).ride with
      | none => rw [hr] at hf; cases hf
      | some m => rw [hr] at hf; exact ⟨m, rfl, by simpa using hf⟩
    have hml : m < D.used.length := by rw [h.len]; exact room_lt hr
    rw [hr]
    simp only [Option.getD_some]
    have hu : ∀ k, (D.used.set m (D.used.getD m 0 + (entAt D.ents i).ride.size)).getD k 0 = D.used.getD k 0 + if k = m then (entAt D.ents i).ride.size else 0 := by
      intro k
      by_cases hk : m = k
      · subst hk; rw [getD_set_self _ hml]; simp
      · rw [getD_set_ne _ hk, if_neg (Ne.symm hk)]; omega
    have c3 : ∀ k, cost D.rooms k ⟨⟨(entAt D.ents i).ride, 1, t⟩, (entAt D.ents i).opn⟩ = if k = m then (entAt D.ents i).ride.size else 0 := by
      intro k
      unfold cost
      have hr' : D.rooms.findIdx? (inRoom (entAt D.ents i).ride) = some m := hr
      simp only [ho, hr', Option.some.injEq, true_and, eq_comm]
    refine inv_set h hi rfl rfl (by simp [setEnt, addUsed]) (fun k hk => ?_) (fun k hk => ?_) hsz (fun _ => .inl rfl) (fun _ _ => ⟨m, hr⟩) (fun k _ hc _ _ => by cases hc) fun k j _ hne hE => ⟨fun he => hE ⟨he, hne⟩, ?_⟩
    · simp only [setEnt, addUsed]; rw [c1, c3, hu]; omega
    · simp only [setEnt, addUsed]
      rw [hu]
      have := h.most k hk
      split
      · rename_i he; subst he; exact hfit
      · omega
    · simp only [setEnt, addUsed]
      rw [hu]; split <;> omega

theorem leave_rooms (D : Desk) (i : Nat) : (D.leave i).rooms = D.rooms := by
  unfold leave; simp only; split <;> rfl
theorem leave_ents (D : Desk) (i : Nat) : (D.leave i).ents = D.ents := by
  unfold leave; simp only; split <;> rfl

theorem inv_drop {E : Nat → Nat → Prop} {D : Desk} (h : Inv E D) {i : Nat} (hi : i < D.ents.length) (ho : (entAt D.ents i).opn = true) (e' : Ent) (he : e'.opn = false ∨ e'.st.state = 2) (hsz : 0 ≤ e'.ride.size) (lt : List Ask) :
    Inv (fun k j => E k j ∨ D.room (entAt D.ents i).ride = some k ∨ j = i) ((({ D.leave i with late := lt } : Desk)).setEnt i e') := by
  have hold := h.size i hi
  have hu : ∀ k, k < D.rooms.length → (D.leave i).used.getD k 0 = D.used.getD k 0 - cost D.rooms k (entAt D.ents i) := by
    intro k hk
    unfold leave
    simp only
    by_cases hs : (entAt D.ents i).st.state = 1
    · rw [if_pos hs]
      obtain ⟨m, hm⟩ := h.sure i hi ho hs
      have hml : m < D.used.length := by rw [h.len]; exact room_lt hm
      have hm' : D.rooms.findIdx? (inRoom (entAt D.ents i).ride) = some m := hm
      rw [hm]
      simp only [addUsed, Option.getD_some]
      unfold cost
      simp only [ho, hs, hm', true_and, Option.some.injEq]
      by_cases hk' : m = k
      · subst hk'; rw [getD_set_self _ hml, if_pos rfl]; omega
      · rw [getD_set_ne _ hk', if_neg hk']; omega
    · rw [if_neg hs]
      have : cost D.rooms k (entAt D.ents i) = 0 := by unfold cost; rw [if_neg fun c => hs c.2.1]
      omega
  have hlen : (D.leave i).used.length = D.used.length := by unfold leave; simp only; split <;> simp [addUsed]
  have c2 : ∀ k, cost D.rooms k e' = 0 := by
    intro k; unfold cost; rw [if_neg]
    rintro ⟨h1, h2, _⟩
    rcases he with he | he
    · rw [he] at h1; cases h1
    · rw [he] at h2; cases h2
  have c1 : ∀ k, 0 ≤ cost D.rooms k (entAt D.ents i) := by intro k; unfold cost; split <;> omega
  refine inv_set h hi (leave_rooms D i) (by simp only [setEnt, leave_ents]) hlen (fun k hk => ?_) (fun k hk => ?_) hsz (fun h1 => ?_) (fun h1 h2 => ?_) (fun k _ _ _ hx => absurd (.inr (.inr rfl)) hx) fun k j hk hne hx => ⟨fun hE => hx (.inl hE), ?_⟩
  · simp only [setEnt]; rw [hu k hk, c2]; omega
  · simp only [setEnt]
    have := h.most k hk
    have := c1 k
    rw [hu k hk]; omega
  · rcases he with he | he
    · rw [he] at h1; cases h1
    · exact .inr he
  · rcases he with he | he
    · rw [he] at h1; cases h1
    · rw [he] at h2; cases h2
  · simp only [setEnt]
    rw [hu k hk]
    have hz : cost D.rooms k (entAt D.ents i) = 0 := by
      unfold cost; rw [if_neg]
      rintro ⟨_, _, hc⟩
      exact hx (.inr (.inl hc))
    omega

theorem up_len (D : Desk) (i : Nat) (t : Int) : (up t D i).ents.length = D.ents.length := by
  unfold up; split
  · exact place_len _ _ _
  · rfl
theorem up_rooms (D : Desk) (i : Nat) (t : Int) : (up t D i).rooms = D.rooms := by
  unfold up; split
  · exact place_rooms _ _ _
  · rfl
theorem up_other (D : Desk) {i j : Nat} (t : Int) (h : i ≠ j) : entAt (up t D i).ents j = entAt D.ents j := by
  unfold up; split
  · exact place_other _ _ h
  · rfl

theorem inv_up {E : Nat → Nat → Prop} {D : Desk} (h : Inv E D) {i : Nat} (hi : i < D.ents.length) (ho : (entAt D.ents i).opn = true) (hs : (entAt D.ents i).st.state = 2) (t : Int) : Inv (fun k j => E k j ∧ j ≠ i) (up t D i) := by
  unfold up
  split
  · have := inv_place h hi ho (by omega) t
    exact ⟨this.len, this.used, this.most, this.size, this.state, this.sure, this.full⟩
  · rename_i hf
    refine ⟨h.len, h.used, h.most, h.size, h.state, h.sure, fun j k hj h1 h2 h3 h4 => ?_⟩
    by_cases hij : j = i
    · subst hij
      unfold fits at hf
      rw [h3] at hf
      simp only [decide_eq_true_eq] at hf
      omega
    · exact h.full j k hj h1 h2 h3 fun he => h4 ⟨he, hij⟩

theorem inv_ups (t : Int) (m : Nat) : ∀ (l : List Nat) {E : Nat → Nat → Prop} {D : Desk}, l.Nodup → (∀ i ∈ l, i < D.ents.length ∧ (entAt D.ents i).opn = true ∧ (entAt D.ents i).st.state = 2) →
    Inv (fun k j => E k j ∨ (k = m ∧ j ∈ l)) D → Inv E (l.foldl (up t) D)
  | [], E, D, hn, hl, h => Inv.weak h fun i k _ _ _ _ he => by simpa using he
  | i :: l, E, D, hn, hl, h => by
    rw [List.nodup_cons] at hn
    obtain ⟨a1, a2, a3⟩ := hl i (by simp)
    refine inv_ups t m l hn.2 (fun j hj => ?_) (Inv.weak (inv_up h a1 a2 a3 t) fun j k _ _ _ _ he => ?_)
    · have hij : i ≠ j := fun e => hn.1 (e ▸ hj)
      rw [up_len, up_other _ _ hij]
      exact hl j (by simp [hj])
    · rcases he.1 with he1 | ⟨he1, he2⟩
      · exact .inl he1
      · rcases List.mem_cons.1 he2 with e | he2
        · exact absurd e he.2
        · exact .inr ⟨he1, he2⟩

theorem mem_waiting {D : Desk} {k : Option Nat} {i : Nat} : i ∈ D.waiting k ↔ i < D.ents.length ∧ D.waits k (entAt D.ents i) = true := by
  unfold waiting
  rw [(sortI_perm _ _).mem_iff, List.mem_filter, List.mem_range]

theorem nodup_waiting (D : Desk) (k : Option Nat) : (D.waiting k).Nodup := by
  unfold waiting
  exact (sortI_perm _ _).nodup_iff.2 ((List.nodup_range).sublist List.filter_sublist)

theorem inv_moveUp {E : Nat → Nat → Prop} {D : Desk} (h : Inv E D) (k : Option Nat) (t : Int) : Inv (fun m j => E m j ∧ k ≠ some m) (D.moveUp k t) := by
  unfold moveUp
  split
  · exact Inv.weak h fun i k _ _ _ _ he => ⟨he, by simp⟩
  · rename_i k
    refine inv_ups t k _ (nodup_waiting _ _) (fun i hi => ?_) (Inv.weak h fun i m h1 h2 h3 h4 he => ?_)
    · have := mem_waiting.1 hi
      simp only [waits, Bool.and_eq_true, decide_eq_true_eq] at this
      exact ⟨this.1, this.2.1.1, this.2.1.2⟩
    · by_cases hk : k = m
      · subst hk
        refine .inr ⟨rfl, mem_waiting.2 ⟨h1, ?_⟩⟩
        simp [waits, h2, h3, h4]
      · exact .inl ⟨he, fun e => hk (Option.some.inj e)⟩

theorem inv_moveUps (t : Int) : ∀ (l : List Int) {E : Nat → Nat → Prop} {D : Desk}, Inv (fun m j => E m j ∨ ∃ k ∈ l, ofI k = some m) D → Inv E (l.foldl (fun D k => D.moveUp (ofI k) t) D)
  | [], E, D, h => Inv.weak h fun i k _ _ _ _ he => by simpa using he
  | k :: l, E, D, h => by
    refine inv_moveUps t l (Inv.weak (inv_moveUp h (ofI k) t) fun i m _ _ _ _ he => ?_)
    rcases he.1 with h1 | ⟨j, hj, h1⟩
    · exact .inl h1
    · rcases List.mem_cons.1 hj with rfl | hj
      · exact absurd h1 he.2
      · exact .inr ⟨j, hj, h1⟩

theorem ofI_roomI (k : Option Nat) : ofI (roomI k) = k := by
  cases k with
  | none => rfl
  | some k =>
    show (if (k : Int) < 0 then none else some ((k : Int).toNat)) = some k
    rw [if_neg (by omega)]; rfl

theorem mem_dedup {a : Int} : ∀ {l : List Int}, a ∈ dedup l ↔ a ∈ l
  | [] => by simp [dedup]
  | [b] => by simp [dedup]
  | b :: c :: l => by
    unfold dedup
    split
    · rename_i h; subst h
      rw [mem_dedup]; simp
    · simp only [List.mem_cons, mem_dedup (l := c :: l)]

theorem close1_len (t : Int) (p : Desk × List Int) (i : Nat) : (close1 t p i).1.ents.length = p.1.ents.length := by
  unfold close1; simp only; split
  · simp [setEnt, leave_ents]
  · rfl

theorem inv_closes (t : Int) : ∀ (l : List Nat) {p : Desk × List Int}, (∀ i ∈ l, i < p.1.ents.length) → Inv (fun m _ => ∃ k ∈ p.2, ofI k = some m) p.1 →
    Inv (fun m _ => ∃ k ∈ (l.foldl (close1 t) p).2, ofI k = some m) (l.foldl (close1 t) p).1
  | [], p, hl, h => h
  | i :: l, p, hl, h => by
    have hi := hl i (by simp)
    refine inv_closes t l (fun j hj => by rw [close1_len]; exact hl j (by simp [hj])) ?_
    unfold close1
    simp only
    split
    · rename_i hc
      have := inv_drop h hi hc.1 ⟨(entAt p.1.ents i).st, false⟩ (.inl rfl) (h.size i hi) (p.1.leave i).late
      refine Inv.weak this fun j k hj h1 h2 h3 he => ?_
      rcases he with ⟨k', hk, he⟩ | he | rfl
      · exact ⟨k', by simp [hk], he⟩
      · exact ⟨roomI (p.1.room (entAt p.1.ents i).ride), by simp, by rw [ofI_roomI]; exact he⟩
      · simp only [setEnt, leave_ents] at h1 hj
        rw [entAt_set_self _ hi] at h1
        cases h1
    · exact h

theorem inv_tick {D : Desk} (h : Inv (fun _ _ => False) D) (t : Int) : Inv (fun _ _ => False) (D.tick t) := by
  unfold tick
  simp only
  refine inv_moveUps t _ (Inv.weak (inv_closes t _ (p := (D, [])) (fun i hi => by simpa using hi) (Inv.weak h fun _ _ _ _ _ _ he => he.elim)) fun i m _ _ _ _ he => ?_)
  obtain ⟨k, hk, he⟩ := he
  exact .inr ⟨k, mem_dedup.2 ((sortI_perm _ _).mem_iff.2 hk), he⟩

theorem inv_overN (t : Int) : ∀ (n : Nat) {D : Desk}, Inv (fun _ _ => False) D → Inv (fun _ _ => False) (overN t n D)
  | 0, D, h => h
  | n + 1, D, h => by
    unfold overN
    split
    · exact inv_overN t n (inv_tick h _)
    · exact h

theorem inv_over {D : Desk} (h : Inv (fun _ _ => False) D) (t : Int) : Inv (fun _ _ => False) (D.over t) := inv_overN t _ h

theorem place_state (D : Desk) (es : List Ent) (e e' : Ent) (t : Int) (h1 : e.ride = e'.ride) (h2 : e.opn = e'.opn) : ({ D with ents := es ++ [e] } : Desk).place es.length t = ({ D with ents := es ++ [e'] } : Desk).place es.length t := by
  have a1 : ∀ e : Ent, entAt (es ++ [e]) es.length = e := by intro e; simp [entAt]
  unfold place
  simp only [a1, setEnt, addUsed]
  have : ({ D with ents := es ++ [e] } : Desk).fits = ({ D with ents := es ++ [e'] } : Desk).fits := rfl
  rw [h1, h2, this]
  simp only [room]
  split <;> simp

theorem inv_follow {D D2 : Desk} (h : Inv (fun _ _ => False) D) {a : Ask} (hs : a.kind = 1 ∨ a.kind = 2 → 0 ≤ a.ride.size) (hf : D.follow a = some D2) : Inv (fun _ _ => False) D2 := by
  unfold follow at hf
  split at hf
  · split at hf
    · rename_i hc
      obtain rfl := Option.some.inj hf
      rw [place_state D D.ents ⟨⟨a.ride, 0, 0⟩, true⟩ ⟨⟨a.ride, 2, 0⟩, true⟩ a.at' rfl rfl]
      have e1 : entAt (D.ents ++ [⟨⟨a.ride, 2, 0⟩, true⟩]) D.ents.length = ⟨⟨a.ride, 2, 0⟩, true⟩ := by simp [entAt]
      have e2 : ∀ j, j < D.ents.length → entAt (D.ents ++ [⟨⟨a.ride, 2, 0⟩, true⟩]) j = entAt D.ents j := by
        intro j hj; simp [entAt, List.getD_eq_getElem?_getD, List.getElem?_append_left hj]
      have hsz := hs (.inl hc.1)
      have : Inv (fun _ j => j = D.ents.length) ({ D with ents := D.ents ++ [⟨⟨a.ride, 2, 0⟩, true⟩] } : Desk) := by
        have key : ∀ j, j < (D.ents ++ [(⟨⟨a.ride, 2, 0⟩, true⟩ : Ent)]).length → j = D.ents.length ∨ j < D.ents.length := by
          intro j hj; simp only [List.length_append, List.length_singleton] at hj; omega
        refine ⟨h.len, fun k hk => ?_, h.most, fun j hj => ?_, fun j hj => ?_, fun j hj => ?_, fun j k hj => ?_⟩
        · simp only
          rw [sumE_append, h.used k hk]
          have : cost D.rooms k ⟨⟨a.ride, 2, 0⟩, true⟩ = 0 := by unfold cost; rw [if_neg]; simp
          omega
        · rcases key j hj with rfl | hj
          · simp only [e1]; exact hsz
          · simp only [e2 j hj]; exact h.size j hj
        · rcases key j hj with rfl | hj
          · rw [e1]; exact fun _ => .inr rfl
          · simp only [e2 j hj]; exact h.state j hj
        · rcases key j hj with rfl | hj
          · rw [e1]; exact fun _ hc => by cases hc
          · simp only [e2 j hj]; exact h.sure j hj
        · rcases key j hj with rfl | hj
          · exact fun _ _ _ hc => absurd rfl hc
          · simp only [e2 j hj]; exact fun h1 h2 h3 h4 => h.full j k hj h1 h2 h3 fun he => he
      refine Inv.weak (inv_place this (i := D.ents.length) (by simp) (by simp only [e1]) (by simp only [e1]; decide) a.at') fun j k _ _ _ _ he => he.2 he.1
    · cases hf
  · rename_i i hi
    have hil : i < D.ents.length := (List.findIdx?_eq_some_iff_getElem.1 hi).1
    simp only at hf
    split at hf
    · cases hf
    · rename_i hc
      split at hf
      · cases hf
      · split at hf
        · cases hf
        · obtain rfl := Option.some.inj hf
          have ho : (entAt D.ents i).opn = true := by
            cases ho : (entAt D.ents i).opn with
            | true => rfl
            | false => exact absurd (.inr (.inl ho)) hc
          by_cases h2 : a.kind = 2
          · simp only [h2, if_true]
            have := inv_drop h hil ho ⟨⟨a.ride, 2, (entAt D.ents i).st.since⟩, true⟩ (.inr rfl) (hs (.inr h2)) (D.leave i).late
            have hl : i < ((D.leave i).setEnt i ⟨⟨a.ride, 2, (entAt D.ents i).st.since⟩, true⟩).ents.length := by simp [setEnt, leave_ents]; exact hil
            have he : entAt ((D.leave i).setEnt i ⟨⟨a.ride, 2, (entAt D.ents i).st.since⟩, true⟩).ents i = ⟨⟨a.ride, 2, (entAt D.ents i).st.since⟩, true⟩ := by
              simp only [setEnt, leave_ents]; exact entAt_set_self _ hil
            have := inv_place this (i := i) hl (by exact congrArg Ent.opn he) (by
              have : (entAt ((D.leave i).setEnt i ⟨⟨a.ride, 2, (entAt D.ents i).st.since⟩, true⟩).ents i).st.state = 2 := by rw [he]
              intro hx; exact absurd (this.symm.trans hx) (by decide)) a.at'
            refine Inv.weak (inv_moveUp this (D.room (entAt D.ents i).ride) a.at') fun j k _ _ _ _ hx => ?_
            rcases hx.1.1 with hx1 | hx1 | hx1
            · exact hx1
            · exact hx.2 hx1
            · exact hx.1.2 hx1
          · simp only [h2, if_false]
            have := inv_drop h hil ho ⟨⟨(entAt D.ents i).ride, if a.kind = 4 then 4 else 3, a.at'⟩, false⟩ (.inl rfl) (h.size i hil) ((D.leave i).late ++ [⟨a.at', a.kind, (entAt D.ents i).ride⟩])
            refine Inv.weak (inv_moveUp (Inv.weak this (E' := fun k _ => D.room (entAt D.ents i).ride = some k) fun j k hj h1 _ _ hx => ?_) (D.room (entAt D.ents i).ride) a.at') fun j k _ _ _ _ hx => hx.2 hx.1
            rcases hx with hx1 | hx1 | hx1
            · exact hx1.elim
            · exact hx1
            · subst hx1
              simp only [setEnt, leave_ents] at h1
              rw [entAt_set_self _ hil] at h1
              cases h1

theorem inv_runGo (t : Int) : ∀ (l : List Ask) {D : Desk} (rs : List Int) (i : Nat), (∀ a ∈ l, a.kind = 1 ∨ a.kind = 2 → 0 ≤ a.ride.size) → Inv (fun _ _ => False) D → Inv (fun _ _ => False) (runGo t D rs i l).1
  | [], D, rs, i, hl, h => h
  | a :: l, D, rs, i, hl, h => by
    unfold runGo
    split
    · exact h
    · have h1 := inv_over h a.at'
      cases hf : (D.over a.at').follow a with
      | none => exact inv_runGo t l _ _ (fun b hb => hl b (by simp [hb])) h1
      | some D2 => exact inv_runGo t l _ _ (fun b hb => hl b (by simp [hb])) (inv_follow h1 (hl a (by simp)) hf)
end Desk

theorem inv_desk0 (who : List Rider) (rooms : List Room) (h : ∀ k, k < rooms.length → 0 ≤ (rooms.getD k nilRoom).seats) : Inv (fun _ _ => False) (desk0 who rooms) := by
  have hz : ∀ k, (List.replicate rooms.length (0 : Int)).getD k 0 = 0 := by
    intro k
    rw [List.getD_eq_getElem?_getD, List.getElem?_replicate]
    split <;> rfl
  refine ⟨by simp [desk0], fun k hk => ?_, fun k hk => ?_, ?_, ?_, ?_, ?_⟩
  · simp only [desk0, sumE]; exact hz k
  · simp only [desk0] at hk ⊢; rw [hz]; exact h k hk
  · intro i hi; exact absurd hi (Nat.not_lt_zero _)
  · intro i hi; exact absurd hi (Nat.not_lt_zero _)
  · intro i hi; exact absurd hi (Nat.not_lt_zero _)
  · intro i k hi; exact absurd hi (Nat.not_lt_zero _)

theorem inv_deskAt (who : List Rider) (rooms : List Room) (l : List Ask) (t : Int) (h : ∀ k, k < rooms.length → 0 ≤ (rooms.getD k nilRoom).seats) (hl : ∀ a ∈ l, a.kind = 1 ∨ a.kind = 2 → 0 ≤ a.ride.size) : Inv (fun _ _ => False) (deskAt who rooms l t) :=
  Desk.inv_over (Desk.inv_runGo t l [] 0 hl (inv_desk0 who rooms h)) t
end Y
end Go.Proofs.YtplginnkececaaaGreatDoor

set_option linter.unusedSimpArgs false
set_option linter.unusedVariables false
namespace Go.Proofs.YtplginnkececaaaGreatDoor
open Go
namespace Y
open X

def entC (e : Ent) : List AV := e.st.ride.cells ++ [I e.st.state, I e.st.since, .bool e.opn]
def encEnt (e : Ent) : AV := .agg (entC e)
def entB (e : Ent) : Blk := .arr 11 [encEnt e]

def idTab {α : Type} (es : List Ent) (ps : List α) : Tab α := (es.map fun e => e.ride.id).zip ps

def deskC (D : Desk) (rs : List Int) : List AV :=
  [.vmap (tks D.tab) (tvs encRider D.tab), .vslice (D.rooms.map encRoom), .vmap (tks (idTab D.ents D.ents)) (tvs (fun e => .vptr (entC e)) (idTab D.ents D.ents)),
    .vslice (D.ents.map fun e => .vptr (entC e)), .vslice (D.used.map I), .vslice (D.moved.map encSt), .vslice (rs.map I), .vslice (D.late.map encAsk)]

section
variable (H : Heap) (e : Ent)
theorem ev_ride : loadAV H (some 8) (.vptr (entC e)) = some (encRide e.st.ride) := (rfl)
theorem ev_id : loadAV H none (.vptr (entC e)) = some (.str e.st.ride.id) := (rfl)
theorem ev_at (o : Nat) (h : o ≤ 10) : fieldAddrAV o (.vptr (entC e)) = some (.vptr ((entC e).drop o)) := fa_vptr (by simp [entC, Ride.cells]; omega)
theorem ev_rider : loadAV H none (.vptr ((entC e).drop 1)) = some (.str e.st.ride.rider) := (rfl)
theorem ev_ready : loadAV H none (.vptr ((entC e).drop 4)) = some (I e.st.ride.ready) := (rfl)
theorem ev_due : loadAV H none (.vptr ((entC e).drop 5)) = some (I e.st.ride.due) := (rfl)
theorem ev_seats : loadAV H none (.vptr ((entC e).drop 6)) = some (I e.st.ride.seats) := (rfl)
theorem ev_wheels : loadAV H none (.vptr ((entC e).drop 7)) = some (I e.st.ride.wheels) := (rfl)
theorem ev_state : loadAV H none (.vptr ((entC e).drop 8)) = some (I e.st.state) := (rfl)
theorem ev_since : loadAV H none (.vptr ((entC e).drop 9)) = some (I e.st.since) := (rfl)
theorem ev_open : loadAV H none (.vptr ((entC e).drop 10)) = some (.bool e.opn) := (rfl)
theorem fa_v1 (cs : List AV) (h : 1 ≤ cs.length) : fieldAddrAV 1 (.vptr cs) = some (.vptr (cs.drop 1)) := fa_vptr h
variable (D : Desk) (rs : List Int)
theorem dv_at (o : Nat) (h : o ≤ 8) : fieldAddrAV o (.vptr (deskC D rs)) = some (.vptr ((deskC D rs).drop o)) := fa_vptr (by simp [deskC]; omega)
theorem dv_rooms : loadAV H none (.vptr ((deskC D rs).drop 1)) = some (.vslice (D.rooms.map encRoom)) := (rfl)
theorem dv_order : loadAV H none (.vptr ((deskC D rs).drop 3)) = some (.vslice (D.ents.map fun e => .vptr (entC e))) := (rfl)
theorem dv_used : loadAV H none (.vptr ((deskC D rs).drop 4)) = some (.vslice (D.used.map I)) := (rfl)
theorem rv_at (r : Ride) (o : Nat) (h : o ≤ 8) : fieldAddrAV o (.vptr r.cells) = some (.vptr (r.cells.drop o)) := fa_vptr (by simp [Ride.cells]; omega)
theorem rv_ready (r : Ride) : loadAV H none (.vptr (r.cells.drop 4)) = some (I r.ready) := (rfl)
end

theorem mapM2 {H : Heap} {a b a' b' : AV} (h1 : snap H deep a = some a') (h2 : snap H deep b = some b') : [a, b].mapM (snap H deep) = some [a', b'] := by
  simp [List.mapM_cons, h1, h2]
theorem mapM1 {H : Heap} {a a' : AV} (h1 : snap H deep a = some a') : [a].mapM (snap H deep) = some [a'] := by
  simp [List.mapM_cons, h1]

theorem room1_ok (H : Heap) (r : Ride) (x : Room) : pureCall prog (R prog) f_request_desk_room_1 [encRoom x, .vptr r.cells] H = some (.bool (inRoom r x)) := by
  refine pure_fz (by intro a ha; simp at ha; rcases ha with rfl | rfl; exact fz_agg (by intro c hc; simp at hc; rcases hc with rfl | rfl | rfl <;> exact ⟨fun H => rfl, rfl⟩); exact fz_vptr _) rfl (r_request_desk_room_1 _ _ _ ?_)
  have h1 : ([Blk.arr 3 [encRoom x]] : Heap)[0]? = some (.arr 3 [encRoom x]) := rfl
  have k1 : boxAV 3 (encRoom x) [] = some (.ptr 0 0 0, [.arr 3 [encRoom x]]) := box_room [] x
  simp only [k1, room_frm h1, room_to h1, rv_at _ _ (show 4 ≤ 8 by omega), rv_ready, SS]
  unfold inRoom
  by_cases c1 : x.frm ≤ r.ready
  · simp only [c1, SS]; rfl
  · simp only [c1, SS]; rfl

theorem indexRoomG {f : Nat} (hm : prog.mode f = .pure) {r : Ride} (hf : ∀ (H : Heap) (x : Room), pureCall prog (R prog) f [encRoom x, .vptr r.cells] H = some (.bool (inRoom r x))) {H : Heap} {b : Nat} (hb : H[b]? = some (.arr 8 [encRide r])) (l : List Room) (hl : l.length < 1000000) :
    pureCall prog (R prog) f_slices_IndexFunc_api_Room_api_Room [.vslice (l.map encRoom), .func (.func f) [.ptr b 0 0]] H = some (I (Desk.roomI (l.findIdx? (inRoom r)))) := by
  have hs : snap H deep (.func (.func f) [.ptr b 0 0]) = some (.func (.func f) [.vptr r.cells]) := by
    have : snap H 11 (.ptr b 0 0) = some (.vptr r.cells) := by
      rw [snap]
      simp only [hb]
      show (r.cells.mapM (snap H 10)).map AV.vptr = _
      rw [mapM_id (by intro c hc; simp [Ride.cells] at hc; rcases hc with rfl | rfl | rfl | rfl | rfl | rfl | rfl | rfl <;> rfl)]
      rfl
    show ([AV.ptr b 0 0].mapM (snap H 11)).map _ = _
    simp [List.mapM_cons, this]
  refine pure_snap (bs := [.vslice (l.map encRoom), .func (.func f) [.vptr r.cells]]) (mapM2 ((fz_vslice _).1 H) hs) rfl (r_slices_IndexFunc_api_Room_api_Room _ _ _ ?_)
  simp only [SS, List.length_map]
  refine range_yl (n := l.length) (L := fun i H => l_slices_IndexFunc_api_Room_api_Room_0 (.vslice (l.map encRoom)) (.func (.func f) [.vptr r.cells]) (I l.length) (I i) H (fun H2 => some (I (-1), H2)))
    (fun i H' => H' = [] ∧ l.findIdx? (inRoom r) = ((l.drop i).findIdx? (inRoom r)).map (· + i)) ?_ ?_ l.length 0 [] (by omega) ⟨rfl, by simp⟩
  · rintro H' ⟨rfl, h1⟩
    refine l_slices_IndexFunc_api_Room_api_Room_0_s _ _ _ _ _ _ ?_
    simp only [SS]
    rw [if_neg (by omega)]
    refine yl_some.2 ?_
    rw [h1]; simp [Desk.roomI]; exact ⟨rfl, rfl⟩
  · rintro i hi H' ⟨rfl, h1⟩ ih
    refine l_slices_IndexFunc_api_Room_api_Room_0_s _ _ _ _ _ _ ?_
    have he : (l.map encRoom)[i]? = some (encRoom l[i]) := by rw [List.getElem?_map, List.getElem?_eq_getElem hi]; rfl
    rw [List.drop_eq_getElem_cons hi, List.findIdx?_cons] at h1
    generalize l[i] = s at he h1
    simp only [SS]
    rw [if_pos (by omega), index_vslice (sz := 3) he rfl]
    simp only [SS, vl_room]
    rw [callK_pure hm]
    simp only [List.singleton_append, hf, SS]
    cases hb : inRoom r s with
    | false =>
      simp only [hb, SS] at h1 ⊢
      rw [succ64 _ _ (by omega)]
      simp only [SS]
      refine ih [] ⟨rfl, ?_⟩
      rw [h1, Option.map_map]
      congr 1
      funext x; simp; omega
    | true =>
      simp only [hb, SS] at h1 ⊢
      rw [h1]; simp [Desk.roomI]; exact ⟨rfl, rfl⟩

theorem indexRoom_ok {H : Heap} {b : Nat} {r : Ride} (hb : H[b]? = some (.arr 8 [encRide r])) (l : List Room) (hl : l.length < 1000000) :
    pureCall prog (R prog) f_slices_IndexFunc_api_Room_api_Room [.vslice (l.map encRoom), .func (.func f_request_desk_room_1) [.ptr b 0 0]] H = some (I (Desk.roomI (l.findIdx? (inRoom r)))) :=
  indexRoomG (f := f_request_desk_room_1) (by rfl) (fun H x => room1_ok H r x) hb l hl

theorem room_ok {H : Heap} {v : AV} {D : Desk} {rs : List Int} (hv : snap H deep v = some (.vptr (deskC D rs))) (hl : D.rooms.length < 1000000) (r : Ride) : pureCall prog (R prog) f_request_desk_room [v, encRide r] H = some (I (Desk.roomI (D.room r))) := by
  refine pure_snap (bs := [.vptr (deskC D rs), encRide r]) (mapM2 hv ((fz_ride r).1 H)) rfl (r_request_desk_room _ _ _ ?_)
  have h1 : ([Blk.arr 8 [encRide r]] : Heap)[0]? = some (.arr 8 [encRide r]) := rfl
  have k1 : boxAV 8 (encRide r) [] = some (.ptr 0 0 0, [.arr 8 [encRide r]]) := box_ride [] r
  simp only [k1, dv_at _ _ _ (show 1 ≤ 8 by omega), dv_rooms, indexRoom_ok h1 _ hl, SS]
  exact ⟨rfl, rfl⟩

theorem seats_ok {H : Heap} {v : AV} {e : Ent} (hv : snap H deep v = some (.vptr (entC e))) (hf : Fit e.ride) : pureCall prog (R prog) f_request_entry_seats [v] H = some (I e.ride.size) := by
  refine pure_snap (bs := [.vptr (entC e)]) (mapM1 hv) rfl (r_request_entry_seats _ _ ?_)
  have h1 : -1099511627776 ≤ e.st.ride.seats ∧ e.st.ride.seats ≤ 1099511627776 := hf.seats
  have h2 : -1099511627776 ≤ e.st.ride.wheels ∧ e.st.ride.wheels ≤ 1099511627776 := hf.wheels
  simp only [ev_at _ _ (show 6 ≤ 10 by omega), ev_at _ _ (show 7 ≤ 10 by omega), ev_seats, ev_wheels, SS]
  rw [add64 _ _ (by omega) (by omega)]
  simp only [SS]
  exact ⟨rfl, rfl⟩

theorem size_bound {r : Ride} (h : Fit r) : -4398046511104 ≤ r.size ∧ r.size ≤ 4398046511104 := by
  have h1 := h.seats
  have h2 := h.wheels
  unfold Ride.size; omega

structure Neat (D : Desk) : Prop where
  rooms : D.rooms.length < 1000000
  len : D.used.length = D.rooms.length
  used : ∀ n ∈ D.used, -1000000000 ≤ n ∧ n ≤ 1000000000
  fit : ∀ e ∈ D.ents, Fit e.ride
  ents : D.ents.length ≤ 12

theorem used_getD {D : Desk} (h : Neat D) (k : Nat) : -1000000000 ≤ D.used.getD k 0 ∧ D.used.getD k 0 ≤ 1000000000 := by
  rw [List.getD_eq_getElem?_getD]
  cases hk : D.used[k]? with
  | none => simp
  | some n => exact h.used n (List.mem_of_getElem? hk)

theorem getD_get {α : Type} {l : List α} {k : Nat} (h : k < l.length) (x : α) : l[k]? = some (l.getD k x) := by
  rw [List.getD_eq_getElem?_getD, List.getElem?_eq_getElem h]; rfl

theorem fits_ok {H : Heap} {v w : AV} {D : Desk} {rs : List Int} {e : Ent} (hv : snap H deep v = some (.vptr (deskC D rs))) (hw : snap H deep w = some (.vptr (entC e))) (hn : Neat D) (hf : Fit e.ride) :
    pureCall prog (R prog) f_request_desk_fits [v, w] H = some (.bool (D.fits e.ride)) := by
  refine pure_snap (bs := [.vptr (deskC D rs), .vptr (entC e)]) (mapM2 hv hw) rfl (r_request_desk_fits _ _ _ ?_)
  have hr := room_ok (H := []) (v := .vptr (deskC D rs)) (D := D) (rs := rs) rfl hn.rooms e.ride
  have hs := seats_ok (H := []) (v := .vptr (entC e)) rfl hf
  unfold Desk.fits
  cases hk : D.room e.ride with
  | none =>
    have hr' : pureCall prog (R prog) f_request_desk_room [.vptr (deskC D rs), encRide e.st.ride] [] = some (I (-1)) := by rw [hr, hk]; rfl
    simp only [ev_ride, hr', hs, SS]
    rw [if_neg (by omega)]
    exact yl_some.2 ⟨rfl, rfl⟩
  | some k =>
    have hkl : k < D.rooms.length := room_lt hk
    have h1 := used_getD hn k
    have h2 := size_bound hf
    have i1 : (D.used.map I)[k]? = some (I (D.used.getD k 0)) := by rw [List.getElem?_map, getD_get (by rw [hn.len]; exact hkl) 0]; rfl
    have i2 : (D.rooms.map encRoom)[k]? = some (encRoom (D.rooms.getD k nilRoom)) := by rw [List.getElem?_map, getD_get hkl nilRoom]; rfl
    have hr' : pureCall prog (R prog) f_request_desk_room [.vptr (deskC D rs), encRide e.st.ride] [] = some (I (k : Int)) := by rw [hr, hk]; rfl
    simp only [ev_ride, hr', hs, SS]
    rw [if_pos (by omega)]
    simp only [dv_at _ _ _ (show 4 ≤ 8 by omega), dv_at _ _ _ (show 1 ≤ 8 by omega), dv_used, dv_rooms, SS]
    rw [index_vslice (sz := 1) i1 rfl]
    simp only [AV.cells, SS]
    rw [add64 _ _ (by omega) (by omega)]
    simp only [SS]
    rw [index_vslice (sz := 3) i2 rfl]
    simp only [fa_room2, vl_room_seats, SS]
    exact ⟨rfl, rfl⟩

theorem mm_min (a b : Int) : mmAV false [I a, I b] = some (I (min a b)) := by
  simp only [mmAV, List.foldlM_cons, List.foldlM_nil, mm2]
  simp only [if_true, Option.bind_eq_bind, Option.bind_some, Bool.false_eq_true, if_false, Option.pure_def, Option.some.injEq, AV.int.injEq, true_and]
  split <;> omega

theorem nextDue_ok {H : Heap} {v : AV} {D : Desk} {rs : List Int} (hv : snap H deep v = some (.vptr (deskC D rs))) (hn : D.ents.length < 1000000) {t : Int} (h0 : -1000000000000 ≤ t) (h1 : t ≤ 1000000000000) :
    pureCall prog (R prog) f_request_desk_nextDue [v, I t] H = some (.tuple [I (D.nextDue t), .bool (decide (D.nextDue t ≤ t))]) := by
  refine pure_snap (bs := [.vptr (deskC D rs), I t]) (mapM2 hv rfl) rfl (r_request_desk_nextDue _ _ _ ?_)
  rw [add64 _ _ (by omega) (by omega)]
  simp only [dv_at _ _ _ (show 3 ≤ 8 by omega), dv_order, SS, List.length_map]
  have key : ∀ (m : Nat) (i : Nat) (x : Int) (H' : Heap), m + i = D.ents.length → (D.ents.drop i).foldl (fun m e => if e.opn then min m e.ride.due else m) x = D.nextDue t →
      Yl (l_request_desk_nextDue_0 (I t) (I x) (.vslice (D.ents.map fun e => .vptr (entC e))) (I D.ents.length) (I i) H' (fun v1_1 v6 H1 => (binAV H1 .leq (.one .int) v6 v1_1).bind fun v36 => some (.tuple [v6, v36], H1)))
        fun v' H' => snap H' deep v' = some (.tuple [I (D.nextDue t), .bool (decide (D.nextDue t ≤ t))]) ∧ ownOnly H' deep v' = true := by
    intro m
    induction m with
    | zero =>
      intro i x H' hm hx
      refine l_request_desk_nextDue_0_s _ _ _ _ _ _ _ ?_
      simp only [SS]
      rw [if_neg (by omega)]
      rw [List.drop_eq_nil_of_le (by omega)] at hx
      simp only [List.foldl_nil] at hx
      subst hx
      simp only [SS]
      exact ⟨rfl, rfl⟩
    | succ m ih =>
      intro i x H' hm hx
      refine l_request_desk_nextDue_0_s _ _ _ _ _ _ _ ?_
      have hi : i < D.ents.length := by omega
      have he : (D.ents.map fun e => AV.vptr (entC e))[i]? = some (.vptr (entC D.ents[i])) := by rw [List.getElem?_map, List.getElem?_eq_getElem hi]; rfl
      rw [List.drop_eq_getElem_cons hi, List.foldl_cons] at hx
      generalize D.ents[i] = e at he hx
      simp only [SS]
      rw [if_pos (by omega), index_vslice (sz := 1) he rfl]
      simp only [AV.cells, ev_at _ _ (show 10 ≤ 10 by omega), ev_open, ev_at _ _ (show 5 ≤ 10 by omega), ev_due, mm_min, SS]
      rw [succ64 _ _ (by omega)]
      simp only [SS]
      cases ho : e.opn with
      | true =>
        simp only [ho, SS] at hx ⊢
        exact ih (i + 1) _ H' (by omega) hx
      | false =>
        simp only [ho, SS] at hx ⊢
        exact ih (i + 1) _ H' (by omega) hx
  exact key D.ents.length 0 (t + 1) [] (by omega) rfl

theorem byWait_ok {H : Heap} {v w : AV} {a b : Ent} (hv : snap H deep v = some (.vptr (entC a))) (hw : snap H deep w = some (.vptr (entC b))) :
    pureCall prog (R prog) f_request_byWait [v, w] H = some (I (if cmpI a.st.since b.st.since ≠ 0 then cmpI a.st.since b.st.since else cmpS a.ride.id b.ride.id)) := by
  refine pure_snap (bs := [.vptr (entC a), .vptr (entC b)]) (mapM2 hv hw) rfl (r_request_byWait _ _ _ ?_)
  simp only [ev_at _ _ (show 9 ≤ 10 by omega), ev_since, ev_id, compareI_ok, compare_ok, lit2_int', SS]
  rw [or_ok _ (by simp)]
  simp only [SS]
  have : firstE [cmpI a.st.since b.st.since, cmpS a.st.ride.id b.st.ride.id] = if cmpI a.st.since b.st.since ≠ 0 then cmpI a.st.since b.st.since else cmpS a.ride.id b.ride.id := by
    unfold firstE firstE
    split
    · rfl
    · split
      · rfl
      · rename_i h; simp at h; simp [firstE, h]
  rw [this]
  exact ⟨rfl, rfl⟩
end Y
end Go.Proofs.YtplginnkececaaaGreatDoor
