/- Maps with strings as keys; how strings are ordered. Rides, asks, riders and rooms: how they are laid, and what is wrong with them. No condition. -/
import Derived.Test.YtplginnkececaaaGreatDoorZYE
import GoSem.Extern.BytealgCompare
set_option linter.unusedSimpArgs false
set_option linter.unusedVariables false
namespace Go.Proofs.YtplginnkececaaaGreatDoor
open Go
namespace Y
open X

abbrev Str := List UInt8
/-- A map as it is laid: keys and values in the order in which they came. -/
abbrev Tab (α : Type) := List (Str × α)

def look {α : Type} (s : Str) : Tab α → Option α
  | [] => none
  | (t, v) :: m => if s = t then some v else look s m

def upd {α : Type} (s : Str) (x : α) : Tab α → Tab α
  | [] => [(s, x)]
  | (t, v) :: m => if s = t then (s, x) :: m else (t, v) :: upd s x m

theorem look_upd {α : Type} (s t : Str) (x : α) (m : Tab α) : look t (upd s x m) = if t = s then some x else look t m := by
  induction m with
  | nil => rfl
  | cons p m ih =>
    obtain ⟨u, v⟩ := p
    simp only [upd]
    by_cases h : s = u
    · subst h
      simp only [if_true, look]
      split <;> rfl
    · simp only [h, if_false, look, ih]
      by_cases hu : t = u
      · subst hu; simp [Ne.symm h]
      · simp [hu]

def tks {α : Type} (m : Tab α) : List AV := m.map fun p => .str p.1
def tvs {α : Type} (f : α → AV) (m : Tab α) : List AV := m.map fun p => f p.2

theorem eqKey_str (s t : Str) : eqKey (.one .str) (.str s) (.str t) = some (decide (s = t)) := by
  simp only [eqKey, eqCell, Option.some.injEq]
  cases hd : decide (s = t) <;> simp_all

theorem find_str {α : Type} (f : α → AV) (s : Str) (m : Tab α) : find (.one .str) (.str s) (tks m) (tvs f m) = some ((look s m).map f) := by
  induction m with
  | nil => rfl
  | cons p m ih =>
    obtain ⟨t, v⟩ := p
    simp only [tks, tvs, List.map_cons, find, eqKey_str]
    by_cases h : s = t
    · simp [h, look]
    · simp only [h, decide_false, look, if_false]; exact ih

theorem setKey_str {α : Type} (f : α → AV) (s : Str) (x : α) (m : Tab α) : setKey (.one .str) (.str s) (f x) (tks m) (tvs f m) = some (tks (upd s x m), tvs f (upd s x m)) := by
  induction m with
  | nil => rfl
  | cons p m ih =>
    obtain ⟨t, v⟩ := p
    simp only [tks, tvs, List.map_cons, setKey, eqKey_str, upd]
    by_cases h : s = t
    · simp [h]
    · simp only [h, decide_false, if_false]
      have := ih
      simp only [tks, tvs] at this
      simp [this]

theorem lookup_vmap {α : Type} (H : Heap) (f : α → AV) (zero : AV) (s : Str) (m : Tab α) : lookupAV H (.one .str) zero false (.vmap (tks m) (tvs f m)) (.str s) = some (((look s m).map f).getD zero) := by
  simp [lookupAV, keyOk, find_str]
theorem lookup_map {α : Type} {H : Heap} {b : Nat} (f : α → AV) (zero : AV) (s : Str) {m : Tab α} (hb : H[b]? = some (.map (tks m) (tvs f m))) : lookupAV H (.one .str) zero false (.map b) (.str s) = some (((look s m).map f).getD zero) := by
  simp [lookupAV, keyOk, find_str, hb]
theorem lookup_vmap_ok {α : Type} (H : Heap) (f : α → AV) (zero : AV) (s : Str) (m : Tab α) : lookupAV H (.one .str) zero true (.vmap (tks m) (tvs f m)) (.str s) = some (.tuple [((look s m).map f).getD zero, .bool (look s m).isSome]) := by
  simp [lookupAV, keyOk, find_str]
theorem lookup_map_ok {α : Type} {H : Heap} {b : Nat} (f : α → AV) (zero : AV) (s : Str) {m : Tab α} (hb : H[b]? = some (.map (tks m) (tvs f m))) : lookupAV H (.one .str) zero true (.map b) (.str s) = some (.tuple [((look s m).map f).getD zero, .bool (look s m).isSome]) := by
  simp [lookupAV, keyOk, find_str, hb]
theorem update_map {α : Type} {H : Heap} {b : Nat} (f : α → AV) (s : Str) (x : α) {m : Tab α} (hb : H[b]? = some (.map (tks m) (tvs f m))) : mapUpdateAV H (.one .str) (.map b) (.str s) (f x) = some (H.set b (.map (tks (upd s x m)) (tvs f (upd s x m)))) := by
  simp [mapUpdateAV, hb, keyOk, setKey_str]
theorem newMap_ok (H : Heap) : newMapAV H = some (.map H.length, H ++ [.map [] []]) := (rfl)

/-! ### strings in order -/

abbrev lt (s t : Str) : Bool := Op.bytesLess s t

/-- -1, 0 or 1. -/
def cmpS (s t : Str) : Int := if lt s t then -1 else if s = t then 0 else 1

theorem lt_irrefl : ∀ s : Str, lt s s = false
  | [] => rfl
  | a :: s => by simp [lt, Op.bytesLess, lt_irrefl s]

theorem lt_trans : ∀ {s t u : Str}, lt s t = true → lt t u = true → lt s u = true
  | [], t, [], h, h' => by cases t <;> simp [Op.bytesLess] at h h'
  | [], _, _ :: _, _, _ => rfl
  | a :: s, [], u, h, _ => by simp [Op.bytesLess] at h
  | a :: s, b :: t, [], _, h' => by simp [Op.bytesLess] at h'
  | a :: s, b :: t, c :: u, h, h' => by
    simp only [lt, Op.bytesLess, Bool.or_eq_true, decide_eq_true_eq, Bool.and_eq_true, beq_iff_eq] at h h' ⊢
    rcases h with h | ⟨rfl, h⟩
    · rcases h' with h' | ⟨rfl, h'⟩
      · exact .inl (UInt8.lt_trans h h')
      · exact .inl h
    · rcases h' with h' | ⟨rfl, h'⟩
      · exact .inl h'
      · exact .inr ⟨rfl, lt_trans h h'⟩

theorem lt_total : ∀ (s t : Str), lt s t = true ∨ s = t ∨ lt t s = true
  | [], [] => .inr (.inl rfl)
  | [], _ :: _ => .inl rfl
  | _ :: _, [] => .inr (.inr rfl)
  | a :: s, b :: t => by
    simp only [lt, Op.bytesLess, Bool.or_eq_true, decide_eq_true_eq, Bool.and_eq_true, beq_iff_eq, List.cons.injEq]
    rcases UInt8.lt_or_lt_of_ne (a := a) (b := b) |> fun h => (Classical.em (a = b)).symm.imp h id with (h | h) | rfl
    · exact .inl (.inl h)
    · exact .inr (.inr (.inl h))
    · rcases lt_total s t with h | rfl | h
      · exact .inl (.inr ⟨rfl, h⟩)
      · exact .inr (.inl ⟨rfl, rfl⟩)
      · exact .inr (.inr (.inr ⟨rfl, h⟩))

theorem lt_asymm {s t : Str} (h : lt s t = true) : lt t s = false := by
  cases h' : lt t s with
  | false => rfl
  | true => have := lt_trans h h'; rw [lt_irrefl] at this; cases this

theorem lt_ne {s t : Str} (h : lt s t = true) : s ≠ t := by
  rintro rfl; rw [lt_irrefl] at h; cases h

theorem cmpS_neg {s t : Str} : cmpS s t < 0 ↔ lt s t = true := by
  unfold cmpS; split
  · simp_all
  · split <;> simp_all

theorem cmp_cons (a b : UInt8) (s t : Str) : Extern.BytealgCompare.cmp ⟨(a :: s).toArray⟩ ⟨(b :: t).toArray⟩ = if a < b then -1 else if a = b then Extern.BytealgCompare.cmp ⟨s.toArray⟩ ⟨t.toArray⟩ else 1 := by
  have get : ∀ (l : List UInt8) (i : Nat), (ByteArray.mk l.toArray)[i]! = l.getD i 0 := by
    intro l i
    by_cases h : i < l.length
    · rw [getElem!_pos (ByteArray.mk l.toArray) i (by simpa [ByteArray.size] using h)]
      rw [List.getD_eq_getElem?_getD, List.getElem?_eq_getElem h]
      rfl
    · rw [getElem!_neg (ByteArray.mk l.toArray) i (by simpa [ByteArray.size] using h)]
      rw [List.getD_eq_getElem?_getD, List.getElem?_eq_none (by omega)]
      rfl
  have sz : ∀ l : List UInt8, (ByteArray.mk l.toArray).size = l.length := fun l => by simp [ByteArray.size]
  unfold Extern.BytealgCompare.cmp
  simp only [sz, get, List.length_cons]
  rw [show min (s.length + 1) (t.length + 1) = min s.length t.length + 1 by omega, List.range_succ_eq_map, List.find?_cons]
  simp only [List.getD_cons_zero]
  by_cases hab : a = b
  · subst hab
    simp only [bne_self_eq_false, List.find?_map, UInt8.lt_irrefl, if_false, if_true]
    have : ((fun i => (a :: s).getD i 0 != (a :: t).getD i 0) ∘ Nat.succ) = fun i => s.getD i 0 != t.getD i 0 := by
      funext i; simp
    rw [this]
    cases List.find? (fun i => s.getD i 0 != t.getD i 0) (List.range (min s.length t.length)) with
    | none => simp
    | some i => simp
  · have : (a != b) = true := by simpa using hab
    simp only [this, hab, if_false, List.getD_cons_zero]

theorem bsz (l : List UInt8) : (ByteArray.mk l.toArray).size = l.length := by simp [ByteArray.size]

theorem cmp_eq : ∀ (s t : Str), Extern.BytealgCompare.cmp ⟨s.toArray⟩ ⟨t.toArray⟩ = cmpS s t
  | [], [] => rfl
  | [], b :: t => by
    have : Extern.BytealgCompare.cmp ⟨([] : List UInt8).toArray⟩ ⟨(b :: t).toArray⟩ = -1 := by
      unfold Extern.BytealgCompare.cmp
      simp only [bsz, List.length_nil, List.length_cons, Nat.zero_min, List.range_zero, List.find?_nil]
      rw [if_pos (by omega)]
    rw [this]; rfl
  | a :: s, [] => by
    have : Extern.BytealgCompare.cmp ⟨(a :: s).toArray⟩ ⟨([] : List UInt8).toArray⟩ = 1 := by
      unfold Extern.BytealgCompare.cmp
      simp only [bsz, List.length_nil, List.length_cons, Nat.min_zero, List.range_zero, List.find?_nil]
      rw [if_neg (by omega), if_pos (by omega)]
    rw [this]; simp [cmpS, Op.bytesLess]
  | a :: s, b :: t => by
    rw [cmp_cons, cmp_eq s t]
    unfold cmpS
    simp only [Op.bytesLess, Bool.or_eq_true, decide_eq_true_eq, Bool.and_eq_true, beq_iff_eq, List.cons.injEq]
    by_cases h : a < b
    · simp [h]
    · by_cases hab : a = b
      · subst hab; simp [UInt8.lt_irrefl]
      · simp [h, hab]
end Y
end Go.Proofs.YtplginnkececaaaGreatDoor

set_option linter.unusedSimpArgs false
set_option linter.unusedVariables false
namespace Go.Proofs.YtplginnkececaaaGreatDoor
open Go
namespace Y
open X

structure Ride where
  id : Str
  rider : Str
  frm : Str
  to : Str
  ready : Int
  due : Int
  seats : Int
  wheels : Int
  deriving DecidableEq

structure Ask where
  at' : Int
  kind : Int
  ride : Ride
  deriving DecidableEq

structure Standing where
  ride : Ride
  state : Int
  since : Int
  deriving DecidableEq

structure Rider where
  key : Str
  opn : Int
  seats : Int
  deriving DecidableEq

structure Room where
  frm : Int
  to : Int
  seats : Int
  deriving DecidableEq

def Ride.cells (r : Ride) : List AV := [.str r.id, .str r.rider, .str r.frm, .str r.to, .int .i64 r.ready, .int .i64 r.due, .int .i64 r.seats, .int .i64 r.wheels]
def encRide (r : Ride) : AV := .agg r.cells
def encAsk (a : Ask) : AV := .agg ([.int .i64 a.at', .int .i64 a.kind] ++ a.ride.cells)
def encSt (s : Standing) : AV := .agg (s.ride.cells ++ [.int .i64 s.state, .int .i64 s.since])
def encRider (r : Rider) : AV := .agg [.str r.key, .int .i64 r.opn, .int .i64 r.seats]
def encRoom (r : Room) : AV := .agg [.int .i64 r.frm, .int .i64 r.to, .int .i64 r.seats]

/-- A byte of a key. -/
def keyByte (c : UInt8) : Bool := (decide (97 ≤ c.toNat) && decide (c.toNat ≤ 122)) || (decide (48 ≤ c.toNat) && decide (c.toNat ≤ 57)) || decide (c.toNat = 45) || decide (c.toNat = 95)

def isKey (s : Str) : Bool :=
  match s with
  | [] => false
  | c :: _ => decide (s.length ≤ 40) && (decide (97 ≤ c.toNat) && decide (c.toNat ≤ 122)) && s.all keyByte

/-- Not from low to high. -/
def out (n low high : Int) : Bool := decide (n < low) || decide (high < n)
def endT : Int := 345686400000
def moment (n : Int) : Bool := !out n 0 (endT - 1)

/-- The number's a machine's, and far from its bounds. -/
def Small (n : Int) : Prop := -1125899906842624 ≤ n ∧ n ≤ 1125899906842624

def rideFault (r : Ride) : Int :=
  if !(isKey r.id && isKey r.rider && isKey r.frm && isKey r.to) then 5
  else if r.frm = r.to then 6
  else if !moment r.ready || out r.due (r.ready + 1) endT || out r.seats 0 60 || out r.wheels 0 60 then 1
  else if r.seats + r.wheels = 0 then 3 else 0

def onlyWho (r : Ride) : Ride := ⟨r.id, r.rider, [], [], 0, 0, 0, 0⟩

def askFault (a : Ask) : Int :=
  if !moment a.at' then 1
  else if out a.kind 1 4 then 4
  else if a.kind = 1 ∨ a.kind = 2 then rideFault a.ride
  else if !(isKey a.ride.id && isKey a.ride.rider) then 5
  else if a.ride ≠ onlyWho a.ride then 3 else 0

/-- -1, 0 or 1. -/
def cmpI (a b : Int) : Int := if a < b then -1 else if b < a then 1 else 0

def byAsk (a b : Ask) : Int := if cmpI a.at' b.at' ≠ 0 then cmpI a.at' b.at' else if cmpS a.ride.id b.ride.id ≠ 0 then cmpS a.ride.id b.ride.id else cmpI a.kind b.kind

def asksGo : Option Ask → List Ask → Int
  | _, [] => 0
  | p, a :: l => if askFault a ≠ 0 then askFault a else if (match p with | some q => decide (byAsk a q ≤ 0) | none => false) then 7 else asksGo (some a) l

def asksFault (l : List Ask) : Int := if 2000 < l.length then 2 else asksGo none l

def ridersGo : Option Rider → List Rider → Int
  | _, [] => 0
  | p, r :: l =>
    if !isKey r.key then 5
    else if (match p with | some q => !lt q.key r.key | none => false) then 7
    else if out r.opn 0 1000 || out r.seats 0 120 then 1
    else ridersGo (some r) l

def ridersFault (l : List Rider) : Int := if 500 < l.length then 2 else ridersGo none l

def roomsGo : Option Room → List Room → Int
  | _, [] => 0
  | p, r :: l =>
    if out r.frm 0 endT || decide (r.to ≤ r.frm) || decide (endT < r.to) || out r.seats 0 1000000 then 1
    else if (match p with | some q => decide (r.frm < q.to) | none => false) then 7
    else roomsGo (some r) l

def roomsFault (l : List Room) : Int := if 200 < l.length then 2 else roomsGo none l
end Y
end Go.Proofs.YtplginnkececaaaGreatDoor
