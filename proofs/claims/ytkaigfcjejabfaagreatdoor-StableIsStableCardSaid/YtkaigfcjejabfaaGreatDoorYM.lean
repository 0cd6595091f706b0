/- Maps with strings as keys; how strings are ordered. No condition. -/
import Derived.Test.YtkaigfcjejabfaaGreatDoorYE
import GoSem.Extern.BytealgCompare
set_option linter.unusedSimpArgs false
set_option linter.unusedVariables false
namespace Go.Proofs.YtkaigfcjejabfaaGreatDoor
open Go
namespace Y
open X

abbrev Str := List UInt8
/-- A map as it is laid: keys and values in the order in which they came. -/
abbrev Tab (α : Type) := List (Str × α)

def look {α : Type} (s : Str) : Tab α → Option α
  | [] => none
  | (t, v) :: m => if s = t then some v else look s m

def upd {α : Type} (s : Str) (x : α) : Tab α → Tab α
  | [] => [(s, x)]
  | (t, v) :: m => if s = t then (s, x) :: m else (t, v) :: upd s x m

theorem look_upd {α : Type} (s t : Str) (x : α) (m : Tab α) : look t (upd s x m) = if t = s then some x else look t m := by
  induction m with
  | nil => rfl
  | cons p m ih =>
    obtain ⟨u, v⟩ := p
    simp only [upd]
    by_cases h : s = u
    · subst h
      simp only [if_true, look]
      split <;> rfl
    · simp only [h, if_false, look, ih]
      by_cases hu : t = u
      · subst hu; simp [Ne.symm h]
      · simp [hu]

def tks {α : Type} (m : Tab α) : List AV := m.map fun p => .str p.1
def tvs {α : Type} (f : α → AV) (m : Tab α) : List AV := m.map fun p => f p.2

theorem eqKey_str (s t : Str) : eqKey (.one .str) (.str s) (.str t) = some (decide (s = t)) := by
  simp only [eqKey, eqCell, Option.some.injEq]
  cases hd : decide (s = t) <;> simp_all

theorem find_str {α : Type} (f : α → AV) (s : Str) (m : Tab α) : find (.one .str) (.str s) (tks m) (tvs f m) = some ((look s m).map f) := by
  induction m with
  | nil => rfl
  | cons p m ih =>
    obtain ⟨t, v⟩ := p
    simp only [tks, tvs, List.map_cons, find, eqKey_str]
    by_cases h : s = t
    · simp [h, look]
    · simp only [h, decide_false, look, if_false]; exact ih

theorem setKey_str {α : Type} (f : α → AV) (s : Str) (x : α) (m : Tab α) : setKey (.one .str) (.str s) (f x) (tks m) (tvs f m) = some (tks (upd s x m), tvs f (upd s x m)) := by
  induction m with
  | nil => rfl
  | cons p m ih =>
    obtain ⟨t, v⟩ := p
    simp only [tks, tvs, List.map_cons, setKey, eqKey_str, upd]
    by_cases h : s = t
    · simp [h]
    · simp only [h, decide_false, if_false]
      have := ih
      simp only [tks, tvs] at this
      simp [this]

theorem lookup_vmap {α : Type} (H : Heap) (f : α → AV) (zero : AV) (s : Str) (m : Tab α) : lookupAV H (.one .str) zero false (.vmap (tks m) (tvs f m)) (.str s) = some (((look s m).map f).getD zero) := by
  simp [lookupAV, keyOk, find_str]
theorem lookup_map {α : Type} {H : Heap} {b : Nat} (f : α → AV) (zero : AV) (s : Str) {m : Tab α} (hb : H[b]? = some (.map (tks m) (tvs f m))) : lookupAV H (.one .str) zero false (.map b) (.str s) = some (((look s m).map f).getD zero) := by
  simp [lookupAV, keyOk, find_str, hb]
theorem lookup_vmap_ok {α : Type} (H : Heap) (f : α → AV) (zero : AV) (s : Str) (m : Tab α) : lookupAV H (.one .str) zero true (.vmap (tks m) (tvs f m)) (.str s) = some (.tuple [((look s m).map f).getD zero, .bool (look s m).isSome]) := by
  simp [lookupAV, keyOk, find_str]
theorem lookup_map_ok {α : Type} {H : Heap} {b : Nat} (f : α → AV) (zero : AV) (s : Str) {m : Tab α} (hb : H[b]? = some (.map (tks m) (tvs f m))) : lookupAV H (.one .str) zero true (.map b) (.str s) = some (.tuple [((look s m).map f).getD zero, .bool (look s m).isSome]) := by
  simp [lookupAV, keyOk, find_str, hb]
theorem update_map {α : Type} {H : Heap} {b : Nat} (f : α → AV) (s : Str) (x : α) {m : Tab α} (hb : H[b]? = some (.map (tks m) (tvs f m))) : mapUpdateAV H (.one .str) (.map b) (.str s) (f x) = some (H.set b (.map (tks (upd s x m)) (tvs f (upd s x m)))) := by
  simp [mapUpdateAV, hb, keyOk, setKey_str]
theorem newMap_ok (H : Heap) : newMapAV H = some (.map H.length, H ++ [.map [] []]) := (rfl)

/-! ### strings in order -/

abbrev lt (s t : Str) : Bool := Op.bytesLess s t

/-- -1, 0 or 1. -/
def cmpS (s t : Str) : Int := if lt s t then -1 else if s = t then 0 else 1

theorem lt_irrefl : ∀ s : Str, lt s s = false
  | [] => rfl
  | a :: s => by simp [lt, Op.bytesLess, lt_irrefl s]

theorem lt_trans : ∀ {s t u : Str}, lt s t = true → lt t u = true → lt s u = true
  | [], t, [], h, h' => by cases t <;> simp [Op.bytesLess] at h h'
  | [], _, _ :: _, _, _ => rfl
  | a :: s, [], u, h, _ => by simp [Op.bytesLess] at h
  | a :: s, b :: t, [], _, h' => by simp [Op.bytesLess] at h'
  | a :: s, b :: t, c :: u, h, h' => by
    simp only [lt, Op.bytesLess, Bool.or_eq_true, decide_eq_true_eq, Bool.and_eq_true, beq_iff_eq] at h h' ⊢
    rcases h with h | ⟨rfl, h⟩
    · rcases h' with h' | ⟨rfl, h'⟩
      · exact .inl (UInt8.lt_trans h h')
      · exact .inl h
    · rcases h' with h' | ⟨rfl, h'⟩
      · exact .inl h'
      · exact .inr ⟨rfl, lt_trans h h'⟩

theorem lt_total : ∀ (s t : Str), lt s t = true ∨ s = t ∨ lt t s = true
  | [], [] => .inr (.inl rfl)
  | [], _ :: _ => .inl rfl
  | _ :: _, [] => .inr (.inr rfl)
  | a :: s, b :: t => by
    simp only [lt, Op.bytesLess, Bool.or_eq_true, decide_eq_true_eq, Bool.and_eq_true, beq_iff_eq, List.cons.injEq]
    rcases UInt8.lt_or_lt_of_ne (a := a) (b := b) |> fun h => (Classical.em (a = b)).symm.imp h id with (h | h) | rfl
    · exact .inl (.inl h)
    · exact .inr (.inr (.inl h))
    · rcases lt_total s t with h | rfl | h
      · exact .inl (.inr ⟨rfl, h⟩)
      · exact .inr (.inl ⟨rfl, rfl⟩)
      · exact .inr (.inr (.inr ⟨rfl, h⟩))

theorem lt_asymm {s t : Str} (h : lt s t = true) : lt t s = false := by
  cases h' : lt t s with
  | false => rfl
  | true => have := lt_trans h h'; rw [lt_irrefl] at this; cases this

theorem lt_ne {s t : Str} (h : lt s t = true) : s ≠ t := by
  rintro rfl; rw [lt_irrefl] at h; cases h

theorem cmpS_neg {s t : Str} : cmpS s t < 0 ↔ lt s t = true := by
  unfold cmpS; split
  · simp_all
  · split <;> simp_all

theorem cmp_cons (a b : UInt8) (s t : Str) : Extern.BytealgCompare.cmp ⟨(a :: s).toArray⟩ ⟨(b :: t).toArray⟩ = if a < b then -1 else if a = b then Extern.BytealgCompare.cmp ⟨s.toArray⟩ ⟨t.toArray⟩ else 1 := by
  have get : ∀ (l : List UInt8) (i : Nat), (ByteArray.mk l.toArray)[i]! = l.getD i 0 := by
    intro l i
    by_cases h : i < l.length
    · rw [getElem!_pos (ByteArray.mk l.toArray) i (by simpa [ByteArray.size] using h)]
      rw [List.getD_eq_getElem?_getD, List.getElem?_eq_getElem h]
      rfl
    · rw [getElem!_neg (ByteArray.mk l.toArray) i (by simpa [ByteArray.size] using h)]
      rw [List.getD_eq_getElem?_getD, List.getElem?_eq_none (by omega)]
      rfl
  have sz : ∀ l : List UInt8, (ByteArray.mk l.toArray).size = l.length := fun l => by simp [ByteArray.size]
  unfold Extern.BytealgCompare.cmp
  simp only [sz, get, List.length_cons]
  rw [show min (s.length + 1) (t.length + 1) = min s.length t.length + 1 by omega, List.range_succ_eq_map, List.find?_cons]
  simp only [List.getD_cons_zero]
  by_cases hab : a = b
  · subst hab
    simp only [bne_self_eq_false, List.find?_map, UInt8.lt_irrefl, if_false, if_true]
    have : ((fun i => (a :: s).getD i 0 != (a :: t).getD i 0) ∘ Nat.succ) = fun i => s.getD i 0 != t.getD i 0 := by
      funext i; simp
    rw [this]
    cases List.find? (fun i => s.getD i 0 != t.getD i 0) (List.range (min s.length t.length)) with
    | none => simp
    | some i => simp
  · have : (a != b) = true := by simpa using hab
    simp only [this, hab, if_false, List.getD_cons_zero]

theorem bsz (l : List UInt8) : (ByteArray.mk l.toArray).size = l.length := by simp [ByteArray.size]

theorem cmp_eq : ∀ (s t : Str), Extern.BytealgCompare.cmp ⟨s.toArray⟩ ⟨t.toArray⟩ = cmpS s t
  | [], [] => rfl
  | [], b :: t => by
    have : Extern.BytealgCompare.cmp ⟨([] : List UInt8).toArray⟩ ⟨(b :: t).toArray⟩ = -1 := by
      unfold Extern.BytealgCompare.cmp
      simp only [bsz, List.length_nil, List.length_cons, Nat.zero_min, List.range_zero, List.find?_nil]
      rw [if_pos (by omega)]
    rw [this]; rfl
  | a :: s, [] => by
    have : Extern.BytealgCompare.cmp ⟨(a :: s).toArray⟩ ⟨([] : List UInt8).toArray⟩ = 1 := by
      unfold Extern.BytealgCompare.cmp
      simp only [bsz, List.length_nil, List.length_cons, Nat.min_zero, List.range_zero, List.find?_nil]
      rw [if_neg (by omega), if_pos (by omega)]
    rw [this]; simp [cmpS, Op.bytesLess]
  | a :: s, b :: t => by
    rw [cmp_cons, cmp_eq s t]
    unfold cmpS
    simp only [Op.bytesLess, Bool.or_eq_true, decide_eq_true_eq, Bool.and_eq_true, beq_iff_eq, List.cons.injEq]
    by_cases h : a < b
    · simp [h]
    · by_cases hab : a = b
      · subst hab; simp [UInt8.lt_irrefl]
      · simp [h, hab]
end Y
end Go.Proofs.YtkaigfcjejabfaaGreatDoor
