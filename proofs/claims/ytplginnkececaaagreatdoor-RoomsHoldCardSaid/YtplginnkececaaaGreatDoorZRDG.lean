/- Sorting by insertion of elements int: what the library's functions compute. Neighbours that are alike: what slices.Compact keeps; parts of a block. Neighbours that are alike are left out: Compact_int_int. The desk: rides that are over. The desk: what a rider is permitted. The desk: an ask is followed. No condition. -/
import Derived.Test.YtplginnkececaaaGreatDoorZRI
import Derived.Test.YtplginnkececaaaGreatDoorZRA
import Derived.Test.YtplginnkececaaaGreatDoorZRDD
set_option linter.unusedSimpArgs false
set_option linter.unusedVariables false
namespace Go.Proofs.YtplginnkececaaaGreatDoor
open Go
namespace Y
open X

theorem less_ok (a b : Int) (H : Heap) : pureCall prog (R prog) f_cmp_Less_int [I a, I b] H = some (.bool (decide (cmpI a b < 0))) := by
  have hn : ∀ (n : Int) H, pureCall prog (R prog) f_cmp_isNaN_int [I n] H = some (.bool false) := fun n H =>
    pure_fz (by simp [fz_int]) rfl (r_cmp_isNaN_int _ _ (by simp only [SS, ne_eq, not_true_eq_false, decide_false]; rfl))
  refine pure_fz (by simp [fz_int]) rfl (r_cmp_Less_int _ _ _ ?_)
  simp only [hn, SS]
  have : decide (cmpI a b < 0) = decide (a < b) := by
    unfold cmpI
    by_cases h : a < b
    · simp [h]
    · by_cases h' : b < a <;> simp [h, h']
  rw [this]
  rfl

section
variable {v : AV} {P : Heap → Prop}

theorem insIn_int (hP : Steady P v) {i : AV} {n : AV} {k2 : AV → AV → AV → AV → Heap → Option (AV × Heap)} {Q : AV → Heap → Prop} (r : List Int) :
    ∀ (x : Int) (s t : List Int) (H : Heap), (r.length + s.length + t.length < 1000000) → (∀ a ∈ x :: r, True) → P H → Own H 1 v ((r.reverse ++ x :: s ++ t).map I) →
    (∀ H', P H' → Own H' 1 v ((sink cmpI r x s ++ t).map I) → Keeps H H' v v → H'.length = H.length → Yl (k2 v (I 0) n i H') Q) → Yl (l_slices_insertionSortOrdered_int_0 v (I 0) n i (I r.length) H k2) Q := by
  induction r with
  | nil =>
    intro x s t H hl hA hp ho hk
    refine l_slices_insertionSortOrdered_int_0_s _ _ _ _ _ _ _ ?_
    simp only [SS, List.length_nil]
    rw [if_neg (by omega)]
    exact hk H hp (by simpa [sink] using ho) (.refl _ _) rfl
  | cons y r ih =>
    intro x s t H hl hA hp ho hk
    refine l_slices_insertionSortOrdered_int_0_s _ _ _ _ _ _ _ ?_
    have he : (y :: r).reverse ++ x :: s ++ t = r.reverse ++ y :: x :: (s ++ t) := by simp
    rw [he] at ho
    have hlen : (r.reverse ++ y :: x :: (s ++ t)).length = r.length + (s.length + t.length) + 2 := by simp; omega
    have g1 : (r.reverse ++ y :: x :: (s ++ t))[r.length + 1]'(by omega) = x := by simp [List.getElem_append_right]
    have g0 : (r.reverse ++ y :: x :: (s ++ t))[r.length]'(by omega) = y := by simp [List.getElem_append_right]
    obtain ⟨p1, e1, e2⟩ := ho.loadL lay_int (i := r.length + 1) (by omega)
    obtain ⟨p0, e3, e4⟩ := ho.loadL lay_int (i := r.length) (by omega)
    simp only [List.length_cons] at hl
    simp only [SS, List.length_cons]
    rw [if_pos (by omega)]
    simp only [e1, e2, SS]
    rw [pred64 _ _ (by omega) (by omega)]
    simp only [e3, e4, SS, Nat.add_sub_cancel, g0, g1]
    rw [less_ok x y H]
    simp only [SS]
    by_cases hlt : cmpI x y < 0
    · rw [if_pos hlt]
      obtain ⟨q1, H1, f1, f2, o1, k1, l1⟩ := ho.storeL lay_int (i := r.length + 1) (by omega) y
      obtain ⟨q0, H2, f3, f4, o2, k2', l2⟩ := o1.storeL lay_int (i := r.length) (by rw [List.length_set]; omega) x
      rw [show p1 = q1 by rw [e1] at f1; exact Option.some.inj f1]
      simp only [f2, f3, f4, SS]
      rw [pred64 _ _ (by omega) (by omega)]
      simp only [SS, Nat.add_sub_cancel]
      have hset : ((r.reverse ++ y :: x :: (s ++ t)).set (r.length + 1) y).set r.length x = r.reverse ++ x :: (y :: s) ++ t := by
        have := swap_at r.reverse y x (s ++ t)
        rw [List.length_reverse] at this
        rw [this]; simp
      rw [hset] at o2
      refine ih x (y :: s) t H2 (by simp; omega) (fun a ha => hA a (by simp at ha ⊢; rcases ha with h | h <;> simp [h])) (hP _ _ (hP _ _ hp k1 l1) k2' l2) o2 fun H' hp' o' kp ll => ?_
      refine hk H' hp' ?_ ((k1.trans k2').trans kp) (by omega)
      simpa [sink, hlt] using o'
    · rw [if_neg hlt]
      refine hk H hp ?_ (.refl _ _) rfl
      simp only [sink, hlt, if_false]
      simpa using ho

theorem insOut_int (hP : Steady P v) {k0 : Heap → Option (AV × Heap)} {Q : AV → Heap → Prop} (t : List Int) :
    ∀ (d : List Int) (H : Heap), d.length + t.length < 1000000 → (∀ a ∈ d ++ t, True) → P H → Own H 1 v ((d ++ t).map I) → (∀ H', P H' → Own H' 1 v ((sortGo cmpI d t).map I) → Keeps H H' v v → H'.length = H.length → Yl (k0 H') Q) →
    Yl (l_slices_insertionSortOrdered_int_1 v (I 0) (I ((d.length + t.length : Nat) : Int)) (I d.length) H k0) Q := by
  induction t with
  | nil =>
    intro d H hl hA hp ho hk
    refine l_slices_insertionSortOrdered_int_1_s _ _ _ _ _ _ ?_
    simp only [SS, List.length_nil]
    rw [if_neg (by omega)]
    exact hk H hp (by simpa [sortGo] using ho) (.refl _ _) rfl
  | cons x t ih =>
    intro d H hl hA hp ho hk
    refine l_slices_insertionSortOrdered_int_1_s _ _ _ _ _ _ ?_
    simp only [List.length_cons] at hl ⊢
    simp only [SS]
    rw [if_pos (by omega)]
    have := insIn_int (v := v) hP (i := I d.length) (n := I ((d.length + (t.length + 1) : Nat) : Int)) (k2 := fun v0_1 v1_1 v2_1 v8_1 H4 =>
      (binAV H4 .add (.one .int) v8_1 (.int .i64 1)).bind fun v16 => l_slices_insertionSortOrdered_int_1 v0_1 v1_1 v2_1 v16 H4 k0) (Q := Q) d.reverse x [] t H (by simp; omega) (fun a ha => hA a (by simp at ha ⊢; rcases ha with h | h <;> simp [h])) hp (by simpa using ho) (fun H' hp' o' kp ll => by
        rw [succ64 _ _ (by omega)]
        simp only [SS]
        have hsl : (sink cmpI d.reverse x []).length = d.length + 1 := by rw [sink_len]; simp
        have hm : ∀ a ∈ sink cmpI d.reverse x [] ++ t, True := by
          intro a ha
          refine hA a ?_
          rcases List.mem_append.1 ha with h | h
          · have := (sink_perm cmpI d.reverse x []).subset h
            simp at this
            rcases this with h | h <;> simp [h]
          · simp [h]
        have := ih (sink cmpI d.reverse x []) H' (by omega) hm hp' o' fun H'' hp'' o'' kp' ll' => hk H'' hp'' o'' (kp.trans kp') (by omega)
        rw [hsl, show d.length + 1 + t.length = d.length + (t.length + 1) by omega] at this
        exact this)
    rw [List.length_reverse] at this
    exact this

theorem ins_int (hP : Steady P v) {l : List Int} (hl : l.length < 1000000) (hA : ∀ a ∈ l, True) {H : Heap} (hp : P H) (ho : Own H 1 v (l.map I)) :
    ∃ H', R prog f_slices_insertionSortOrdered_int [v, I 0, I l.length] H = some (.tuple [], H') ∧ P H' ∧ Own H' 1 v ((sortI cmpI l).map I) ∧ Keeps H H' v v ∧ H'.length = H.length := by
  suffices h : Yl (R prog f_slices_insertionSortOrdered_int [v, I 0, I l.length] H) fun r H' => r = .tuple [] ∧ P H' ∧ Own H' 1 v ((sortI cmpI l).map I) ∧ Keeps H H' v v ∧ H'.length = H.length by
    obtain ⟨r, H', h1, rfl, h2⟩ := h
    exact ⟨H', h1, h2⟩
  refine r_slices_insertionSortOrdered_int _ _ _ _ ?_
  rw [add64 _ _ (by omega) (by omega)]
  simp only [SS]
  cases l with
  | nil =>
    refine l_slices_insertionSortOrdered_int_1_s _ _ _ _ _ _ ?_
    simp only [SS, List.length_nil]
    rw [if_neg (by omega)]
    exact yl_some.2 ⟨rfl, hp, ho, .refl _ _, rfl⟩
  | cons x l =>
    have := insOut_int (v := v) hP (k0 := fun H5 => some (.tuple [], H5)) (Q := fun r H' => r = .tuple [] ∧ P H' ∧ Own H' 1 v ((sortI cmpI (x :: l)).map I) ∧ Keeps H H' v v ∧ H'.length = H.length) l [x] H (by simp at hl ⊢; omega) (fun _ _ => trivial) hp ho (fun H' hp o k ll => yl_some.2 ⟨rfl, hp, o, k, ll⟩)
    simpa [Nat.add_comm] using this

theorem sortInt {l : List Int} {P : Heap → Prop} (hP : Steady P v) (hl : l.length ≤ 12) {H : Heap} (hp : P H) (ho : Own H 1 v (l.map I)) :
    ∃ H', R prog f_slices_Sort_int_int [v] H = some (.tuple [], H') ∧ P H' ∧ Own H' 1 v ((sortI cmpI l).map I) ∧ Keeps H H' v v ∧ H'.length = H.length := by
  suffices h : Yl (R prog f_slices_Sort_int_int [v] H) fun r H' => r = .tuple [] ∧ P H' ∧ Own H' 1 v ((sortI cmpI l).map I) ∧ Keeps H H' v v ∧ H'.length = H.length by
    obtain ⟨r, H', h1, rfl, h2⟩ := h
    exact ⟨H', h1, h2⟩
  refine r_slices_Sort_int_int _ _ ?_
  have hlen : lenX H .slice v = some (I l.length) := by rw [ho.len]; simp
  obtain ⟨k, hb⟩ := bits_len l.length hl H
  obtain ⟨H', h1, h2⟩ := ins_int hP (by omega) (fun _ _ => trivial) hp ho
  simp only [hlen, conv_len (show l.length < 1000000 by omega), hb, SS]
  refine Yl.bind (Q' := fun r H' => P H' ∧ Own H' 1 v ((sortI cmpI l).map I) ∧ Keeps H H' v v ∧ H'.length = H.length) ?_ fun r H' h => yl_some.2 ⟨rfl, h⟩
  refine r_slices_pdqsortOrdered_int _ _ _ _ _ ?_
  refine l_slices_pdqsortOrdered_int_0_s _ _ _ _ _ _ _ ?_
  rw [sub64 _ _ (by omega) (by omega)]
  simp only [SS]
  rw [if_pos (by omega)]
  simp only [h1, SS]
  exact h2
end
end Y
end Go.Proofs.YtplginnkececaaaGreatDoor

set_option linter.unusedSimpArgs false
set_option linter.unusedVariables false
namespace Go.Proofs.YtplginnkececaaaGreatDoor
open Go
namespace Y
open X

def keepB {α : Type} (eq : α → α → Bool) : α → List α → List α
  | _, [] => []
  | p, x :: l => if eq x p then keepB eq x l else x :: keepB eq x l

def compactF {α : Type} (eq : α → α → Bool) : List α → List α
  | [] => []
  | x :: l => x :: keepB eq x l

theorem keepB_sub {α : Type} (eq : α → α → Bool) : ∀ (l : List α) (p : α), (keepB eq p l).Sublist l
  | [], _ => .slnil
  | x :: l, p => by
    unfold keepB
    split
    · exact (keepB_sub eq l x).cons _
    · exact (keepB_sub eq l x).cons_cons _

theorem compactF_sub {α : Type} (eq : α → α → Bool) : ∀ (l : List α), (compactF eq l).Sublist l
  | [] => .slnil
  | x :: l => (keepB_sub eq l x).cons_cons _

theorem own_block {α : Type} {H : Heap} {sz b : Nat} {enc : α → AV} {l : List α} {es : List AV} (hb : H[b]? = some (.arr sz es)) (he : es.take l.length = l.map enc) (hl : l.length ≤ es.length) : Own H sz (.slice b 0 l.length) (l.map enc) :=
  .inr ⟨b, es, by simp, hb, by simpa using he, by simpa using hl⟩

theorem at_block {α : Type} {enc : α → AV} {l : List α} {es : List AV} (he : es.take l.length = l.map enc) {i : Nat} (hi : i < l.length) : es[i]? = some (enc l[i]) := by
  have : (es.take l.length)[i]? = some (enc l[i]) := by rw [he, List.getElem?_map, List.getElem?_eq_getElem hi]; rfl
  rwa [List.getElem?_take_of_lt hi] at this

theorem set_block {α : Type} {H : Heap} {sz b : Nat} {n : Option Nat} {enc : α → AV} {l : List α} {es : List AV} (hz : Lay sz n enc) (hb : H[b]? = some (.arr sz es)) (he : es.take l.length = l.map enc) (hl : l.length ≤ es.length) {i : Nat} (hi : i < l.length) (x : α) :
    storeAV H sz (.ptr b i 0) (enc x) = some (H.set b (.arr sz (es.set i (enc x)))) ∧ (H.set b (.arr sz (es.set i (enc x))))[b]? = some (.arr sz (es.set i (enc x))) ∧ (es.set i (enc x)).take l.length = (l.set i x).map enc := by
  have h1 := at_block he hi
  refine ⟨?_, set_same _ hb, by rw [List.take_set, he, List.map_set]⟩
  rw [store_ptr hb h1 (hz.len x) (hz.sto x) (by rw [hz.len]; omega) (hz.len _), hz.set]

theorem keeps_set {H : Heap} {b : Nat} {k : Blk} {n m : Nat} : Keeps H (H.set b k) (.slice b 0 n) (.slice b 0 m) :=
  ⟨by simp, fun c j hc hne => ⟨set_other _ (fun e => hne (by simp [AV.blockOf, e])) hc, by simpa [AV.blockOf] using hne⟩⟩

theorem slice_sl_from {H : Heap} {sz b len : Nat} {es : List AV} {k : IntKind} {n : Nat} (hb : H[b]? = some (.arr sz es)) (h : n < len) (hl : len ≤ es.length) : sliceSlAV H sz (.slice b 0 len) (some (.int k (n : Int))) none = some (.slice b n (len - n)) := by
  simp only [sliceSlAV, optV, AV.asNat, natArg, sliceAV, hb]
  simp
  omega

theorem clear_sl {H : Heap} {sz b off len : Nat} {es : List AV} {z : AV} (hb : H[b]? = some (.arr sz es)) (h : 0 < len) (hl : off + len ≤ es.length) : clearAV H sz z (.slice b off len) = some (H.set b (.arr sz (es.take off ++ List.replicate len z ++ es.drop (off + len)))) := by
  simp only [clearAV, hb]
  rw [if_neg (by omega), if_pos ⟨trivial, hl⟩]

theorem tail_set {α : Type} (d : List α) (x p : α) (junk t : List α) : (d ++ junk ++ p :: t).set d.length x = d ++ [x] ++ (junk ++ [p]).tail ++ t := by
  cases junk with
  | nil => simp [List.set_append]
  | cons j junk => simp [List.set_append]
end Y
end Go.Proofs.YtplginnkececaaaGreatDoor

set_option linter.unusedSimpArgs false
set_option linter.unusedVariables false
namespace Go.Proofs.YtplginnkececaaaGreatDoor
open Go
namespace Y
open X

section
variable {α : Type} {enc : α → AV} {eq : α → α → Bool} {cmp v : AV} {A : α → Prop} {P : Heap → Prop}

theorem loop0_Compact_int_int (hz : Lay 1 none enc) (hc : ∀ a b H, binAV H .eql (.one .int) (enc a) (enc b) = some (.bool (eq a b))) (hn : ∀ a b H, binAV H .neq (.one .int) (enc a) (enc b) = some (.bool (!eq a b))) {b k0 n : Nat} (hP : Steady P (.slice b 0 n)) (hn' : n < 1000000) {k2 : AV → AV → Heap → Option (AV × Heap)} {Q : AV → Heap → Prop} (t : List α) :
    ∀ (d junk : List α) (p : α) (m : Nat) (es : List AV) (H : Heap), (∀ a ∈ p :: t, A a) → P H → (d ++ junk ++ p :: t).length = n → d.length + junk.length + 1 = k0 + m → 1 ≤ m → k0 ≤ n → H[b]? = some (.arr 1 es) → es.take n = (d ++ junk ++ p :: t).map enc → n ≤ es.length →
    (∀ H' es' J, P H' → Keeps H H' (.slice b 0 n) (.slice b 0 n) → H'.length = H.length → H'[b]? = some (.arr 1 es') → es'.take n = (d ++ keepB eq p t ++ J).map enc → n ≤ es'.length → d.length + (keepB eq p t).length + 1 ≤ n → Yl (k2 (.slice b 0 n) (I ((d.length + (keepB eq p t).length : Nat) : Int)) H') Q) →
    Yl (l_slices_Compact_int_int_0 (.slice b 0 n) (I d.length) (.slice b k0 (n - k0)) (I m) H k2) Q := by
  induction t with
  | nil =>
    intro d junk p m es H hA hp hl hm h1 hk hb he hle hq
    simp only [List.length_append, List.length_cons, List.length_nil] at hl
    refine l_slices_Compact_int_int_0_s _ _ _ _ _ _ ?_
    simp only [SS]
    rw [if_neg (by omega)]
    simp only [keepB, List.length_nil, Nat.add_zero, List.append_nil] at hq
    exact hq H es (junk ++ [p]) hp (.refl _ _) rfl hb (by simpa using he) hle (by omega)
  | cons x t ih =>
    intro d junk p m es H hA hp hl hm h1 hk hb he hle hq
    have hl' := hl
    simp only [List.length_append, List.length_cons] at hl
    refine l_slices_Compact_int_int_0_s _ _ _ _ _ _ ?_
    simp only [SS]
    rw [if_pos (by omega)]
    have gx : (d ++ junk ++ p :: x :: t)[k0 + m]'(by simp; omega) = x := by
      have : k0 + m = (d ++ junk ++ [p]).length := by simp; omega
      simp only [this]
      have e : d ++ junk ++ p :: x :: t = (d ++ junk ++ [p]) ++ x :: t := by simp
      simp only [e, List.getElem_append_right (Nat.le_refl _), Nat.sub_self, List.getElem_cons_zero]
    have gp : (d ++ junk ++ p :: x :: t)[k0 + (m - 1)]'(by simp; omega) = p := by
      have : k0 + (m - 1) = (d ++ junk).length := by simp; omega
      simp only [this, List.getElem_append_right (Nat.le_refl _), Nat.sub_self, List.getElem_cons_zero]
    have he' := he
    rw [← hl'] at he'
    have ax := at_block he' (i := k0 + m) (by simp; omega)
    have ap := at_block he' (i := k0 + (m - 1)) (by simp; omega)
    rw [gx] at ax
    rw [gp] at ap
    have lx : loadAV H none (.ptr b (k0 + m) 0) = some (enc x) := load_ptr hb ax (hz.pick x)
    have lp : loadAV H none (.ptr b (k0 + (m - 1)) 0) = some (enc p) := load_ptr hb ap (hz.pick p)
    have i1 : indexV H 1 (.slice b k0 (n - k0)) (I m) = some (.ptr b (k0 + m) 0) := index_slice hb (by omega)
    have i2 : indexV H 1 (.slice b k0 (n - k0)) (I ((m - 1 : Nat) : Int)) = some (.ptr b (k0 + (m - 1)) 0) := index_slice hb (by omega)
    have i3 : indexV H 1 (.slice b 0 n) (I d.length) = some (.ptr b d.length 0) := by have := index_slice (k := .i64) hb (show d.length < n by omega) (o := 0); simpa using this
    simp only [SS, i1, lx]
    rw [pred64 _ _ h1 (by omega)]
    simp only [SS, i2, lp]
    rw [hn]
    have hA' : ∀ a ∈ x :: t, A a := fun a ha => hA a (List.mem_cons_of_mem _ ha)
    cases hx : eq x p with
    | true =>
      simp only [keepB, hx, if_true] at hq
      simp only [SS, Bool.not_true]
      rw [succ64 _ _ (by omega)]
      simp only [SS]
      exact ih d (junk ++ [p]) x (m + 1) es H hA' hp (by simp; omega) (by simp; omega) (by omega) hk hb (by simpa using he) hle hq
    | false =>
      simp only [keepB, hx, Bool.false_eq_true, if_false, List.length_cons] at hq
      simp only [SS, Bool.not_false, i1, lx, i3]
      have hd : d.length < (d ++ junk ++ p :: x :: t).length := by simp; omega
      obtain ⟨s1, s2, s3⟩ := set_block hz hb he' (by rw [hl']; exact hle) hd x
      simp only [SS, s1]
      rw [succ64 _ _ (by omega), succ64 _ _ (by omega)]
      simp only [SS]
      rw [tail_set] at s3
      have hp' := hP H _ hp (keeps_set (k := .arr 1 (es.set d.length (enc x))) (m := n)) (by simp)
      have htl : (junk ++ [p]).tail.length = junk.length := by simp
      have := ih (d ++ [x]) (junk ++ [p]).tail x (m + 1) (es.set d.length (enc x)) (H.set b (.arr 1 (es.set d.length (enc x)))) hA' hp' (by simp; omega) (by simp; omega) (by omega) hk s2 (by rw [hl'] at s3; exact s3) (by simp; omega) (fun H' es' J a1 a2 a3 a4 a5 a6 a7 => by
        simp only [List.length_append, List.length_singleton] at a7 ⊢
        rw [show d.length + 1 + (keepB eq x t).length = d.length + ((keepB eq x t).length + 1) by omega]
        exact hq H' es' J a1 (keeps_set.trans a2) (by simpa using a3) a4 (by simpa using a5) a6 (by omega))
      simpa using this

theorem loop1_Compact_int_int (hz : Lay 1 none enc) (hc : ∀ a b H, binAV H .eql (.one .int) (enc a) (enc b) = some (.bool (eq a b))) (hn : ∀ a b H, binAV H .neq (.one .int) (enc a) (enc b) = some (.bool (!eq a b))) {b n : Nat} (hP : Steady P (.slice b 0 n)) (hn' : n < 1000000) {k0 : AV → Heap → Option (AV × Heap)} {Q : AV → Heap → Prop} {es : List AV} {H : Heap} (hp : P H) (hb : H[b]? = some (.arr 1 es)) (hle : n ≤ es.length)
    (t : List α) : ∀ (d : List α) (p : α), (∀ a ∈ d ++ p :: t, A a) → (d ++ p :: t).length = n → es.take n = (d ++ p :: t).map enc →
    (∀ H' es' m, P H' → Keeps H H' (.slice b 0 n) (.slice b 0 m) → H'.length = H.length → H'[b]? = some (.arr 1 es') → m = (d ++ p :: keepB eq p t).length → es'.take m = (d ++ p :: keepB eq p t).map enc → m ≤ es'.length → m < n → Q (.slice b 0 m) H') →
    (keepB eq p t = t → Yl (k0 (.slice b 0 n) H) Q) →
    Yl (l_slices_Compact_int_int_1 (.slice b 0 n) (I ((d.length + 1 : Nat) : Int)) H k0) Q := by
  induction t with
  | nil =>
    intro d p hA hl he hq hk
    simp only [List.length_append, List.length_cons, List.length_nil] at hl
    refine l_slices_Compact_int_int_1_s _ _ _ _ ?_
    simp only [SS]
    rw [if_neg (by omega)]
    exact hk rfl
  | cons x t ih =>
    intro d p hA hl he hq hk
    have hl' := hl
    simp only [List.length_append, List.length_cons] at hl
    refine l_slices_Compact_int_int_1_s _ _ _ _ ?_
    simp only [SS]
    rw [if_pos (by omega)]
    have gx : (d ++ p :: x :: t)[d.length + 1]'(by simp) = x := by simp [List.getElem_append_right]
    have gp : (d ++ p :: x :: t)[d.length]'(by simp) = p := by simp [List.getElem_append_right]
    have he' := he
    rw [← hl'] at he'
    have ax := at_block he' (i := d.length + 1) (by simp)
    have ap := at_block he' (i := d.length) (by simp)
    rw [gx] at ax
    rw [gp] at ap
    have lx : loadAV H none (.ptr b (d.length + 1) 0) = some (enc x) := load_ptr hb ax (hz.pick x)
    have lp : loadAV H none (.ptr b d.length 0) = some (enc p) := load_ptr hb ap (hz.pick p)
    have i1 : indexV H 1 (.slice b 0 n) (I ((d.length + 1 : Nat) : Int)) = some (.ptr b (d.length + 1) 0) := by have := index_slice (k := .i64) hb (show d.length + 1 < n by omega) (o := 0); simpa using this
    have i2 : indexV H 1 (.slice b 0 n) (I d.length) = some (.ptr b d.length 0) := by have := index_slice (k := .i64) hb (show d.length < n by omega) (o := 0); simpa using this
    simp only [SS, i1, lx]
    rw [pred64 _ _ (by omega) (by omega)]
    simp only [SS, Nat.add_sub_cancel, i2, lp]
    rw [hc]
    cases hx : eq x p with
    | true =>
      simp only [keepB, hx, if_true] at hq
      simp only [SS]
      rw [slice_sl_from hb (by omega) hle]
      simp only [SS]
      have := loop0_Compact_int_int (A := A) hz hc hn (b := b) (k0 := d.length + 1) (n := n) hP hn' (k2 := fun v0_1 v3_1 H2 =>
        (sliceSlAV H2 1 v0_1 (some v3_1) none).bind fun v56 =>
        (clearAV H2 1 (.int .i64 0) v56).bind fun H3 =>
        (sliceSlAV H3 1 v0_1 none (some v3_1)).bind fun v59 =>
        some (v59, H3)) (Q := Q) t (d ++ [p]) [] x 1 es H (fun a ha => hA a (by simp at ha ⊢; rcases ha with h | h <;> simp [h])) hp (by simp; omega) (by simp) (by omega) (by omega) hb (by simpa using he) hle (fun H' es' J a1 a2 a3 a4 a5 a6 a7 => by
          simp only [List.length_append, List.length_singleton] at a7 ⊢
          rw [slice_sl_from a4 (by omega) a6]
          simp only [SS]
          rw [clear_sl a4 (by omega) (by omega)]
          simp only [SS]
          have hm : d.length + 1 + (keepB eq x t).length ≤ es'.length := by omega
          rw [slice_sl_to (set_same _ a4) (by simp; omega)]
          refine yl_some.2 (hq _ _ _ (hP _ _ a1 keeps_set (by simp)) (a2.trans keeps_set) (by simpa using a3) (set_same _ a4) (by simp; omega) ?_ (by simp; omega) (by omega))
          rw [List.append_assoc, List.take_append_of_le_length (by simp; omega), List.take_take, Nat.min_self]
          have := congrArg (List.take (d.length + 1 + (keepB eq x t).length)) a5
          rw [List.take_take, Nat.min_eq_left (by omega), List.map_append, List.take_left' (by simp; omega)] at this
          rw [this]; simp)
      simpa using this
    | false =>
      simp only [keepB, hx, Bool.false_eq_true, if_false] at hq hk
      simp only [SS]
      rw [succ64 _ _ (by omega)]
      simp only [SS]
      have := ih (d ++ [p]) x (by simpa using hA) (by simp; omega) (by simpa using he) (fun H' es' m a1 a2 a3 a4 a5 a6 a7 a8 => hq H' es' m a1 a2 a3 a4 (by simpa using a5) (by simpa using a6) a7 a8) (fun h => hk (by rw [h]))
      simpa using this

theorem ok_Compact_int_int (hz : Lay 1 none enc) (hc : ∀ a b H, binAV H .eql (.one .int) (enc a) (enc b) = some (.bool (eq a b))) (hn : ∀ a b H, binAV H .neq (.one .int) (enc a) (enc b) = some (.bool (!eq a b))) (hP : Steady P v) {l : List α} (hl : l.length < 1000000) (hA : ∀ a ∈ l, A a) {H : Heap} (hp : P H) (ho : Own H 1 v (l.map enc)) :
    ∃ v' H', R prog f_slices_Compact_int_int [v] H = some (v', H') ∧ P H' ∧ Own H' 1 v' ((compactF eq l).map enc) ∧ Keeps H H' v v' ∧ H'.length = H.length := by
  suffices h : Yl (R prog f_slices_Compact_int_int [v] H) fun v' H' => P H' ∧ Own H' 1 v' ((compactF eq l).map enc) ∧ Keeps H H' v v' ∧ H'.length = H.length by
    obtain ⟨v', H', h1, h2⟩ := h
    exact ⟨v', H', h1, h2⟩
  refine r_slices_Compact_int_int _ _ ?_
  have hlen : lenX H .slice v = some (I l.length) := by rw [ho.len]; simp
  simp only [hlen, SS]
  by_cases h2 : l.length < 2
  · rw [if_pos (by omega)]
    refine yl_some.2 ⟨hp, ?_, .refl _ _, rfl⟩
    match l, h2 with
    | [], _ => exact ho
    | [x], _ => exact ho
  · rw [if_neg (by omega)]
    obtain ⟨p, x, t, rfl⟩ : ∃ p x t, l = p :: x :: t := by
      match l, h2 with
      | [], h => exact absurd (by simp) h
      | [_], h => exact absurd (by simp) h
      | p :: x :: t, _ => exact ⟨p, x, t, rfl⟩
    rcases ho with ⟨_, h⟩ | ⟨b, es, rfl, hb, h1, h2⟩
    · cases h
    · simp only [List.length_map] at h1 h2 hP ⊢
      refine loop1_Compact_int_int (A := A) hz hc hn hP hl hp hb h2 (x :: t) [] p (by simpa using hA) rfl (by simpa using h1) (fun H' es' m a1 a2 a3 a4 a5 a6 a7 a8 => ?_) fun hk => ?_
      · subst a5
        exact ⟨a1, own_block a4 a6 a7, a2, a3⟩
      · refine yl_some.2 ⟨hp, ?_, .refl _ _, rfl⟩
        simp only [compactF, hk]
        exact own_block (l := p :: x :: t) hb h1 h2
end
end Y
end Go.Proofs.YtplginnkececaaaGreatDoor

set_option linter.unusedSimpArgs false
set_option linter.unusedVariables false
namespace Go.Proofs.YtplginnkececaaaGreatDoor
open Go
namespace Y
open X

theorem dedup_compact : ∀ (l : List Int), Desk.dedup l = compactF (fun a b => decide (a = b)) l
  | [] => rfl
  | [a] => rfl
  | a :: b :: l => by
    have ih := dedup_compact (b :: l)
    simp only [Desk.dedup, compactF, keepB] at ih ⊢
    by_cases h : a = b
    · subst h
      simp only [if_true, decide_true]
      exact ih
    · rw [if_neg h, ih]
      have : ¬ b = a := Ne.symm h
      simp [this]

theorem leave_moved (D : Desk) (i : Nat) : (D.leave i).moved = D.moved := by
  unfold Desk.leave; simp only; split <;> rfl
theorem leave_late (D : Desk) (i : Nat) : (D.leave i).late = D.late := by
  unfold Desk.leave; simp only; split <;> rfl

theorem Good.drop {D : Desk} (h : Good D) {i : Nat} (hi : i < D.ents.length) (ho : (entAt D.ents i).opn = true) (e' : Ent) (he : e'.opn = false ∨ e'.st.state = 2) (hsz : 0 ≤ e'.ride.size) (hf : Fit e'.ride) (lt : List Ask) : Good (({ D.leave i with late := lt } : Desk).setEnt i e') := by
  refine ⟨Desk.Inv.weak (Desk.inv_drop h.inv hi ho e' he hsz lt) fun _ _ _ _ _ _ _ => trivial, ?_, ?_, ?_, ?_⟩
  · simp only [Desk.setEnt, Desk.leave_rooms]; exact h.rooms
  · simp only [Desk.setEnt, Desk.leave_rooms]; exact h.seats
  · intro e hm
    simp only [Desk.setEnt, Desk.leave_ents] at hm
    rcases List.mem_or_eq_of_mem_set hm with hm | rfl
    · exact h.fit e hm
    · exact hf
  · simp only [Desk.setEnt, Desk.leave_ents, List.length_set]; exact h.ents

theorem Good.sure {D : Desk} (h : Good D) {i : Nat} (hi : i < D.ents.length) (ho : (entAt D.ents i).opn = true) : (entAt D.ents i).st.state = 1 → ∃ k, D.room (entAt D.ents i).ride = some k := h.inv.sure i hi ho

theorem Good.closed {D : Desk} (h : Good D) {i : Nat} (hi : i < D.ents.length) (ho : (entAt D.ents i).opn = true) : Good ((D.leave i).setEnt i ⟨(entAt D.ents i).st, false⟩) :=
  h.drop hi ho ⟨(entAt D.ents i).st, false⟩ (.inl rfl) (h.inv.size i hi) (by have := h.fit _ (entAt_mem hi); exact this) (D.leave i).late

theorem close_ok {d : Nat} {t : Int} {A : Addr} {D : Desk} {rs : List Int} {H0 : Heap} {vo : AV} {Q : AV → Heap → Prop} {k2 : AV → AV → AV → AV → Heap → Option (AV × Heap)} {v1 : AV} (hvo : vo = A.vo) (hm12 : A.ps.length ≤ 12)
    (hq : ∀ (p : Desk × List Int) (v6 : AV) (H : Heap), p = D.closeAll t → Rep H d A p.1 rs → Own H 1 v6 (p.2.map I) → (∀ b, v6.blockOf = some b → Out d A b) → Lo H0.length v6 → Fr H0 H d A A → Good p.1 → p.1.moved = D.moved → (∀ k ∈ p.2, Desk.roomI (Desk.ofI k) = k) → p.2.length ≤ 12 → Yl (k2 (P0 d) v1 (I t) v6 H) Q) :
    ∀ (m i : Nat) (p : Desk × List Int) (v6 : AV) (H : Heap), m + i = A.ps.length → p = (List.range i).foldl (Desk.close1 t) (D, []) → D.ents.length = A.ps.length → Rep H d A p.1 rs → Own H 1 v6 (p.2.map I) → (∀ b, v6.blockOf = some b → Out d A b) → Lo H0.length v6 → Fr H0 H d A A → Good p.1 → p.1.moved = D.moved → (∀ k ∈ p.2, Desk.roomI (Desk.ofI k) = k) → p.2.length ≤ i →
      Yl (l_request_desk_over_0 (P0 d) v1 (I t) v6 vo (I A.ps.length) (I i) H k2) Q := by
  subst hvo
  intro m
  induction m with
  | zero =>
    intro i p v6 H hm hp hel r ho hob lo fr gd hmo hk hl
    refine l_request_desk_over_0_s _ _ _ _ _ _ _ _ _ ?_
    obtain rfl : i = A.ps.length := by omega
    simp only [SS]
    rw [if_neg (by omega)]
    exact hq p v6 H (by rw [hp, ← hel]; rfl) r ho hob lo fr gd hmo hk (by omega)
  | succ m ih =>
    intro i p v6 H hm hp hel r ho hob lo fr gd hmo hk hl
    refine l_request_desk_over_0_s _ _ _ _ _ _ _ _ _ ?_
    have hi : i < A.ps.length := by omega
    obtain ⟨q, g1, g2⟩ := r.order.loadL (lay_ptr id) (i := i) hi
    have g2 : loadAV H none q = some (P0 A.ps[i]) := g2
    have hx := r.ents i hi
    have hid : i < p.1.ents.length := by rw [← r.len]; exact hi
    have hnext : (List.range (i + 1)).foldl (Desk.close1 t) (D, []) = Desk.close1 t p i := by rw [List.range_succ, List.foldl_append, ← hp]; rfl
    have no : ¬ ((entAt p.1.ents i).opn = true ∧ (entAt p.1.ents i).ride.due = t) → Yl (l_request_desk_over_0 (P0 d) v1 (I t) v6 A.vo (I A.ps.length) (I ((i + 1 : Nat) : Int)) H k2) Q := by
      intro hc
      have : Desk.close1 t p i = p := by unfold Desk.close1; simp only; rw [if_neg hc]
      exact ih (i + 1) p v6 H (by omega) (by rw [hnext, this]) hel r ho hob lo fr gd hmo hk (by omega)
    simp only [SS]
    rw [if_pos (by omega)]
    simp only [g1, g2, ent_open hx, ent_due hx, SS]
    rw [succ64 _ _ (by omega)]
    cases ho1 : (entAt p.1.ents i).opn with
    | false =>
      simp only [SS]
      exact no (by rw [ho1]; simp)
    | true =>
      simp only [SS]
      by_cases hd : (entAt p.1.ents i).ride.due = t
      · have hd' : (entAt p.1.ents i).st.ride.due = t := hd
        rw [if_pos hd']
        obtain ⟨H2, b1, b2, b3⟩ := leave_ok r gd.neat hi (gd.sure hid ho1)
        have f2 := ho.fr b3 hob
        obtain ⟨v', H3, c1, c2, c3⟩ := f2.1.appendL (bytes := 8) lay_int (Desk.roomI (p.1.room (entAt p.1.ents i).ride)) (y := .vslice [I (Desk.roomI (p.1.room (entAt p.1.ents i).ride))]) rfl (by omega) (by omega)
        have r2' : Rep H3 d A (p.1.leave i) rs := by
          have keepB : ∀ b k, H2[b]? = some k → ¬ Out d A b → H3[b]? = some k := fun b k hb hno => (c3.old b k hb fun e => hno (f2.2 b e)).1
          have nOut : ∀ sz w l, Own H2 sz w l → (∀ b, w.blockOf = some b → ¬ Out d A b) → Own H3 sz w l := fun sz w l hw hb => hw.keep fun c k hc hk => keepB c k hk (hb c hc)
          refine ⟨keepB _ _ b2.desk fun o => o.d rfl, keepB _ _ b2.tab fun o => o.rm rfl, keepB _ _ b2.all fun o => o.am rfl, b2.rv, b2.rvc, nOut _ _ _ b2.order fun b hb o => o.vo hb, nOut _ _ _ b2.used fun b hb o => o.vu hb, nOut _ _ _ b2.moved fun b hb o => o.vm hb, nOut _ _ _ b2.refused fun b hb o => o.vr hb, nOut _ _ _ b2.late fun b hb o => o.vl hb, b2.len, fun j hj => keepB _ _ (b2.ents j hj) fun o => o.ps (List.getElem_mem hj), b2.tags⟩
        have hx3 := r2'.ents i hi
        rw [Desk.leave_ents] at hx3
        have hob3 : ∀ b, v'.blockOf = some b → Out d A b := by
          intro b hb
          rcases Nat.lt_or_ge b H2.length with hlt | hge
          · by_cases hv : v6.blockOf = some b
            · exact f2.2 b hv
            · exact absurd hb (c3.old b _ (List.getElem?_eq_getElem hlt) hv).2
          · exact b2.out hge
        have hset := r2'.setEnt hi ⟨(entAt p.1.ents i).st, false⟩ (by rw [Desk.leave_ents])
        have hst : storeAV H3 1 (.ptr A.ps[i] 0 10) (.bool false) = some (H3.set A.ps[i] (entB ⟨(entAt p.1.ents i).st, false⟩)) := ent_put hx3 ⟨(entAt p.1.ents i).st, false⟩ 10 1 (.bool false) (by omega) rfl rfl rfl
        have hls : litAV 1 [.int .i64 0] [(0, I (Desk.roomI (p.1.room (entAt p.1.ents i).ride)))] false H2 = some (.vslice [I (Desk.roomI (p.1.room (entAt p.1.ents i).ride))], H2) := lit_one rfl rfl rfl
        simp only [b1, hls, c1, hst, SS]
        rw [succ64 _ _ (by omega)]
        simp only [SS]
        have hc1 : Desk.close1 t p i = ((p.1.leave i).setEnt i ⟨(entAt p.1.ents i).st, false⟩, p.2 ++ [Desk.roomI (p.1.room (entAt p.1.ents i).ride)]) := by unfold Desk.close1; simp only; rw [if_pos ⟨ho1, hd⟩]
        refine ih (i + 1) _ v' _ (by omega) hnext.symm hel ?_ ?_ hob3 ?_ ?_ ?_ ?_ ?_ ?_
        · rw [hc1]; exact hset
        · rw [hc1]
          exact Own.setc c2 fun e => (hob3 _ e).ps (List.getElem_mem hi)
        · have hle : H0.length ≤ H2.length := Nat.le_trans fr.len b3.len
          exact (c3.lo lo hle).1
        · refine ⟨by simp; exact Nat.le_trans fr.len (Nat.le_trans b3.len c3.len), fun b k hb hbo => ?_⟩
          have q1 := fr.out b k hb hbo
          have q2 := b3.out b k q1.1 q1.2
          have hlt := (List.getElem?_eq_some_iff.1 hb).1
          have q3 := c3.old b k q2.1 fun e => by have := lo b e; omega
          exact ⟨set_other _ (fun e => q2.2.ps (e ▸ List.getElem_mem hi)) q3.1, q2.2⟩
        · rw [hc1]; exact gd.closed hid ho1
        · rw [hc1]; simp only [Desk.setEnt, leave_moved]; exact hmo
        · rw [hc1]
          intro k hk'
          rcases List.mem_append.1 hk' with hk' | hk'
          · exact hk k hk'
          · simp at hk'; subst hk'; rw [Desk.ofI_roomI]
        · rw [hc1]; simp; omega
      · have hd' : ¬ (entAt p.1.ents i).st.ride.due = t := hd
        rw [if_neg hd']
        exact no fun hc => hd hc.2

theorem Rep.outBy {H H' : Heap} {d : Nat} {A : Addr} {D : Desk} {rs : List Int} (h : Rep H d A D rs) {v v' : AV} (k : Keeps H H' v v') (hv : ∀ b, v.blockOf = some b → Out d A b) : Rep H' d A D rs := by
  have keepB : ∀ b j, H[b]? = some j → ¬ Out d A b → H'[b]? = some j := fun b j hb hno => (k.old b j hb fun e => hno (hv b e)).1
  have nOut : ∀ sz w l, Own H sz w l → (∀ b, w.blockOf = some b → ¬ Out d A b) → Own H' sz w l := fun sz w l hw hb => hw.keep fun c j hc hk => keepB c j hk (hb c hc)
  exact ⟨keepB _ _ h.desk fun o => o.d rfl, keepB _ _ h.tab fun o => o.rm rfl, keepB _ _ h.all fun o => o.am rfl, h.rv, h.rvc, nOut _ _ _ h.order fun b hb o => o.vo hb, nOut _ _ _ h.used fun b hb o => o.vu hb, nOut _ _ _ h.moved fun b hb o => o.vm hb, nOut _ _ _ h.refused fun b hb o => o.vr hb, nOut _ _ _ h.late fun b hb o => o.vl hb, h.len, fun j hj => keepB _ _ (h.ents j hj) fun o => o.ps (List.getElem_mem hj), h.tags⟩

theorem outBy {H H' : Heap} {d : Nat} {A : Addr} {D : Desk} {rs : List Int} (h : Rep H d A D rs) {v v' : AV} (k : Keeps H H' v v') (hv : ∀ b, v.blockOf = some b → Out d A b) : ∀ b, v'.blockOf = some b → Out d A b := by
  intro b hb
  rcases Nat.lt_or_ge b H.length with hlt | hge
  · by_cases hvb : v.blockOf = some b
    · exact hv b hvb
    · exact absurd hb (k.old b _ (List.getElem?_eq_getElem hlt) hvb).2
  · exact h.out hge

theorem Fr.keepsOut {H0 H H' : Heap} {d : Nat} {A A' : Addr} {v v' : AV} (f : Fr H0 H d A A') (k : Keeps H H' v v') (lo : Lo H0.length v) : Fr H0 H' d A A' := by
  refine ⟨Nat.le_trans f.len k.len, fun b j hb ho => ?_⟩
  have q1 := f.out b j hb ho
  have hlt := (List.getElem?_eq_some_iff.1 hb).1
  exact ⟨(k.old b j q1.1 fun e => by have := lo b e; omega).1, q1.2⟩

theorem ups_ok {d : Nat} {t : Int} {rs : List Int} {H0 : Heap} {A0 : Addr} {n0 : Nat} {v : AV} {L : List Int} {Q : AV → Heap → Prop} {v1 : AV} {k4 : AV → AV → Heap → Option (AV × Heap)} (hL : ∀ k ∈ L, Desk.roomI (Desk.ofI k) = k) (hLn : L.length ≤ 12) (hn0 : n0 < 50000) (D0 : Desk)
    (hq : ∀ (A : Addr) (H : Heap), Rep H d A (L.foldl (fun D k => D.moveUp (Desk.ofI k) t) D0) rs → A.ps = A0.ps → Fr H0 H d A0 A → Good (L.foldl (fun D k => D.moveUp (Desk.ofI k) t) D0) → (L.foldl (fun D k => D.moveUp (Desk.ofI k) t) D0).moved.length ≤ n0 + 144 → Yl (k4 (P0 d) v1 H) Q) :
    ∀ (M : List Int) (i : Nat) (A : Addr) (D : Desk) (H : Heap), L.drop i = M → i ≤ L.length → Rep H d A D rs → A.ps = A0.ps → Fr H0 H d A0 A → Good D → D.moved.length ≤ n0 + 12 * i → Own H 1 v (L.map I) → (∀ b, v.blockOf = some b → Out d A b) → M.foldl (fun D k => D.moveUp (Desk.ofI k) t) D = L.foldl (fun D k => D.moveUp (Desk.ofI k) t) D0 →
      Yl (l_request_desk_over_1 (P0 d) v1 (I t) v (I L.length) (I i) H k4) Q := by
  intro M
  induction M with
  | nil =>
    intro i A D H hM hi r hps fr gd hml ho hob hf
    refine l_request_desk_over_1_s _ _ _ _ _ _ _ _ ?_
    have : L.length ≤ i := List.drop_eq_nil_iff.1 hM
    simp only [SS]
    rw [if_neg (by omega)]
    simp only [List.foldl_nil] at hf
    subst hf
    exact hq A H r hps fr gd (by omega)
  | cons j M ih =>
    intro i A D H hM hi r hps fr gd hml ho hob hf
    refine l_request_desk_over_1_s _ _ _ _ _ _ _ _ ?_
    have hil : i < L.length := by
      rcases Nat.lt_or_ge i L.length with hlt | hge
      · exact hlt
      · rw [List.drop_eq_nil_of_le hge] at hM; cases hM
    rw [List.drop_eq_getElem_cons hil] at hM
    injection hM with hj hM'
    obtain ⟨p, g1, g2⟩ := ho.loadL lay_int (i := i) hil
    rw [hj] at g2
    have hjk := hL j (hj ▸ List.getElem_mem hil)
    obtain ⟨A', H', b1, b2, b3, b4, b5, b6⟩ := moveUp_ok r gd (by omega) (Desk.ofI j) t
    rw [hjk] at b1
    have f2 := ho.fr b4 hob
    simp only [SS]
    rw [if_pos (by omega)]
    simp only [g1, g2, b1, SS]
    rw [succ64 _ _ (by omega)]
    simp only [SS]
    rw [List.foldl_cons] at hf
    exact ih (i + 1) A' _ H' hM' (by omega) b2 (by rw [b3, hps]) (fr.trans b4) b5 (by omega) f2.1 f2.2 hf

theorem closeAll_len (D : Desk) (t : Int) : (D.closeAll t).1.ents.length = D.ents.length := by
  have := (Desk.closes_core t D D.ents.length).1
  simpa [core, Desk.closeAll] using this

theorem over_loop {d : Nat} {t : Int} (ht : 0 ≤ t ∧ t ≤ 1000000000000) {rs : List Int} : ∀ (n : Nat) (A : Addr) (D : Desk) (H : Heap), D.openN ≤ n → Rep H d A D rs → Good D → D.moved.length + 144 * n < 40000 →
    Yl (l_request_desk_over_2 (P0 d) (I t) H) fun v H' => v = .tuple [] ∧ ∃ A', Rep H' d A' (D.over t) rs ∧ A'.ps = A.ps ∧ Fr H H' d A A' ∧ Good (D.over t) ∧ (D.over t).moved.length ≤ D.moved.length + 144 * n := by
  intro n
  induction n with
  | zero =>
    intro A D H hn r gd hml
    refine l_request_desk_over_2_s _ _ _ ?_
    rw [nextDue_ok r.snap (by have := gd.ents; omega) (by omega) (by omega)]
    have hno : ¬ D.nextDue t ≤ t := fun h => by have := Desk.tick_less D h; omega
    simp only [hno, decide_false, SS]
    rw [Desk.over_eq, if_neg hno]
    exact ⟨trivial, A, r, rfl, .refl _ _ _, gd, by omega⟩
  | succ n ih =>
    intro A D H hn r gd hml
    refine l_request_desk_over_2_s _ _ _ ?_
    rw [nextDue_ok r.snap (by have := gd.ents; omega) (by omega) (by omega)]
    rw [Desk.over_eq]
    by_cases hno : D.nextDue t ≤ t
    · have hlen : lenX H .slice A.vo = some (I A.ps.length) := by rw [r.order.len]; simp
      rw [if_pos hno]
      simp only [hno, decide_true, desk_vo r.desk, hlen, SS]
      have hless := Desk.tick_less D hno
      have hpl : A.ps.length ≤ 12 := by rw [r.len]; exact gd.ents
      refine close_ok (D := D) (A := A) (H0 := H) rfl hpl ?_ A.ps.length 0 (D, []) .nilslice H (by omega) rfl r.len.symm r (.nil _ _) (fun b hb => by cases hb) (.nil _) (.refl _ _ _) gd rfl (by simp) (by simp)
      intro p v6 H1 hp r1 ho hob lo6 fr gd1 hmo hk hl
      obtain ⟨H2, c1, c2, c3, c4, c5⟩ := sortInt (P := fun H2 => Rep H2 d A p.1 rs ∧ Fr H H2 d A A) (v := v6) (fun Ha Hb ⟨p1, p2⟩ kp _ => ⟨p1.outBy kp hob, p2.keepsOut kp lo6⟩) hl ⟨r1, fr⟩ ho
      obtain ⟨v7, H3, d1, d2, d3, d4, d5⟩ := ok_Compact_int_int (enc := I) (eq := fun a b => decide (a = b)) (A := fun _ => True) (P := fun H2 => Rep H2 d A p.1 rs ∧ Fr H H2 d A A) (v := v6) lay_int (fun a b H => by rw [bin_eql]) (fun a b H => by rw [bin_neq]; simp) (fun Ha Hb ⟨p1, p2⟩ kp _ => ⟨p1.outBy kp hob, p2.keepsOut kp lo6⟩) (l := sortI cmpI p.2) (by rw [(sortI_perm _ _).length_eq]; omega) (fun _ _ => trivial) c2 c3
      have hlen7 : lenX H3 .slice v7 = some (I (compactF (fun a b => decide (a = b)) (sortI cmpI p.2)).length) := by rw [d3.len]; simp
      simp only [c1, d1, hlen7, SS]
      have sub := compactF_sub (fun a b => decide (a = b)) (sortI cmpI p.2)
      have hob7 := outBy c2.1 d4 hob
      have htick : D.tick (D.nextDue t) = (compactF (fun a b => decide (a = b)) (sortI cmpI p.2)).foldl (fun E k => E.moveUp (Desk.ofI k) (D.nextDue t)) p.1 := by
        unfold Desk.tick; simp only [← hp, dedup_compact]
      rw [htick] at hless ⊢
      refine ups_ok (A0 := A) (H0 := H) (n0 := D.moved.length) (v := v7) (L := compactF (fun a b => decide (a = b)) (sortI cmpI p.2)) (t := D.nextDue t) (fun k hk' => hk k ((sortI_perm _ _).subset (sub.subset hk'))) (by have := sub.length_le; rw [(sortI_perm _ _).length_eq] at this; omega) (by omega) p.1 ?_ _ 0 A p.1 H3 (by simp) (by omega) d2.1 rfl d2.2 gd1 (by rw [hmo]; omega) d3 hob7 rfl
      intro A' H4 r4 hps fr4 gd4 hm4
      refine Yl.mono (ih A' _ H4 (by omega) r4 gd4 (by omega)) ?_
      rintro v H5 ⟨rfl, A'', r5, hps5, fr5, gd5, hm5⟩
      exact ⟨rfl, A'', r5, by rw [hps5, hps], fr4.trans fr5, gd5, by omega⟩
    · rw [if_neg hno]
      simp only [hno, decide_false, SS]
      exact ⟨trivial, A, r, rfl, .refl _ _ _, gd, by omega⟩

theorem over_ok {H : Heap} {d : Nat} {A : Addr} {D : Desk} {rs : List Int} (h : Rep H d A D rs) (hg : Good D) {t : Int} (ht : 0 ≤ t ∧ t ≤ 1000000000000) (hm : D.moved.length < 38000) :
    ∃ A' H', R prog f_request_desk_over [P0 d, I t] H = some (.tuple [], H') ∧ Rep H' d A' (D.over t) rs ∧ A'.ps = A.ps ∧ Fr H H' d A A' ∧ Good (D.over t) ∧ (D.over t).moved.length ≤ D.moved.length + 1728 := by
  have h12 : D.openN ≤ 12 := by
    have : D.openN ≤ D.ents.length := List.length_filter_le _ _
    have := hg.ents; omega
  obtain ⟨v, H', e1, rfl, A', e2, e3, e4, e5, e6⟩ := r_request_desk_over _ _ _ (over_loop ht 12 A D H h12 h hg (by omega))
  exact ⟨A', H', e1, e2, e3, e4, e5, by omega⟩
end Y
end Go.Proofs.YtplginnkececaaaGreatDoor

set_option linter.unusedSimpArgs false
set_option linter.unusedVariables false
namespace Go.Proofs.YtplginnkececaaaGreatDoor
open Go
namespace Y
open X

theorem cut_same {P : Prog} {f : Nat} {args : List AV} {H : Heap} {u : AV} (h : Yl (R P f args H) fun v H' => (∃ l, H' = H ++ l) ∧ snap H' deep v = some u ∧ above H' H.length deep v = true) : cutCall (R P) f args H = some (u, H) := by
  obtain ⟨v, H', h1, ⟨l, rfl⟩, h2, h3⟩ := h
  simp only [cutCall, h1, obind]
  rw [if_pos ⟨by simp, fun b k hb hk => .inl (by rw [List.getElem?_append_left hb] at hk; exact hk), h3⟩, h2]
  simp

def Desk.books (D : Desk) (who : Str) (but : Option Nat) (n : Nat) : List Ent :=
  ((List.range n).filter fun i => (entAt D.ents i).opn && decide ((entAt D.ents i).ride.rider = who) && decide (some i ≠ but)).map (entAt D.ents)

theorem books_succ (D : Desk) (who : Str) (but : Option Nat) (n : Nat) : D.books who but (n + 1) = D.books who but n ++ if ((entAt D.ents n).opn && decide ((entAt D.ents n).ride.rider = who) && decide (some n ≠ but)) = true then [entAt D.ents n] else [] := by
  unfold Desk.books
  rw [List.range_succ, List.filter_append, List.map_append]
  congr 1
  simp only [List.filter_cons, List.filter_nil]
  split <;> rfl

theorem sumSize_append (l : List Ent) (e : Ent) : Desk.sumSize (l ++ [e]) = Desk.sumSize l + e.ride.size := by
  unfold Desk.sumSize; rw [List.foldl_append]; rfl

theorem sumSize_bound {l : List Ent} (h : ∀ e ∈ l, Fit e.ride) : ∀ n : Int, -4398046511104 * (l.length : Int) ≤ l.foldl (fun n e => n + e.ride.size) n - n ∧ l.foldl (fun n e => n + e.ride.size) n - n ≤ 4398046511104 * (l.length : Int) := by
  induction l with
  | nil => intro n; simp
  | cons e l ih =>
    intro n
    have h1 := size_bound (h e (by simp))
    have h2 := ih (fun x hx => h x (by simp [hx])) (n + e.ride.size)
    simp only [List.foldl_cons, List.length_cons]
    omega

def ptrO (A : Addr) (but : Option Nat) : AV :=
  match but with
  | none => .nilptr
  | some j => P0 (A.ps.getD j 0)

theorem neq_ptr {H : Heap} {d : Nat} {A : Addr} {D : Desk} {rs : List Int} (h : Rep H d A D rs) {i : Nat} (hi : i < A.ps.length) (but : Option Nat) (hb : ∀ j, but = some j → j < A.ps.length) : binAV H .neq .ptr (P0 A.ps[i]) (ptrO A but) = some (.bool (decide (some i ≠ but))) := by
  obtain ⟨g, hg⟩ := h.tags
  cases but with
  | none =>
    show binAV H .neq .ptr (P0 A.ps[i]) .nilptr = _
    simp [binAV, eqAV]
  | some j =>
    have hj := hb j rfl
    have e : ptrO A (some j) = P0 A.ps[j] := by
      show P0 (A.ps.getD j 0) = _
      rw [List.getD_eq_getElem?_getD, List.getElem?_eq_getElem hj]; rfl
    rw [e]
    by_cases hij : i = j
    · subst hij
      simp [binAV, eqAV]
    · have hne : A.ps[i] ≠ A.ps[j] := fun e => by have h1 := hg.ps i hi; have h2 := hg.ps j hj; rw [e] at h1; omega
      have l1 : Heap.live H A.ps[i] = true := by unfold Heap.live; rw [h.ents i hi]; rfl
      have l2 : Heap.live H A.ps[j] = true := by unfold Heap.live; rw [h.ents j hj]; rfl
      simp [binAV, eqAV, hne, l1, l2, hij]

theorem permits_ok {H : Heap} {d : Nat} {A : Addr} {D : Desk} {rs : List Int} (h : Rep H d A D rs) (hn : Neat D) {r : Ride} (hr : Fit r) (t : Int) (but : Option Nat) (hb : ∀ j, but = some j → j < A.ps.length) :
    cutCall (R prog) f_request_desk_permits [P0 d, encRide r, I t, ptrO A but] H = some (.bool (D.permits r t but), H) := by
  refine cut_same ?_
  refine r_request_desk_permits _ _ _ _ _ ?_
  have hlen : lenX (H ++ [.arr 8 [encRide r]]) .slice A.vo = some (I A.ps.length) := by rw [(h.app _).order.len]; simp
  have r1 := h.app [.arr 8 [encRide r]]
  have lk := lookup_map_ok encRider (.agg [.str [], .int .i64 0, .int .i64 0]) r.rider r1.tab
  have hs := hr.seats
  have hw := hr.wheels
  obtain ⟨w, hw1, hw2⟩ : ∃ w : Rider, ((look r.rider D.tab).map encRider).getD (.agg [.str [], .int .i64 0, .int .i64 0]) = encRider w ∧ ∀ x, look r.rider D.tab = some x → w = x := by
    cases look r.rider D.tab with
    | none => exact ⟨⟨[], 0, 0⟩, rfl, fun x hx => by cases hx⟩
    | some x => exact ⟨x, rfl, fun y hy => Option.some.inj hy⟩
  rw [hw1] at lk
  have b1 : boxAV 3 (.agg [.str [], .int .i64 0, .int .i64 0]) (H ++ [.arr 8 [encRide r]]) = some (.ptr (H.length + 1) 0 0, H ++ [.arr 8 [encRide r]] ++ [.arr 3 [encRider ⟨[], 0, 0⟩]]) := by
    have := box_rider0 (H ++ [.arr 8 [encRide r]])
    rwa [List.length_append] at this
  have b2 : storeAV (H ++ [.arr 8 [encRide r]] ++ [.arr 3 [encRider ⟨[], 0, 0⟩]]) 3 (.ptr (H.length + 1) 0 0) (encRider w) = some (H ++ [.arr 8 [encRide r]] ++ [.arr 3 [encRider w]]) := by
    have := put_rider (H ++ [.arr 8 [encRide r]]) ⟨[], 0, 0⟩ w
    simpa using this
  have g1 : (H ++ [.arr 8 [encRide r]] ++ [.arr 3 [encRider w]])[H.length]? = some (.arr 8 [encRide r]) := app_old _ (last_get H _)
  have g2 : (H ++ [.arr 8 [encRide r]] ++ [.arr 3 [encRider w]])[H.length + 1]? = some (.arr 3 [encRider w]) := by
    simp
  have r3 := r1.app [.arr 3 [encRider w]]
  have hlen3 : lenX (H ++ [.arr 8 [encRide r]] ++ [.arr 3 [encRider w]]) .slice A.vo = some (I A.ps.length) := by rw [r3.order.len]; simp
  simp only [box_ride, desk_rm r1.desk, ride_rider (last_get _ _), lk, b1, b2, SS]
  have hout : ∃ l, H ++ [.arr 8 [encRide r]] ++ [.arr 3 [encRider w]] = H ++ l := ⟨_, List.append_assoc _ _ _⟩
  generalize H ++ [.arr 8 [encRide r]] ++ [.arr 3 [encRider w]] = H3 at g1 g2 r3 hlen3 hout ⊢
  simp only [ride_seats g1, ride_wheels g1, desk_vo r3.desk, hlen3, SS]
  rw [add64 _ _ (by omega) (by omega)]
  simp only [SS]
  generalize hK : (fun v2_1 v3_1 v5 v9 v10 v11 v12 H4 => _ : AV → AV → AV → AV → AV → AV → AV → Heap → Option (AV × Heap)) = K
  have key : ∀ (m i : Nat), m + i = A.ps.length → Yl (K (I t) (ptrO A but) (.ptr H.length 0 0) (.ptr (H.length + 1) 0 0) (.bool (look r.rider D.tab).isSome) (I ((D.books r.rider but A.ps.length).length : Int)) (I (r.size + Desk.sumSize (D.books r.rider but A.ps.length))) H3) (fun v H' => (∃ l, H' = H ++ l) ∧ snap H' deep v = some (.bool (D.permits r t but)) ∧ above H' H.length deep v = true) →
      Yl (l_request_desk_permits_0 (I t) (ptrO A but) (.ptr H.length 0 0) (.ptr (H.length + 1) 0 0) (.bool (look r.rider D.tab).isSome) (I ((D.books r.rider but i).length : Int)) (I (r.size + Desk.sumSize (D.books r.rider but i))) A.vo (I A.ps.length) (I i) H3 K) (fun v H' => (∃ l, H' = H ++ l) ∧ snap H' deep v = some (.bool (D.permits r t but)) ∧ above H' H.length deep v = true) := by
    intro m
    induction m with
    | zero =>
      intro i hm hq
      refine l_request_desk_permits_0_s _ _ _ _ _ _ _ _ _ _ _ _ ?_
      obtain rfl : i = A.ps.length := by omega
      simp only [SS]
      rw [if_neg (by omega)]
      exact hq
    | succ m ih =>
      intro i hm hq
      refine l_request_desk_permits_0_s _ _ _ _ _ _ _ _ _ _ _ _ ?_
      have hi : i < A.ps.length := by omega
      have hi12 : i < 12 := by have := h.len; have := hn.ents; omega
      obtain ⟨p, e1, e2⟩ := r3.order.loadL (lay_ptr id) (i := i) hi
      have e2 : loadAV H3 none p = some (P0 A.ps[i]) := e2
      have hx := r3.ents i hi
      have hm := entAt_mem (es := D.ents) (i := i) (by rw [← h.len]; exact hi)
      have hf := hn.fit _ hm
      have hst := seats_ok (H := H3) (v := P0 A.ps[i]) (snap_ent hx 10) hf
      have hnp := neq_ptr r3 hi but hb
      have hsz := size_bound hf
      have hsr := size_bound hr
      have hbl : (D.books r.rider but i).length ≤ i := by
        unfold Desk.books
        rw [List.length_map]
        have := List.length_filter_le (fun i => (entAt D.ents i).opn && decide ((entAt D.ents i).ride.rider = r.rider) && decide (some i ≠ but)) (List.range i)
        rwa [List.length_range] at this
      have hbf : ∀ e ∈ D.books r.rider but i, Fit e.ride := by
        intro e he
        obtain ⟨j, hj, rfl⟩ := List.mem_map.1 he
        have := List.mem_range.1 (List.mem_filter.1 hj).1
        exact hn.fit _ (entAt_mem (by rw [← h.len]; omega))
      have hsb := sumSize_bound hbf 0
      have hsb' : -52776558133248 ≤ Desk.sumSize (D.books r.rider but i) ∧ Desk.sumSize (D.books r.rider but i) ≤ 52776558133248 := by
        unfold Desk.sumSize; omega
      have nx := ih (i + 1) (by omega) hq
      rw [books_succ] at nx
      simp only [SS]
      rw [if_pos (by omega)]
      simp only [e1, e2, ent_open hx, ent_rider hx, ride_rider g1, hnp, j_request_desk_permits_1, hst, SS]
      generalize entAt D.ents i = e at nx hsz ⊢
      cases ho : e.opn with
      | false =>
        simp only [ho, Bool.false_and, Bool.false_eq_true, if_false, List.append_nil] at nx
        simp only [SS]
        rw [succ64 _ _ (by omega)]
        simp only [SS]
        exact nx
      | true =>
        simp only [SS]
        by_cases hrd : e.st.ride.rider = r.rider
        · have hrd' : e.ride.rider = r.rider := hrd
          rw [if_pos hrd]
          by_cases hbt : some i = but
          · simp only [ho, hrd', hbt, ne_eq, not_true_eq_false, decide_false, Bool.and_false, Bool.false_eq_true, if_false, List.append_nil] at nx
            simp only [hbt, ne_eq, not_true_eq_false, decide_false, SS]
            rw [succ64 _ _ (by omega)]
            simp only [SS]
            exact nx
          · simp only [ho, hrd', hbt, ne_eq, not_false_eq_true, decide_true, Bool.and_self, if_true, List.length_append, List.length_singleton, sumSize_append] at nx
            simp only [hbt, ne_eq, not_false_eq_true, decide_true, SS]
            rw [succ64 _ _ (by omega), add64 _ _ (by omega) (by omega), succ64 _ _ (by omega)]
            simp only [SS]
            rw [show r.size + Desk.sumSize (D.books r.rider but i) + e.ride.size = r.size + (Desk.sumSize (D.books r.rider but i) + e.ride.size) by omega]
            exact nx
        · have hrd' : ¬ e.ride.rider = r.rider := hrd
          rw [if_neg hrd]
          simp only [ho, hrd', decide_false, Bool.and_false, Bool.false_and, Bool.false_eq_true, if_false, List.append_nil] at nx
          rw [succ64 _ _ (by omega)]
          simp only [SS]
          exact nx
  have k0 := key A.ps.length 0 (by omega)
  have hb0 : D.books r.rider but 0 = [] := rfl
  have hs0 : Desk.sumSize [] = 0 := rfl
  rw [hb0, hs0, Int.add_zero] at k0
  refine k0 ?_
  have hbk : D.books r.rider but A.ps.length = D.bookings r.rider but := by unfold Desk.books Desk.bookings; rw [h.len]
  rw [hbk]
  subst hK
  have hnil : binAV H3 .neq .ptr (ptrO A but) .nilptr = some (.bool but.isSome) := by
    cases but with
    | none => rfl
    | some j => rfl
  simp only [rider_opn g2, rider_seats g2, ride_ready g1, hnil, SS]
  have fin : ∀ b : Bool, b = D.permits r t but → (∃ l, H3 = H ++ l) ∧ snap H3 deep (.bool b) = some (.bool (D.permits r t but)) ∧ above H3 H.length deep (.bool b) = true := by
    rintro b rfl
    exact ⟨hout, rfl, rfl⟩
  unfold Desk.permits at fin ⊢
  cases hlk : look r.rider D.tab with
  | none =>
    rw [hlk] at fin
    simp only [Option.isSome_none, SS]
    exact fin false rfl
  | some x =>
    have hwx := hw2 x hlk
    subst hwx
    rw [hlk] at fin
    simp only [Option.isSome_some, SS] at fin ⊢
    generalize (((D.bookings r.rider but).length : Nat) : Int) = n at fin ⊢
    generalize r.size + Desk.sumSize (D.bookings r.rider but) = z at fin ⊢
    cases hbs : but.isSome with
    | true =>
      rw [hbs] at fin
      by_cases c1 : z ≤ w.seats
      · simp only [c1, SS] at fin ⊢
        exact fin _ (by simp)
      · simp only [c1, SS] at fin ⊢
        exact fin _ (by simp)
    | false =>
      rw [hbs] at fin
      by_cases c0 : n < w.opn
      · by_cases c1 : z ≤ w.seats
        · simp only [c0, c1, SS] at fin ⊢
          exact fin _ (by simp)
        · simp only [c0, c1, SS] at fin ⊢
          exact fin _ (by simp)
      · simp only [c0, SS] at fin ⊢
        exact fin _ (by simp)
end Y
end Go.Proofs.YtplginnkececaaaGreatDoor

set_option linter.unusedSimpArgs false
set_option linter.unusedVariables false
namespace Go.Proofs.YtplginnkececaaaGreatDoor
open Go
namespace Y
open X

theorem nodup_len {α : Type} [DecidableEq α] : ∀ {l m : List α}, l.Nodup → (∀ a ∈ l, a ∈ m) → l.length ≤ m.length
  | [], _, _, _ => by simp
  | a :: l, m, hn, hs => by
    rw [List.nodup_cons] at hn
    have ha := hs a (by simp)
    have := nodup_len (l := l) (m := m.erase a) hn.2 fun b hb => by
      have hne : b ≠ a := fun e => hn.1 (e ▸ hb)
      exact (List.mem_erase_of_ne hne).2 (hs b (by simp [hb]))
    rw [List.length_erase_of_mem ha] at this
    have := List.length_pos_of_mem ha
    simp only [List.length_cons]; omega

structure Ids (D : Desk) : Prop where
  nodup : (D.ents.map fun e => e.ride.id).Nodup
  mem : ∀ e ∈ D.ents, e.ride.id ∈ idsR

theorem Ids.len {D : Desk} (h : Ids D) : D.ents.length ≤ 6 := by
  have := nodup_len (m := idsR) h.nodup fun s hs => by
    obtain ⟨e, he, rfl⟩ := List.mem_map.1 hs
    exact h.mem e he
  simpa [idsR] using this

theorem ids_of_core {D D' : Desk} (h : core D.ents = core D'.ents) (i : Ids D) : Ids D' := by
  have key : ∀ es : List Ent, es.map (fun e => e.ride.id) = (core es).map fun p => p.1.id := by
    intro es; simp [core, coreE, List.map_map]
  refine ⟨by rw [key, ← h, ← key]; exact i.nodup, fun e he => ?_⟩
  have : coreE e ∈ core D.ents := by rw [h]; exact List.mem_map.2 ⟨e, he, rfl⟩
  obtain ⟨e', he', hc⟩ := List.mem_map.1 this
  have := i.mem e' he'
  simp only [coreE, Prod.mk.injEq] at hc
  rw [hc.1] at this; exact this

theorem look_id {es : List Ent} {ps : List Nat} (h : ps.length = es.length) (id : Str) : look id (idTab es ps) = (Desk.findId es id).map fun i => ps.getD i 0 := by
  induction es generalizing ps with
  | nil => rfl
  | cons e es ih =>
    cases ps with
    | nil => simp at h
    | cons p ps =>
      have := ih (ps := ps) (by simpa using h)
      simp only [idTab, List.map_cons, List.zip_cons_cons, look, Desk.findId, List.findIdx?_cons] at this ⊢
      by_cases hid : id = e.ride.id
      · simp [hid]
      · have hid' : decide (e.ride.id = id) = false := by simpa using Ne.symm hid
        rw [if_neg hid, this, hid']
        simp only [Bool.false_eq_true, if_false, Option.map_map]
        congr 1

theorem build_st (r : Ride) : buildAV [.str [], .str [], .str [], .str [], .int .i64 0, .int .i64 0, .int .i64 0, .int .i64 0, .int .i64 0, .int .i64 0] [(0, 8, encRide r)] = some (encSt ⟨r, 0, 0⟩) := (rfl)
theorem build_ent (s : Standing) : buildAV [.str [], .str [], .str [], .str [], .int .i64 0, .int .i64 0, .int .i64 0, .int .i64 0, .int .i64 0, .int .i64 0, .bool false] [(0, 10, encSt s), (10, 1, .bool true)] = some (encEnt ⟨s, true⟩) := (rfl)
theorem box_ent (H : Heap) (e : Ent) : boxAV 11 (encEnt e) H = some (P0 H.length, H ++ [entB e]) := box_ok rfl rfl
theorem build_ask' (t k : Int) (r : Ride) : buildAV [.int .i64 0, .int .i64 0, .str [], .str [], .str [], .str [], .int .i64 0, .int .i64 0, .int .i64 0, .int .i64 0] [(0, 1, I t), (1, 1, I k), (2, 8, encRide r)] = some (encAsk ⟨t, k, r⟩) := (rfl)

theorem usedBy_len (D : Desk) (r : Ride) : (D.usedBy r).length = D.used.length := by
  unfold Desk.usedBy; split <;> simp

theorem place_new (D : Desk) (e : Ent) (t : Int) : ({ D with ents := D.ents ++ [e] } : Desk).place D.ents.length t = { D with used := D.usedBy e.ride, ents := D.ents ++ [⟨⟨e.ride, if D.fits e.ride then 1 else 2, t⟩, e.opn⟩] } := by
  rw [place_eq]
  have h1 : entAt (D.ents ++ [e]) D.ents.length = e := by simp [entAt]
  simp only [Desk.setEnt, h1]
  have h2 : (D.ents ++ [e]).set D.ents.length ⟨⟨e.ride, if ({ D with ents := D.ents ++ [e] } : Desk).fits e.ride then 1 else 2, t⟩, e.opn⟩ = D.ents ++ [⟨⟨e.ride, if D.fits e.ride then 1 else 2, t⟩, e.opn⟩] := by
    rw [List.set_append_right _ _ (Nat.le_refl _)]; simp; rfl
  rw [h2]; rfl

theorem Good.pushed {D : Desk} (h : Good D) (hi : Ids D) {r : Ride} (hf : Fit r) (hs : 0 ≤ r.size) (t : Int) : Good (({ D with ents := D.ents ++ [⟨⟨r, 0, 0⟩, true⟩] } : Desk).place D.ents.length t) := by
  have hl := hi.len
  refine ⟨?_, ?_, ?_, ?_, ?_⟩
  · rw [Desk.place_state D D.ents ⟨⟨r, 0, 0⟩, true⟩ ⟨⟨r, 2, 0⟩, true⟩ t rfl rfl]
    have e1 : entAt (D.ents ++ [⟨⟨r, 2, 0⟩, true⟩]) D.ents.length = ⟨⟨r, 2, 0⟩, true⟩ := by simp [entAt]
    have e2 : ∀ j, j < D.ents.length → entAt (D.ents ++ [⟨⟨r, 2, 0⟩, true⟩]) j = entAt D.ents j := by
      intro j hj; simp [entAt, List.getD_eq_getElem?_getD, List.getElem?_append_left hj]
    have : Inv (fun _ _ => True) ({ D with ents := D.ents ++ [⟨⟨r, 2, 0⟩, true⟩] } : Desk) := by
      have key : ∀ j, j < (D.ents ++ [(⟨⟨r, 2, 0⟩, true⟩ : Ent)]).length → j = D.ents.length ∨ j < D.ents.length := by
        intro j hj; simp only [List.length_append, List.length_singleton] at hj; omega
      refine ⟨h.inv.len, fun k hk => ?_, h.inv.most, fun j hj => ?_, fun j hj => ?_, fun j hj => ?_, fun j k hj _ _ _ hc => absurd trivial hc⟩
      · simp only
        rw [sumE_append, h.inv.used k hk]
        have : cost D.rooms k ⟨⟨r, 2, 0⟩, true⟩ = 0 := by unfold cost; rw [if_neg]; simp
        omega
      · rcases key j hj with rfl | hj
        · simp only [e1]; exact hs
        · simp only [e2 j hj]; exact h.inv.size j hj
      · rcases key j hj with rfl | hj
        · rw [e1]; exact fun _ => .inr rfl
        · simp only [e2 j hj]; exact h.inv.state j hj
      · rcases key j hj with rfl | hj
        · rw [e1]; exact fun _ hc => by cases hc
        · simp only [e2 j hj]; exact h.inv.sure j hj
    exact Desk.Inv.weak (Desk.inv_place this (i := D.ents.length) (by simp) (by simp only [e1]) (by simp only [e1]; decide) t) fun _ _ _ _ _ _ _ => trivial
  · rw [place_new]; exact h.rooms
  · rw [place_new]; exact h.seats
  · rw [place_new]
    intro e he
    rcases List.mem_append.1 he with he | he
    · exact h.fit e he
    · simp at he; subst he; exact hf
  · rw [place_new]; simp; omega

theorem follow_new {H : Heap} {d : Nat} {A : Addr} {D : Desk} {rs : List Int} (h : Rep H d A D rs) (hg : Good D) (hi : Ids D) {a : Ask} (hf : FitA a) (hid : a.ride.id ∈ idsR) (hs : 0 ≤ a.ride.size) (hnone : Desk.findId D.ents a.ride.id = none) (hp : D.permits a.ride a.at' none = true) (hk : a.kind = 1) :
    ∃ A' H', R prog f_request_desk_follow [P0 d, encAsk a] H = some (.bool true, H') ∧ Rep H' d A' (({ D with ents := D.ents ++ [⟨⟨a.ride, 0, 0⟩, true⟩] } : Desk).place D.ents.length a.at') rs ∧ Fr H H' d A A' := by
  have h1 := h.app [.arr 10 [encAsk a]]
  have hbox : (H ++ [.arr 10 [encAsk a]])[H.length]? = some (.arr 10 [encAsk a]) := last_get H _
  have hcout : Out d A H.length := h.out (Nat.le_refl _)
  have hpm := permits_ok h1 hg.neat hf.ride a.at' none (fun j hj => by cases hj)
  have hlk := lookup_map P0 .nilptr a.ride.id h1.all
  rw [look_id h.len, hnone] at hlk
  generalize hH1 : H ++ [.arr 10 [encAsk a]] = H1 at h1 hbox hpm hlk
  have h2 := h1.app [entB ⟨⟨a.ride, 0, 0⟩, true⟩]
  have hp2 : (H1 ++ [entB ⟨⟨a.ride, 0, 0⟩, true⟩])[H1.length]? = some (entB ⟨⟨a.ride, 0, 0⟩, true⟩) := last_get H1 _
  have hbox2 := app_old [entB ⟨⟨a.ride, 0, 0⟩, true⟩] hbox
  have hpout : Out d A H1.length := h1.out (Nat.le_refl _)
  obtain ⟨H3, e1, e2, e3, e4, e5⟩ := place_ok h2 hg.neat hp2 hf.ride hpout.vu a.at'
  have hcp : H.length ≠ H1.length := by rw [← hH1]; simp
  generalize hE : (⟨⟨a.ride, if D.fits a.ride then 1 else 2, a.at'⟩, true⟩ : Ent) = E
  have e1 : R prog f_request_desk_place [P0 d, P0 H1.length, I a.at'] (H1 ++ [entB ⟨⟨a.ride, 0, 0⟩, true⟩]) = some (.tuple [], H3.set H1.length (entB E)) := by rw [← hE]; exact e1
  have r3 := (h2.setUsed e2 e3).setOut hpout (entB E)
  have hp3 : (H3.set H1.length (entB E))[H1.length]? = some (entB E) := set_same _ e5
  have hbox3 : (H3.set H1.length (entB E))[H.length]? = some (.arr 10 [encAsk a]) := set_other _ hcp (e3.old _ _ hbox2 hcout.vu).1
  have hEr : E.ride = a.ride := by rw [← hE]
  have hidn : ∀ x ∈ D.ents, x.ride.id ≠ E.ride.id := by
    intro x hx
    unfold Desk.findId at hnone
    rw [List.findIdx?_eq_none_iff] at hnone
    have := hnone x hx
    rw [hEr]; simpa using this
  obtain ⟨H4, v', H6, f1, f2, f3, f4, f5, f6, f7, f8⟩ := r3.pushEnt (p := H1.length) (e := E) hp3 hpout hidn (by have := hi.len; show D.ents.length < _; omega)
  rw [hEr] at f1
  have hbx0 : boxAV 11 (encEnt ⟨⟨a.ride, 0, 0⟩, true⟩) H1 = some (P0 H1.length, H1 ++ [entB ⟨⟨a.ride, 0, 0⟩, true⟩]) := box_ent _ _
  have hlit : litAV 1 [.nilptr] [(0, P0 H1.length)] true H4 = some (.slice H4.length 0 1, H4 ++ [.arr 1 [P0 H1.length]]) := lit_own rfl rfl
  have hst := desk_put_vo f4 v' f5 (A.ps ++ [H1.length])
  suffices hh : Yl (R prog f_request_desk_follow [P0 d, encAsk a] H) fun v H' => v = .bool true ∧ H' = H6.set d (deskB { A with vo := v', ps := A.ps ++ [H1.length] }) by
    obtain ⟨v, H', a1, rfl, rfl⟩ := hh
    refine ⟨{ A with vo := v', ps := A.ps ++ [H1.length] }, _, a1, ?_, ?_⟩
    · rw [place_new]
      have hE' : (⟨⟨(⟨⟨a.ride, 0, 0⟩, true⟩ : Ent).ride, if D.fits (⟨⟨a.ride, 0, 0⟩, true⟩ : Ent).ride then 1 else 2, a.at'⟩, (⟨⟨a.ride, 0, 0⟩, true⟩ : Ent).opn⟩ : Ent) = E := hE
      rw [hE']; exact f6
    · refine ⟨?_, fun b k hb ho => ?_⟩
      · have := e4; simp at f7 ⊢; rw [← hH1] at this; simp at this; omega
      · have hbl := (List.getElem?_eq_some_iff.1 hb).1
        have hb1 : H1[b]? = some k := by rw [← hH1]; exact app_old _ hb
        have hbp : b ≠ H1.length := by rw [← hH1]; simp; omega
        exact f8 b k (set_other _ hbp (e3.old b k (app_old _ hb1) ho.vu).1) ho hbp
  refine r_request_desk_follow _ _ _ ?_
  rw [box_ask, hH1]
  have hnn : ∀ H, binAV H .neq .ptr .nilptr .nilptr = some (.bool false) := fun _ => rfl
  have hptr : ptrO A none = .nilptr := rfl
  rw [hptr] at hpm
  simp only [desk_am h1.desk, ask_id hbox, ask_kind hbox, ask_ride hbox, ask_at hbox, hlk, hk, decide_true, Option.map_none, Option.getD_none, hnn, hpm, hp, SS]
  simp only [build_st, build_ent, hbx0, ask_at hbox2, e1, desk_am r3.desk, ask_id hbox3, f1, desk_vo f2, hlit, f3, hst, SS]
  exact ⟨trivial, trivial⟩

theorem follow_no {H : Heap} {d : Nat} {A : Addr} {D : Desk} {rs : List Int} (h : Rep H d A D rs) (hg : Good D) {a : Ask} (hf : FitA a) (hno : D.follow a = none) :
    ∃ H', R prog f_request_desk_follow [P0 d, encAsk a] H = some (.bool false, H') ∧ Ext0 H H' := by
  have h1 := h.app [.arr 10 [encAsk a]]
  have hbox : (H ++ [.arr 10 [encAsk a]])[H.length]? = some (.arr 10 [encAsk a]) := last_get H _
  have hlk := lookup_map P0 .nilptr a.ride.id h1.all
  rw [look_id h.len] at hlk
  generalize hH1 : H ++ [.arr 10 [encAsk a]] = H1 at h1 hbox hlk
  have hx1 : Ext0 H H1 := by rw [← hH1]; exact Ext0.app _ _
  suffices hh : Yl (R prog f_request_desk_follow [P0 d, encAsk a] H) fun v H' => v = .bool false ∧ H' = H1 by
    obtain ⟨v, H', a1, rfl, rfl⟩ := hh
    exact ⟨_, a1, hx1⟩
  refine r_request_desk_follow _ _ _ ?_
  rw [box_ask, hH1]
  have hnn : ∀ H, binAV H .neq .ptr .nilptr .nilptr = some (.bool false) := fun _ => rfl
  have hne : ∀ H, binAV H .eql .ptr .nilptr .nilptr = some (.bool true) := fun _ => rfl
  have hpn : ∀ H b, binAV H .neq .ptr (P0 b) .nilptr = some (.bool true) := fun _ _ => rfl
  have hpe : ∀ H b, binAV H .eql .ptr (P0 b) .nilptr = some (.bool false) := fun _ _ => rfl
  unfold Desk.follow at hno
  cases hfd : Desk.findId D.ents a.ride.id with
  | none =>
    rw [hfd] at hno hlk
    have hpm := permits_ok h1 hg.neat hf.ride a.at' none (fun j hj => by cases hj)
    have hptr : ptrO A none = .nilptr := rfl
    rw [hptr] at hpm
    simp only [desk_am h1.desk, ask_id hbox, ask_kind hbox, ask_ride hbox, ask_at hbox, hlk, Option.map_none, Option.getD_none, hnn, hne, hpm, SS]
    by_cases hk : a.kind = 1
    · have hpf : D.permits a.ride a.at' none = false := by
        cases hp : D.permits a.ride a.at' none with
        | false => rfl
        | true => simp [hk, hp] at hno
      simp only [hk, hpf, SS]
      exact ⟨trivial, trivial⟩
    · simp only [hk, SS]
      exact ⟨trivial, trivial⟩
  | some i =>
    rw [hfd] at hno hlk
    have hil : i < D.ents.length := (List.findIdx?_eq_some_iff_getElem.1 hfd).1
    have hip : i < A.ps.length := by rw [h.len]; exact hil
    have hpm := permits_ok h1 hg.neat hf.ride a.at' (some i) (fun j hj => by cases hj; exact hip)
    have hpt : A.ps.getD i 0 = A.ps[i] := by rw [List.getD_eq_getElem?_getD, List.getElem?_eq_getElem hip]; rfl
    have hptr : ptrO A (some i) = P0 A.ps[i] := congrArg P0 hpt
    rw [hptr] at hpm
    have hx := h1.ents i hip
    simp only [Option.map_some, Option.getD_some, hpt] at hlk
    simp only [desk_am h1.desk, ask_id hbox, ask_kind hbox, ask_ride hbox, ask_at hbox, ask_rider hbox, ent_open hx, ent_rider hx, ent_ready hx, hlk, hpn, hpe, hpm, j_request_desk_follow_2, SS]
    simp only at hno
    generalize entAt D.ents i = e at hno hx ⊢
    by_cases hk : a.kind = 1
    · simp only [hk, SS]
      exact ⟨trivial, trivial⟩
    · simp only [hk, SS]
      cases ho : e.opn with
      | false =>
        simp only [SS]
        exact ⟨trivial, trivial⟩
      | true =>
        simp only [SS]
        by_cases hrd : e.st.ride.rider = a.ride.rider
        · have hrd' : e.ride.rider = a.ride.rider := hrd
          simp only [hk, ho, hrd', false_or, Bool.true_eq_false, ne_eq, not_true_eq_false, if_false] at hno
          simp only [hrd, ne_eq, not_true_eq_false, if_false]
          by_cases h2 : a.kind = 2
          · simp only [h2, if_true]
            cases hp : D.permits a.ride a.at' (some i) with
            | false =>
              simp only [SS]
              exact ⟨trivial, trivial⟩
            | true =>
              exfalso
              simp [h2, hp] at hno
          · simp only [h2, if_false, SS]
            by_cases h4 : a.kind = 4
            · simp only [h4, if_true, SS]
              by_cases hrr : a.at' < e.st.ride.ready
              · simp only [hrr, if_true]
                exact yl_some.2 ⟨rfl, rfl⟩
              · exfalso
                have hrr' : ¬ a.at' < e.ride.ready := hrr
                simp [h2, h4, hrr'] at hno
            · exfalso
              simp [h2, h4] at hno
        · simp only [hrd, ne_eq, not_false_eq_true, if_true]
          exact yl_some.2 ⟨rfl, rfl⟩
end Y
end Go.Proofs.YtplginnkececaaaGreatDoor
