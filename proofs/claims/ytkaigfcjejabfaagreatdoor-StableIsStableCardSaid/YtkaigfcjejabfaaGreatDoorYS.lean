/- Sorting by insertion: what it computes, and slices.SortFunc of at most twelve deals. No condition. -/
import Derived.Test.YtkaigfcjejabfaaGreatDoorYG
import Derived.Test.YtkaigfcjejabfaaGreatDoorYO
set_option linter.unusedSimpArgs false
set_option linter.unusedVariables false
namespace Go.Proofs.YtkaigfcjejabfaaGreatDoor
open Go
namespace Y
open X

/-- An element sinks: 'r' stands before it, backwards; 's' behind it. -/
def sink {α : Type} (c : α → α → Int) : List α → α → List α → List α
  | [], x, s => x :: s
  | y :: r, x, s => if c x y < 0 then sink c r x (y :: s) else (y :: r).reverse ++ x :: s

def sortGo {α : Type} (c : α → α → Int) : List α → List α → List α
  | d, [] => d
  | d, x :: l => sortGo c (sink c d.reverse x []) l

def sortI {α : Type} (c : α → α → Int) : List α → List α
  | [] => []
  | x :: l => sortGo c [x] l

theorem sink_perm {α : Type} (c : α → α → Int) : ∀ (r : List α) (x : α) (s : List α), (sink c r x s).Perm (r.reverse ++ x :: s)
  | [], x, s => by simp [sink]
  | y :: r, x, s => by
    unfold sink
    split
    · refine (sink_perm c r x (y :: s)).trans ?_
      simp only [List.reverse_cons, List.append_assoc, List.singleton_append]
      exact List.Perm.append_left _ (List.Perm.swap _ _ _)
    · exact List.Perm.refl _

theorem sink_len {α : Type} (c : α → α → Int) (r : List α) (x : α) (s : List α) : (sink c r x s).length = r.length + s.length + 1 := by
  rw [(sink_perm c r x s).length_eq]; simp; omega

theorem sortGo_perm {α : Type} (c : α → α → Int) : ∀ (l d : List α), (sortGo c d l).Perm (d ++ l)
  | [], d => by simp [sortGo]
  | x :: l, d => by
    unfold sortGo
    refine (sortGo_perm c l _).trans ?_
    have := sink_perm c d.reverse x []
    rw [List.reverse_reverse] at this
    refine (this.append_right l).trans ?_
    simp

theorem sortI_perm {α : Type} (c : α → α → Int) (l : List α) : (sortI c l).Perm l := by
  cases l with
  | nil => exact List.Perm.refl _
  | cons x l => exact sortGo_perm c l [x]

/-- Sinking into what is in order. -/
theorem sink_sorted {α : Type} {c : α → α → Int} {lt ne : α → α → Prop} (hc : ∀ a b, c a b < 0 → lt a b) (ht : ∀ a b, ne a b → ¬ c a b < 0 → lt b a) (tr : ∀ a b d, lt a b → lt b d → lt a d) :
    ∀ (r : List α) (x : α) (s : List α), (r.reverse ++ s).Pairwise lt → (∀ y ∈ s, lt x y) → (∀ y ∈ r, ne x y) → (sink c r x s).Pairwise lt
  | [], x, s, hp, hs, _ => by
    simp only [sink, List.pairwise_cons]
    exact ⟨hs, by simpa using hp⟩
  | y :: r, x, s, hp, hs, hn => by
    unfold sink
    split
    · rename_i h
      refine sink_sorted hc ht tr r x (y :: s) (by simpa using hp) (fun z hz => ?_) fun z hz => hn z (by simp [hz])
      rcases List.mem_cons.1 hz with rfl | hz
      · exact hc _ _ h
      · exact hs z hz
    · rename_i h
      have hyx : lt y x := ht x y (hn y (by simp)) h
      rw [List.pairwise_append] at hp ⊢
      obtain ⟨p1, p2, p3⟩ := hp
      refine ⟨p1, by rw [List.pairwise_cons]; exact ⟨hs, p2⟩, fun a ha b hb => ?_⟩
      rcases List.mem_cons.1 hb with rfl | hb
      · rw [List.mem_reverse] at ha
        rcases List.mem_cons.1 ha with rfl | ha
        · exact hyx
        · refine tr _ _ _ ?_ hyx
          rw [List.reverse_cons, List.pairwise_append] at p1
          exact p1.2.2 a (by simpa using ha) y (by simp)
      · exact p3 a ha b hb

theorem sortGo_sorted {α : Type} {c : α → α → Int} {lt ne : α → α → Prop} (hc : ∀ a b, c a b < 0 → lt a b) (ht : ∀ a b, ne a b → ¬ c a b < 0 → lt b a) (tr : ∀ a b d, lt a b → lt b d → lt a d) (sy : ∀ a b, ne a b → ne b a) :
    ∀ (l d : List α), d.Pairwise lt → (d ++ l).Pairwise ne → (sortGo c d l).Pairwise lt
  | [], d, hd, _ => hd
  | x :: l, d, hd, hn => by
    unfold sortGo
    have hx : ∀ y ∈ d.reverse, ne x y := by
      intro y hy
      rw [List.pairwise_append] at hn
      exact sy _ _ (hn.2.2 y (by simpa using hy) x (by simp))
    refine sortGo_sorted hc ht tr sy l _ (sink_sorted hc ht tr d.reverse x [] (by simpa using hd) (by simp) hx) ?_
    have := (sink_perm c d.reverse x []).append_right l
    rw [List.reverse_reverse] at this
    refine (this.pairwise_iff fun h => sy _ _ h).2 ?_
    simpa using hn

theorem sortI_sorted {α : Type} {c : α → α → Int} {lt ne : α → α → Prop} (hc : ∀ a b, c a b < 0 → lt a b) (ht : ∀ a b, ne a b → ¬ c a b < 0 → lt b a) (tr : ∀ a b d, lt a b → lt b d → lt a d) (sy : ∀ a b, ne a b → ne b a)
    {l : List α} (hn : l.Pairwise ne) : (sortI c l).Pairwise lt := by
  cases l with
  | nil => exact .nil
  | cons x l => exact sortGo_sorted hc ht tr sy l [x] (by simp) hn

/-- What is in order is told by its elements. -/
theorem sorted_eq {α : Type} {lt : α → α → Prop} (ir : ∀ a, ¬ lt a a) (tr : ∀ a b d, lt a b → lt b d → lt a d) : ∀ {l m : List α}, l.Perm m → l.Pairwise lt → m.Pairwise lt → l = m
  | [], m, h, _, _ => by simpa using h.symm
  | x :: l, [], h, _, _ => by have := h.length_eq; simp at this
  | x :: l, y :: m, h, h1, h2 => by
    rw [List.pairwise_cons] at h1 h2
    have hxy : x = y := by
      have hx : x ∈ y :: m := h.subset (by simp)
      have hy : y ∈ x :: l := h.symm.subset (by simp)
      rcases List.mem_cons.1 hx with e | hx
      · exact e
      · rcases List.mem_cons.1 hy with e | hy
        · exact e.symm
        · exact (ir _ (tr _ _ _ (h1.1 _ hy) (h2.1 _ hx))).elim
    subst hxy
    rw [sorted_eq ir tr (h.cons_inv) h1.2 h2.2]

/-! ### the library's -/

section
variable {α : Type} {enc : α → AV} {c : α → α → Int} {cmp v : AV}

theorem set_swap {α : Type} (f : α → AV) (p : List α) (y x : α) (s : List α) :
    (((p ++ y :: x :: s).map f).set (p.length + 1) (f y)).set p.length (f x) = (p ++ x :: y :: s).map f := by
  simp [List.set_append]

theorem ins_in (hz : ∀ a, ∃ cs, enc a = .agg cs ∧ cs.length = 2 ∧ cs.all AV.storable = true)
    (hc : ∀ a b H (K : AV → Heap → Option (AV × Heap)), callK prog (R prog) cmp [enc a, enc b] H K = K (I (c a b)) H) {i : AV} {n : AV} {k2 : AV → AV → AV → AV → AV → Heap → Option (AV × Heap)} {Q : AV → Heap → Prop} (r : List α) :
    ∀ (x : α) (s t : List α) (H : Heap), (r.length + s.length + t.length < 1000000) → Own H 2 v ((r.reverse ++ x :: s ++ t).map enc) →
    (∀ H', Own H' 2 v ((sink c r x s ++ t).map enc) → Keeps H H' v v → H'.length = H.length → Yl (k2 v (I 0) n cmp i H') Q) → Yl (l_slices_insertionSortCmpFunc_api_Deal_0 v (I 0) n cmp i (I r.length) H k2) Q := by
  induction r with
  | nil =>
    intro x s t H hl ho hk
    refine l_slices_insertionSortCmpFunc_api_Deal_0_s _ _ _ _ _ _ _ _ ?_
    simp only [obind, condK_bool, gB_bool, bin_lss, bin_leq, bin_gtr, bin_geq, bin_eql, bin_neq, str_eql, str_neq, un_not, ext0, ext1, ext2, nilc_ptr, nilc_vptr, fa_ptr, fa_vptr0, load_vptr, len_vslice, len_slice, len_nil, len_str, decide_eq_true_eq, Bool.false_eq_true, if_true, if_false, Bool.not_true, Bool.not_false, Bool.not_eq_true, Bool.not_eq_true', decide_eq_false_iff_not, Bool.true_eq_false, eq_self, Nat.zero_add, Nat.add_zero, load_box, get0, get1, get2, get3, yl_some, List.length_nil]
    rw [if_neg (by omega)]
    exact hk H (by simpa [sink] using ho) (.refl _ _) rfl
  | cons y r ih =>
    intro x s t H hl ho hk
    refine l_slices_insertionSortCmpFunc_api_Deal_0_s _ _ _ _ _ _ _ _ ?_
    have he : (y :: r).reverse ++ x :: s ++ t = r.reverse ++ y :: x :: (s ++ t) := by simp
    rw [he] at ho
    obtain ⟨cx, hx1, hx2, hx3⟩ := hz x
    obtain ⟨cy, hy1, hy2, hy3⟩ := hz y
    have hlen : ((r.reverse ++ y :: x :: (s ++ t)).map enc).length = r.length + (s.length + t.length) + 2 := by simp; omega
    have g1 : ((r.reverse ++ y :: x :: (s ++ t)).map enc)[r.length + 1]'(by omega) = .agg cx := by simp [List.getElem_append_right, hx1]
    have g0 : ((r.reverse ++ y :: x :: (s ++ t)).map enc)[r.length]'(by omega) = .agg cy := by simp [List.getElem_append_right, hy1]
    obtain ⟨p1, e1, e2⟩ := ho.loads (n := r.length + 1) (by omega) g1 hx2
    obtain ⟨p0, e3, e4⟩ := ho.loads (n := r.length) (by omega) g0 hy2
    simp only [List.length_cons] at hl
    simp only [obind, condK_bool, gB_bool, bin_lss, bin_leq, bin_gtr, bin_geq, bin_eql, bin_neq, str_eql, str_neq, un_not, ext0, ext1, ext2, nilc_ptr, nilc_vptr, fa_ptr, fa_vptr0, load_vptr, len_vslice, len_slice, len_nil, len_str, decide_eq_true_eq, Bool.false_eq_true, if_true, if_false, Bool.not_true, Bool.not_false, Bool.not_eq_true, Bool.not_eq_true', decide_eq_false_iff_not, Bool.true_eq_false, eq_self, Nat.zero_add, Nat.add_zero, load_box, get0, get1, get2, get3, yl_some, List.length_cons]
    rw [if_pos (by omega)]
    simp only [e1, e2, obind, condK_bool, gB_bool, bin_lss, bin_leq, bin_gtr, bin_geq, bin_eql, bin_neq, str_eql, str_neq, un_not, ext0, ext1, ext2, nilc_ptr, nilc_vptr, fa_ptr, fa_vptr0, load_vptr, len_vslice, len_slice, len_nil, len_str, decide_eq_true_eq, Bool.false_eq_true, if_true, if_false, Bool.not_true, Bool.not_false, Bool.not_eq_true, Bool.not_eq_true', decide_eq_false_iff_not, Bool.true_eq_false, eq_self, Nat.zero_add, Nat.add_zero, load_box, get0, get1, get2, get3, yl_some]
    rw [pred64 _ _ (by omega) (by omega)]
    simp only [e3, e4, obind, condK_bool, gB_bool, bin_lss, bin_leq, bin_gtr, bin_geq, bin_eql, bin_neq, str_eql, str_neq, un_not, ext0, ext1, ext2, nilc_ptr, nilc_vptr, fa_ptr, fa_vptr0, load_vptr, len_vslice, len_slice, len_nil, len_str, decide_eq_true_eq, Bool.false_eq_true, if_true, if_false, Bool.not_true, Bool.not_false, Bool.not_eq_true, Bool.not_eq_true', decide_eq_false_iff_not, Bool.true_eq_false, eq_self, Nat.zero_add, Nat.add_zero, load_box, get0, get1, get2, get3, yl_some, Nat.add_sub_cancel, g0, g1]
    rw [← hx1, ← hy1, hc]
    simp only [obind, condK_bool, gB_bool, bin_lss, bin_leq, bin_gtr, bin_geq, bin_eql, bin_neq, str_eql, str_neq, un_not, ext0, ext1, ext2, nilc_ptr, nilc_vptr, fa_ptr, fa_vptr0, load_vptr, len_vslice, len_slice, len_nil, len_str, decide_eq_true_eq, Bool.false_eq_true, if_true, if_false, Bool.not_true, Bool.not_false, Bool.not_eq_true, Bool.not_eq_true', decide_eq_false_iff_not, Bool.true_eq_false, eq_self, Nat.zero_add, Nat.add_zero, load_box, get0, get1, get2, get3, yl_some]
    by_cases hlt : c x y < 0
    · rw [if_pos hlt, pred64 _ _ (by omega) (by omega)]
      simp only [e3, e4, e1, e2, obind, condK_bool, gB_bool, bin_lss, bin_leq, bin_gtr, bin_geq, bin_eql, bin_neq, str_eql, str_neq, un_not, ext0, ext1, ext2, nilc_ptr, nilc_vptr, fa_ptr, fa_vptr0, load_vptr, len_vslice, len_slice, len_nil, len_str, decide_eq_true_eq, Bool.false_eq_true, if_true, if_false, Bool.not_true, Bool.not_false, Bool.not_eq_true, Bool.not_eq_true', decide_eq_false_iff_not, Bool.true_eq_false, eq_self, Nat.zero_add, Nat.add_zero, load_box, get0, get1, get2, get3, yl_some, Nat.add_sub_cancel, g0, g1]
      obtain ⟨q1, H1, f1, f2, o1, k1, l1⟩ := ho.store (n := r.length + 1) (x := .agg cy) (by omega) hy2 hy3 (by rw [g1]; exact hx2) (by rw [g1]; simp [AV.setCells, AV.cells, hx2, hy2])
      obtain ⟨q0, H2, f3, f4, o2, k2', l2⟩ := o1.store (n := r.length) (x := .agg cx) (by rw [List.length_set]; omega) hx2 hx3 (by rw [List.getElem_set_ne (by omega), g0]; exact hy2) (by rw [List.getElem_set_ne (by omega), g0]; simp [AV.setCells, AV.cells, hx2, hy2])
      rw [show p1 = q1 by rw [e1] at f1; exact Option.some.inj f1]
      simp only [f2, f3, f4, obind, condK_bool, gB_bool, bin_lss, bin_leq, bin_gtr, bin_geq, bin_eql, bin_neq, str_eql, str_neq, un_not, ext0, ext1, ext2, nilc_ptr, nilc_vptr, fa_ptr, fa_vptr0, load_vptr, len_vslice, len_slice, len_nil, len_str, decide_eq_true_eq, Bool.false_eq_true, if_true, if_false, Bool.not_true, Bool.not_false, Bool.not_eq_true, Bool.not_eq_true', decide_eq_false_iff_not, Bool.true_eq_false, eq_self, Nat.zero_add, Nat.add_zero, load_box, get0, get1, get2, get3, yl_some]
      rw [pred64 _ _ (by omega) (by omega)]
      simp only [obind, condK_bool, gB_bool, bin_lss, bin_leq, bin_gtr, bin_geq, bin_eql, bin_neq, str_eql, str_neq, un_not, ext0, ext1, ext2, nilc_ptr, nilc_vptr, fa_ptr, fa_vptr0, load_vptr, len_vslice, len_slice, len_nil, len_str, decide_eq_true_eq, Bool.false_eq_true, if_true, if_false, Bool.not_true, Bool.not_false, Bool.not_eq_true, Bool.not_eq_true', decide_eq_false_iff_not, Bool.true_eq_false, eq_self, Nat.zero_add, Nat.add_zero, load_box, get0, get1, get2, get3, yl_some, Nat.add_sub_cancel]
      have hset : ((List.map enc (r.reverse ++ y :: x :: (s ++ t))).set (r.length + 1) (.agg cy)).set r.length (.agg cx) = (r.reverse ++ x :: (y :: s) ++ t).map enc := by
        have := set_swap enc r.reverse y x (s ++ t)
        rw [List.length_reverse] at this
        rw [← hy1, ← hx1, this]; simp
      rw [hset] at o2
      refine ih x (y :: s) t H2 (by simp; omega) o2 fun H' o' kp ll => ?_
      refine hk H' ?_ ((k1.trans k2').trans kp) (by omega)
      simpa [sink, hlt] using o'
    · rw [if_neg hlt]
      refine hk H ?_ (.refl _ _) rfl
      simp only [sink, hlt, if_false]
      simpa using ho

theorem ins_out (hz : ∀ a, ∃ cs, enc a = .agg cs ∧ cs.length = 2 ∧ cs.all AV.storable = true)
    (hc : ∀ a b H (K : AV → Heap → Option (AV × Heap)), callK prog (R prog) cmp [enc a, enc b] H K = K (I (c a b)) H) {k0 : Heap → Option (AV × Heap)} {Q : AV → Heap → Prop} (t : List α) :
    ∀ (d : List α) (H : Heap), d.length + t.length < 1000000 → Own H 2 v ((d ++ t).map enc) → (∀ H', Own H' 2 v ((sortGo c d t).map enc) → Keeps H H' v v → H'.length = H.length → Yl (k0 H') Q) →
    Yl (l_slices_insertionSortCmpFunc_api_Deal_1 v (I 0) (I ((d.length + t.length : Nat) : Int)) cmp (I d.length) H k0) Q := by
  induction t with
  | nil =>
    intro d H hl ho hk
    refine l_slices_insertionSortCmpFunc_api_Deal_1_s _ _ _ _ _ _ _ ?_
    simp only [obind, condK_bool, gB_bool, bin_lss, bin_leq, bin_gtr, bin_geq, bin_eql, bin_neq, str_eql, str_neq, un_not, ext0, ext1, ext2, nilc_ptr, nilc_vptr, fa_ptr, fa_vptr0, load_vptr, len_vslice, len_slice, len_nil, len_str, decide_eq_true_eq, Bool.false_eq_true, if_true, if_false, Bool.not_true, Bool.not_false, Bool.not_eq_true, Bool.not_eq_true', decide_eq_false_iff_not, Bool.true_eq_false, eq_self, Nat.zero_add, Nat.add_zero, load_box, get0, get1, get2, get3, yl_some, List.length_nil]
    rw [if_neg (by omega)]
    exact hk H (by simpa [sortGo] using ho) (.refl _ _) rfl
  | cons x t ih =>
    intro d H hl ho hk
    refine l_slices_insertionSortCmpFunc_api_Deal_1_s _ _ _ _ _ _ _ ?_
    simp only [List.length_cons] at hl ⊢
    simp only [obind, condK_bool, gB_bool, bin_lss, bin_leq, bin_gtr, bin_geq, bin_eql, bin_neq, str_eql, str_neq, un_not, ext0, ext1, ext2, nilc_ptr, nilc_vptr, fa_ptr, fa_vptr0, load_vptr, len_vslice, len_slice, len_nil, len_str, decide_eq_true_eq, Bool.false_eq_true, if_true, if_false, Bool.not_true, Bool.not_false, Bool.not_eq_true, Bool.not_eq_true', decide_eq_false_iff_not, Bool.true_eq_false, eq_self, Nat.zero_add, Nat.add_zero, load_box, get0, get1, get2, get3, yl_some]
    rw [if_pos (by omega)]
    have := ins_in (v := v) hz hc (i := I d.length) (n := I ((d.length + (t.length + 1) : Nat) : Int)) (k2 := fun v0_1 v1_1 v2_1 v3_1 v8_1 H4 =>
      (binAV H4 .add (.one .int) v8_1 (.int .i64 1)).bind fun v16 => l_slices_insertionSortCmpFunc_api_Deal_1 v0_1 v1_1 v2_1 v3_1 v16 H4 k0) (Q := Q) d.reverse x [] t H (by simp; omega) (by simpa using ho) (fun H' o' kp ll => by
        rw [succ64 _ _ (by omega)]
        simp only [obind, condK_bool, gB_bool, bin_lss, bin_leq, bin_gtr, bin_geq, bin_eql, bin_neq, str_eql, str_neq, un_not, ext0, ext1, ext2, nilc_ptr, nilc_vptr, fa_ptr, fa_vptr0, load_vptr, len_vslice, len_slice, len_nil, len_str, decide_eq_true_eq, Bool.false_eq_true, if_true, if_false, Bool.not_true, Bool.not_false, Bool.not_eq_true, Bool.not_eq_true', decide_eq_false_iff_not, Bool.true_eq_false, eq_self, Nat.zero_add, Nat.add_zero, load_box, get0, get1, get2, get3, yl_some]
        have hsl : (sink c d.reverse x []).length = d.length + 1 := by rw [sink_len]; simp
        have := ih (sink c d.reverse x []) H' (by omega) o' fun H'' o'' kp' ll' => hk H'' o'' (kp.trans kp') (by omega)
        rw [hsl, show d.length + 1 + t.length = d.length + (t.length + 1) by omega] at this
        exact this)
    rw [List.length_reverse] at this
    exact this

theorem sort_ok (hz : ∀ a, ∃ cs, enc a = .agg cs ∧ cs.length = 2 ∧ cs.all AV.storable = true)
    (hc : ∀ a b H (K : AV → Heap → Option (AV × Heap)), callK prog (R prog) cmp [enc a, enc b] H K = K (I (c a b)) H) {l : List α} (hl : l.length ≤ 12) {H : Heap} (ho : Own H 2 v (l.map enc)) :
    ∃ H', R prog f_slices_SortFunc_api_Deal_api_Deal [v, cmp] H = some (.tuple [], H') ∧ Own H' 2 v ((sortI c l).map enc) ∧ Keeps H H' v v ∧ H'.length = H.length := by
  suffices h : Yl (R prog f_slices_SortFunc_api_Deal_api_Deal [v, cmp] H) fun r H' => r = .tuple [] ∧ Own H' 2 v ((sortI c l).map enc) ∧ Keeps H H' v v ∧ H'.length = H.length by
    obtain ⟨r, H', h1, rfl, h2⟩ := h
    exact ⟨H', h1, h2⟩
  refine r_slices_SortFunc_api_Deal_api_Deal _ _ _ ?_
  have hlen : lenX H .slice v = some (I l.length) := by rw [ho.len]; simp
  obtain ⟨k, hb⟩ : ∃ k, pureCall prog (R prog) f_math_bits_Len [.int .u64 (l.length : Int)] H = some k := by
    have : ∀ n : Nat, n ≤ 12 → ∃ k, ((run prog 20 f_math_bits_Len [.int .u64 (n : Int)] []).bind fun r => snap r.2 deep r.1) = some k := by
      intro n hn
      have : n = 0 ∨ n = 1 ∨ n = 2 ∨ n = 3 ∨ n = 4 ∨ n = 5 ∨ n = 6 ∨ n = 7 ∨ n = 8 ∨ n = 9 ∨ n = 10 ∨ n = 11 ∨ n = 12 := by omega
      rcases this with rfl | rfl | rfl | rfl | rfl | rfl | rfl | rfl | rfl | rfl | rfl | rfl | rfl
      · exact ⟨I 0, by kernel_rfl⟩
      · exact ⟨I 1, by kernel_rfl⟩
      · exact ⟨I 2, by kernel_rfl⟩
      · exact ⟨I 2, by kernel_rfl⟩
      · exact ⟨I 3, by kernel_rfl⟩
      · exact ⟨I 3, by kernel_rfl⟩
      · exact ⟨I 3, by kernel_rfl⟩
      · exact ⟨I 3, by kernel_rfl⟩
      · exact ⟨I 4, by kernel_rfl⟩
      · exact ⟨I 4, by kernel_rfl⟩
      · exact ⟨I 4, by kernel_rfl⟩
      · exact ⟨I 4, by kernel_rfl⟩
      · exact ⟨I 4, by kernel_rfl⟩
    obtain ⟨k, hk⟩ := this l.length hl
    exact ⟨k, pure_fz (by simp [fz_int]) rfl (yl_run hk fun _ _ h => h)⟩
  have hw : convAV .u64 (I l.length) = some (.int .u64 (l.length : Int)) := by
    simp only [convAV, AV.asInt, Option.map_some, Option.some.injEq, AV.int.injEq, true_and]
    unfold IntKind.wrap
    simp [IntKind.signed, IntKind.bits]
    omega
  simp only [hlen, hw, hb, obind, condK_bool, gB_bool, bin_lss, bin_leq, bin_gtr, bin_geq, bin_eql, bin_neq, str_eql, str_neq, un_not, ext0, ext1, ext2, nilc_ptr, nilc_vptr, fa_ptr, fa_vptr0, load_vptr, len_vslice, len_slice, len_nil, len_str, decide_eq_true_eq, Bool.false_eq_true, if_true, if_false, Bool.not_true, Bool.not_false, Bool.not_eq_true, Bool.not_eq_true', decide_eq_false_iff_not, Bool.true_eq_false, eq_self, Nat.zero_add, Nat.add_zero, load_box, get0, get1, get2, get3, yl_some]
  have hins : Yl (R prog f_slices_insertionSortCmpFunc_api_Deal [v, I 0, I l.length, cmp] H) fun r H' => Own H' 2 v ((sortI c l).map enc) ∧ Keeps H H' v v ∧ H'.length = H.length := by
    refine r_slices_insertionSortCmpFunc_api_Deal _ _ _ _ _ ?_
    rw [add64 _ _ (by omega) (by omega)]
    simp only [obind, condK_bool, gB_bool, bin_lss, bin_leq, bin_gtr, bin_geq, bin_eql, bin_neq, str_eql, str_neq, un_not, ext0, ext1, ext2, nilc_ptr, nilc_vptr, fa_ptr, fa_vptr0, load_vptr, len_vslice, len_slice, len_nil, len_str, decide_eq_true_eq, Bool.false_eq_true, if_true, if_false, Bool.not_true, Bool.not_false, Bool.not_eq_true, Bool.not_eq_true', decide_eq_false_iff_not, Bool.true_eq_false, eq_self, Nat.zero_add, Nat.add_zero, load_box, get0, get1, get2, get3, yl_some]
    cases l with
    | nil =>
      refine l_slices_insertionSortCmpFunc_api_Deal_1_s _ _ _ _ _ _ _ ?_
      simp only [obind, condK_bool, gB_bool, bin_lss, bin_leq, bin_gtr, bin_geq, bin_eql, bin_neq, str_eql, str_neq, un_not, ext0, ext1, ext2, nilc_ptr, nilc_vptr, fa_ptr, fa_vptr0, load_vptr, len_vslice, len_slice, len_nil, len_str, decide_eq_true_eq, Bool.false_eq_true, if_true, if_false, Bool.not_true, Bool.not_false, Bool.not_eq_true, Bool.not_eq_true', decide_eq_false_iff_not, Bool.true_eq_false, eq_self, Nat.zero_add, Nat.add_zero, load_box, get0, get1, get2, get3, yl_some, List.length_nil]
      rw [if_neg (by omega)]
      exact yl_some.2 ⟨ho, .refl _ _, rfl⟩
    | cons x l =>
      have := ins_out (v := v) hz hc (k0 := fun H5 => some (.tuple [], H5)) (Q := fun r H' => Own H' 2 v ((sortI c (x :: l)).map enc) ∧ Keeps H H' v v ∧ H'.length = H.length) l [x] H (by simp at hl ⊢; omega) ho (fun H' o k ll => yl_some.2 ⟨o, k, ll⟩)
      simpa [Nat.add_comm] using this
  refine Yl.bind (Q' := fun r H' => Own H' 2 v ((sortI c l).map enc) ∧ Keeps H H' v v ∧ H'.length = H.length) ?_ fun r H' h => yl_some.2 ⟨rfl, h⟩
  refine r_slices_pdqsortCmpFunc_api_Deal _ _ _ _ _ _ ?_
  refine l_slices_pdqsortCmpFunc_api_Deal_0_s _ _ _ _ _ _ _ _ ?_
  rw [sub64 _ _ (by omega) (by omega)]
  simp only [obind, condK_bool, gB_bool, bin_lss, bin_leq, bin_gtr, bin_geq, bin_eql, bin_neq, str_eql, str_neq, un_not, ext0, ext1, ext2, nilc_ptr, nilc_vptr, fa_ptr, fa_vptr0, load_vptr, len_vslice, len_slice, len_nil, len_str, decide_eq_true_eq, Bool.false_eq_true, if_true, if_false, Bool.not_true, Bool.not_false, Bool.not_eq_true, Bool.not_eq_true', decide_eq_false_iff_not, Bool.true_eq_false, eq_self, Nat.zero_add, Nat.add_zero, load_box, get0, get1, get2, get3, yl_some]
  rw [if_pos (by omega)]
  exact hins.bind fun r H' h => yl_some.2 h
end
end Y
end Go.Proofs.YtkaigfcjejabfaaGreatDoor
