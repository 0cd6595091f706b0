/- What the small functions of the library and of package match compute. No condition. -/
import Derived.Test.YtkaigfcjejabfaaGreatDoorYF
import Derived.Test.YtkaigfcjejabfaaGreatDoorYM
set_option linter.unusedSimpArgs false
set_option linter.unusedVariables false
namespace Go.Proofs.YtkaigfcjejabfaaGreatDoor
open Go
namespace Y
open X

/-- Strings, as a slice. -/
def encL (l : List Str) : AV := .vslice (l.map .str)

def pos (s : Str) : List Str → Option Nat
  | [] => none
  | t :: l => if s = t then some 0 else (pos s l).map (· + 1)

/-- The first place of a string, or -1. -/
def ixi (s : Str) (l : List Str) : Int := match pos s l with | some i => i | none => -1

theorem pos_mem {s : Str} {l : List Str} : (pos s l).isSome = true ↔ s ∈ l := by
  induction l with
  | nil => simp [pos]
  | cons t l ih => simp only [pos, List.mem_cons]; by_cases h : s = t <;> simp [h, ih]

theorem pos_lt {s : Str} {l : List Str} {i : Nat} (h : pos s l = some i) : i < l.length := by
  induction l generalizing i with
  | nil => cases h
  | cons t l ih =>
    simp only [pos] at h
    split at h
    · cases h; simp
    · rw [Option.map_eq_some_iff] at h
      obtain ⟨j, hj, rfl⟩ := h
      have := ih hj
      simp; omega

theorem pos_get {s : Str} {l : List Str} {i : Nat} (h : pos s l = some i) : l[i]? = some s := by
  induction l generalizing i with
  | nil => cases h
  | cons t l ih =>
    simp only [pos] at h
    split at h
    · rename_i hs; cases h; simp [hs]
    · rw [Option.map_eq_some_iff] at h
      obtain ⟨j, hj, rfl⟩ := h
      simpa using ih hj

theorem ixi_nonneg {s : Str} {l : List Str} : 0 ≤ ixi s l ↔ s ∈ l := by
  rw [← pos_mem]
  unfold ixi
  cases pos s l <;> simp <;> omega

theorem index_loop {l : List Str} (hl : l.length < 1000000000) (s : Str) {k0 : Heap → Option (AV × Heap)} {Q : AV → Heap → Prop} {H : Heap} (m : Nat) : ∀ (n : Nat), m + n = l.length →
    (match pos s (l.drop n) with | some i => Q (I ((n + i : Nat) : Int)) H | none => Yl (k0 H) Q) → Yl (l_slices_Index_string_string_0 (encL l) (.str s) (I l.length) (I n) H k0) Q := by
  induction m with
  | zero =>
    intro n hm hq
    refine l_slices_Index_string_string_0_s _ _ _ _ _ _ ?_
    rw [List.drop_eq_nil_of_le (by omega)] at hq
    simp only [obind, condK_bool, gB_bool, bin_lss, bin_leq, bin_gtr, bin_geq, bin_eql, bin_neq, str_eql, str_neq, un_not, ext0, ext1, ext2, nilc_ptr, nilc_vptr, fa_ptr, fa_vptr0, load_vptr, len_vslice, len_slice, len_nil, len_str, decide_eq_true_eq, Bool.false_eq_true, if_true, if_false, Bool.not_true, Bool.not_false, Bool.not_eq_true, Bool.not_eq_true', decide_eq_false_iff_not, Bool.true_eq_false, eq_self, Nat.zero_add, Nat.add_zero, load_box, get0, get1, get2, get3, yl_some]
    rw [if_neg (by omega)]
    exact hq
  | succ m ih =>
    intro n hm hq
    refine l_slices_Index_string_string_0_s _ _ _ _ _ _ ?_
    have hn : n < l.length := by omega
    have he : (l.map AV.str)[n]? = some (.str l[n]) := by rw [List.getElem?_map, List.getElem?_eq_getElem hn]; rfl
    rw [List.drop_eq_getElem_cons hn] at hq
    simp only [obind, condK_bool, gB_bool, bin_lss, bin_leq, bin_gtr, bin_geq, bin_eql, bin_neq, str_eql, str_neq, un_not, ext0, ext1, ext2, nilc_ptr, nilc_vptr, fa_ptr, fa_vptr0, load_vptr, len_vslice, len_slice, len_nil, len_str, decide_eq_true_eq, Bool.false_eq_true, if_true, if_false, Bool.not_true, Bool.not_false, Bool.not_eq_true, Bool.not_eq_true', decide_eq_false_iff_not, Bool.true_eq_false, eq_self, Nat.zero_add, Nat.add_zero, load_box, get0, get1, get2, get3, yl_some]
    rw [if_pos (by omega), encL, index_vslice (sz := 1) he rfl]
    simp only [obind, condK_bool, gB_bool, bin_lss, bin_leq, bin_gtr, bin_geq, bin_eql, bin_neq, str_eql, str_neq, un_not, ext0, ext1, ext2, nilc_ptr, nilc_vptr, fa_ptr, fa_vptr0, load_vptr, len_vslice, len_slice, len_nil, len_str, decide_eq_true_eq, Bool.false_eq_true, if_true, if_false, Bool.not_true, Bool.not_false, Bool.not_eq_true, Bool.not_eq_true', decide_eq_false_iff_not, Bool.true_eq_false, eq_self, Nat.zero_add, Nat.add_zero, load_box, get0, get1, get2, get3, yl_some, AV.cells]
    simp only [pos] at hq
    split
    · rename_i hs
      rw [if_pos hs] at hq
      exact yl_some.2 hq
    · rename_i hs
      rw [if_neg hs] at hq
      rw [succ64 _ _ (by omega)]
      refine ih (n + 1) (by omega) ?_
      cases hp : pos s (l.drop (n + 1)) with
      | none => rw [hp] at hq; exact hq
      | some i =>
        rw [hp] at hq
        simp only [Option.map_some] at hq
        show Q (I ((n + 1 + i : Nat) : Int)) H
        rw [show n + 1 + i = n + (i + 1) by omega]
        exact hq

theorem index_ok {H : Heap} {l : List Str} (hl : l.length < 1000000000) (s : Str) {x : AV} (hx : snap H deep x = some (encL l)) (hn : noRef deep x = true) : pureCall prog (R prog) f_slices_Index_string_string [x, .str s] H = some (I (ixi s l)) := by
  refine pure_sn (bs := [encL l, .str s]) ?_ (by simp [hn]; rfl) rfl (r_slices_Index_string_string _ _ _ ?_)
  · simp [List.mapM_cons, hx, (fz_str s).1 H]
  · rw [show lenX [] .slice (encL l) = some (I l.length) by simp [encL, len_vslice]]
    simp only [obind, condK_bool, gB_bool, bin_lss, bin_leq, bin_gtr, bin_geq, bin_eql, bin_neq, str_eql, str_neq, un_not, ext0, ext1, ext2, nilc_ptr, nilc_vptr, fa_ptr, fa_vptr0, load_vptr, len_vslice, len_slice, len_nil, len_str, decide_eq_true_eq, Bool.false_eq_true, if_true, if_false, Bool.not_true, Bool.not_false, Bool.not_eq_true, Bool.not_eq_true', decide_eq_false_iff_not, Bool.true_eq_false, eq_self, Nat.zero_add, Nat.add_zero, load_box, get0, get1, get2, get3, yl_some]
    refine index_loop hl s l.length 0 (by omega) ?_
    simp only [List.drop_zero]
    unfold ixi
    cases hp : pos s l with
    | none => exact yl_some.2 rfl
    | some i => simp only [Nat.zero_add]; rfl

theorem contains_ok {H : Heap} {l : List Str} (hl : l.length < 1000000000) (s : Str) {x : AV} (hx : snap H deep x = some (encL l)) (hn : noRef deep x = true) : pureCall prog (R prog) f_slices_Contains_string_string [x, .str s] H = some (.bool (decide (s ∈ l))) := by
  refine pure_sn (bs := [encL l, .str s]) ?_ (by simp [hn]; rfl) rfl (r_slices_Contains_string_string _ _ _ ?_)
  · simp [List.mapM_cons, hx, (fz_str s).1 H]
  · rw [index_ok hl s rfl rfl]
    simp only [obind, condK_bool, gB_bool, bin_lss, bin_leq, bin_gtr, bin_geq, bin_eql, bin_neq, str_eql, str_neq, un_not, ext0, ext1, ext2, nilc_ptr, nilc_vptr, fa_ptr, fa_vptr0, load_vptr, len_vslice, len_slice, len_nil, len_str, decide_eq_true_eq, Bool.false_eq_true, if_true, if_false, Bool.not_true, Bool.not_false, Bool.not_eq_true, Bool.not_eq_true', decide_eq_false_iff_not, Bool.true_eq_false, eq_self, Nat.zero_add, Nat.add_zero, load_box, get0, get1, get2, get3, yl_some]
    simp only [← ixi_nonneg]
    rfl

/-- Is a new one wanted, and more than an old one? -/
def likes (l : List Str) (fresh old : Str) : Bool := decide (0 ≤ ixi fresh l) && (decide (ixi old l < 0) || decide (ixi fresh l < ixi old l))

theorem likes_ok {H : Heap} {l : List Str} (hl : l.length < 1000000000) (s t : Str) {x : AV} (hx : snap H deep x = some (encL l)) (hn : noRef deep x = true) : pureCall prog (R prog) f_match_likes [x, .str s, .str t] H = some (.bool (likes l s t)) := by
  refine pure_sn (bs := [encL l, .str s, .str t]) ?_ (by simp [hn]; exact ⟨rfl, rfl⟩) rfl (r_match_likes _ _ _ _ ?_)
  · simp [List.mapM_cons, hx, (fz_str s).1 H, (fz_str t).1 H]
  · rw [index_ok hl s rfl rfl, index_ok hl t rfl rfl]
    simp only [obind, condK_bool, gB_bool, bin_lss, bin_leq, bin_gtr, bin_geq, bin_eql, bin_neq, str_eql, str_neq, un_not, ext0, ext1, ext2, nilc_ptr, nilc_vptr, fa_ptr, fa_vptr0, load_vptr, len_vslice, len_slice, len_nil, len_str, decide_eq_true_eq, Bool.false_eq_true, if_true, if_false, Bool.not_true, Bool.not_false, Bool.not_eq_true, Bool.not_eq_true', decide_eq_false_iff_not, Bool.true_eq_false, eq_self, Nat.zero_add, Nat.add_zero, load_box, get0, get1, get2, get3, yl_some]
    unfold likes
    by_cases h1 : 0 ≤ ixi s l
    · by_cases h2 : ixi t l < 0
      · simp only [h1, h2, obind, condK_bool, gB_bool, bin_lss, bin_leq, bin_gtr, bin_geq, bin_eql, bin_neq, str_eql, str_neq, un_not, ext0, ext1, ext2, nilc_ptr, nilc_vptr, fa_ptr, fa_vptr0, load_vptr, len_vslice, len_slice, len_nil, len_str, decide_eq_true_eq, Bool.false_eq_true, if_true, if_false, Bool.not_true, Bool.not_false, Bool.not_eq_true, Bool.not_eq_true', decide_eq_false_iff_not, Bool.true_eq_false, eq_self, Nat.zero_add, Nat.add_zero, load_box, get0, get1, get2, get3, yl_some]; rfl
      · simp only [h1, h2, obind, condK_bool, gB_bool, bin_lss, bin_leq, bin_gtr, bin_geq, bin_eql, bin_neq, str_eql, str_neq, un_not, ext0, ext1, ext2, nilc_ptr, nilc_vptr, fa_ptr, fa_vptr0, load_vptr, len_vslice, len_slice, len_nil, len_str, decide_eq_true_eq, Bool.false_eq_true, if_true, if_false, Bool.not_true, Bool.not_false, Bool.not_eq_true, Bool.not_eq_true', decide_eq_false_iff_not, Bool.true_eq_false, eq_self, Nat.zero_add, Nat.add_zero, load_box, get0, get1, get2, get3, yl_some]; simp only [decide_true, decide_false, Bool.true_and, Bool.false_or]; rfl
    · simp only [h1, obind, condK_bool, gB_bool, bin_lss, bin_leq, bin_gtr, bin_geq, bin_eql, bin_neq, str_eql, str_neq, un_not, ext0, ext1, ext2, nilc_ptr, nilc_vptr, fa_ptr, fa_vptr0, load_vptr, len_vslice, len_slice, len_nil, len_str, decide_eq_true_eq, Bool.false_eq_true, if_true, if_false, Bool.not_true, Bool.not_false, Bool.not_eq_true, Bool.not_eq_true', decide_eq_false_iff_not, Bool.true_eq_false, eq_self, Nat.zero_add, Nat.add_zero, load_box, get0, get1, get2, get3, yl_some]; rfl

theorem compare_ok (H : Heap) (s t : Str) : pureCall prog (R prog) f_strings_Compare [.str s, .str t] H = some (I (cmpS s t)) := by
  refine pure_fz (by simp [fz_str]) rfl (r_strings_Compare _ _ _ ?_)
  have : R prog f_internal_bytealg_CompareString [.str s, .str t] [] = some (I (cmpS s t), []) := by
    suffices h : Yl (R prog f_internal_bytealg_CompareString [.str s, .str t] []) fun v H' => v = I (cmpS s t) ∧ H' = [] by
      obtain ⟨v, H', h1, rfl, rfl⟩ := h; exact h1
    refine r_internal_bytealg_CompareString _ _ _ ?_
    rw [pure_prim (v := I (cmpS s t)) (by simp [fz_str]) (by rw [← cmp_eq]; rfl)]
    simp only [obind, condK_bool, gB_bool, bin_lss, bin_leq, bin_gtr, bin_geq, bin_eql, bin_neq, str_eql, str_neq, un_not, ext0, ext1, ext2, nilc_ptr, nilc_vptr, fa_ptr, fa_vptr0, load_vptr, len_vslice, len_slice, len_nil, len_str, decide_eq_true_eq, Bool.false_eq_true, if_true, if_false, Bool.not_true, Bool.not_false, Bool.not_eq_true, Bool.not_eq_true', decide_eq_false_iff_not, Bool.true_eq_false, eq_self, Nat.zero_add, Nat.add_zero, load_box, get0, get1, get2, get3, yl_some]
    exact ⟨trivial, trivial⟩
  rw [this]
  simp only [obind, condK_bool, gB_bool, bin_lss, bin_leq, bin_gtr, bin_geq, bin_eql, bin_neq, str_eql, str_neq, un_not, ext0, ext1, ext2, nilc_ptr, nilc_vptr, fa_ptr, fa_vptr0, load_vptr, len_vslice, len_slice, len_nil, len_str, decide_eq_true_eq, Bool.false_eq_true, if_true, if_false, Bool.not_true, Bool.not_false, Bool.not_eq_true, Bool.not_eq_true', decide_eq_false_iff_not, Bool.true_eq_false, eq_self, Nat.zero_add, Nat.add_zero, load_box, get0, get1, get2, get3, yl_some]
  rfl
end Y
end Go.Proofs.YtkaigfcjejabfaaGreatDoor
