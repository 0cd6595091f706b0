/- What the functions of the streams and of the small library compute. No condition. -/
import Derived.Test.YtkaigfcjejabfaaGreatDoorYD
import Derived.Test.YtkaigfcjejabfaaGreatDoorYE
set_option linter.unusedSimpArgs false
set_option linter.unusedVariables false
namespace Go.Proofs.YtkaigfcjejabfaaGreatDoor
open Go
namespace Y
open X

abbrev I (n : Int) : AV := .int .i64 n

def below (x n : Int) : Int := if n < 1 then 0 else x % n

theorem below_ok (H : Heap) {x n : Int} (h1 : -4611686018427387904 ≤ n) (h2 : n < 4611686018427387904) : pureCall prog (R prog) f_jitmake_Below [I x, I n] H = some (I (below x n)) := by
  refine pure_fz (by simp [fz_int]) rfl (r_jitmake_Below _ _ _ ?_)
  simp only [obind, condK_bool, gB_bool, bin_lss, bin_leq, bin_gtr, bin_geq, bin_eql, bin_neq, str_eql, str_neq, un_not, ext0, ext1, ext2, nilc_ptr, nilc_vptr, fa_ptr, fa_vptr0, load_vptr, len_vslice, len_slice, len_nil, len_str, decide_eq_true_eq, Bool.false_eq_true, if_true, if_false, Bool.not_true, Bool.not_false, Bool.not_eq_true, Bool.not_eq_true', decide_eq_false_iff_not, Bool.true_eq_false, eq_self, Nat.zero_add, Nat.add_zero, load_box, get0, get1, get2, get3, yl_some]
  unfold below
  split
  · exact yl_some.2 rfl
  · rename_i hn
    rw [bin_rem _ _ _ _ _ (by omega)]
    simp only [obind, condK_bool, gB_bool, bin_lss, bin_leq, bin_gtr, bin_geq, bin_eql, bin_neq, str_eql, str_neq, un_not, ext0, ext1, ext2, nilc_ptr, nilc_vptr, fa_ptr, fa_vptr0, load_vptr, len_vslice, len_slice, len_nil, len_str, decide_eq_true_eq, Bool.false_eq_true, if_true, if_false, Bool.not_true, Bool.not_false, Bool.not_eq_true, Bool.not_eq_true', decide_eq_false_iff_not, Bool.true_eq_false, eq_self, Nat.zero_add, Nat.add_zero, load_box, get0, get1, get2, get3, yl_some]
    have h3 : x.tmod n = if 0 ≤ x ∨ n ∣ x then x % n else x % n - n := by
      rw [Int.tmod_eq_emod]; split <;> simp <;> omega
    have h4 := Int.emod_nonneg x (b := n) (by omega)
    have h5 := Int.emod_lt_of_pos x (b := n) (by omega)
    have h6 : n ∣ x → x % n = 0 := fun h => Int.emod_eq_zero_of_dvd h
    split
    · rename_i hlt
      rw [add64 _ _ (by omega) (by omega)]
      simp only [obind, condK_bool, gB_bool, bin_lss, bin_leq, bin_gtr, bin_geq, bin_eql, bin_neq, str_eql, str_neq, un_not, ext0, ext1, ext2, nilc_ptr, nilc_vptr, fa_ptr, fa_vptr0, load_vptr, len_vslice, len_slice, len_nil, len_str, decide_eq_true_eq, Bool.false_eq_true, if_true, if_false, Bool.not_true, Bool.not_false, Bool.not_eq_true, Bool.not_eq_true', decide_eq_false_iff_not, Bool.true_eq_false, eq_self, Nat.zero_add, Nat.add_zero, load_box, get0, get1, get2, get3, yl_some]
      rw [h3] at hlt ⊢
      split at hlt
      · omega
      · rename_i hx; rw [if_neg hx]; show some (I _) = some (I _); congr 2; omega
    · rename_i hlt
      rw [h3] at hlt ⊢
      split at hlt
      · rename_i hx; rw [if_pos hx]; exact yl_some.2 rfl
      · omega

theorem below_range (x : Int) {n : Int} (h : 1 ≤ n) : 0 ≤ below x n ∧ below x n < n := by
  unfold below
  rw [if_neg (by omega)]
  exact ⟨Int.emod_nonneg _ (by omega), Int.emod_lt_of_pos _ (by omega)⟩

/-- A stream in the heap. -/
def stB (zs : List Int) (at' : Nat) : Blk := .arr 2 [.agg [.vslice (zs.map I), I at']]

/-- The number that a stream hands out. -/
def nx (zs : List Int) (p : Nat) (n : Int) : Int :=
  if zs.length = 0 then below (IntKind.wrap .i64 (((p + 1 : Nat) : Int) * 7919)) n
  else below (IntKind.wrap .i64 (below (zs.getD (p % zs.length) 0) 1073741824 + IntKind.wrap .i64 (((p / zs.length : Nat) : Int) * IntKind.wrap .i64 (7919 + ((p % zs.length : Nat) : Int))))) n

theorem nx_range (zs : List Int) (p : Nat) {n : Int} (h : 1 ≤ n) : 0 ≤ nx zs p n ∧ nx zs p n < n := by
  unfold nx; split <;> exact below_range _ h

theorem next_ok {H : Heap} {b p : Nat} {zs : List Int} {n : Int} (hb : H[b]? = some (stB zs p)) (hp : p < 1000000000) (h1 : -4611686018427387904 ≤ n) (h2 : n < 4611686018427387904) :
    R prog f_jitmake_Stream_Next [.ptr b 0 0, I n] H = some (I (nx zs p n), H.set b (stB zs (p + 1))) := by
  suffices h : Yl (R prog f_jitmake_Stream_Next [.ptr b 0 0, I n] H) fun v H' => v = I (nx zs p n) ∧ H' = H.set b (stB zs (p + 1)) by
    obtain ⟨v, H', h1, rfl, rfl⟩ := h; exact h1
  refine r_jitmake_Stream_Next _ _ _ ?_
  have hb0 : H[b]? = some (.arr 2 [.agg [.vslice (zs.map I), I p]]) := hb
  have l1 : loadAV H none (.ptr b 0 1) = some (I p) := load_ptr hb0 rfl rfl
  have hs : storeAV H 1 (.ptr b 0 1) (I ((p + 1 : Nat) : Int)) = some (H.set b (stB zs (p + 1))) := store_ptr (x := I ((p + 1 : Nat) : Int)) (n := 1) (i := 0) (o := 1) hb0 rfl rfl rfl (by simp [AV.cells]) rfl
  have hb1 : (H.set b (stB zs (p + 1)))[b]? = some (.arr 2 [.agg [.vslice (zs.map I), I ((p + 1 : Nat) : Int)]]) := set_same _ hb0
  have l2 : loadAV (H.set b (stB zs (p + 1))) none (.ptr b 0 1) = some (I ((p + 1 : Nat) : Int)) := load_ptr hb1 rfl rfl
  have l3 : loadAV (H.set b (stB zs (p + 1))) none (.ptr b 0 0) = some (.vslice (zs.map I)) := load_ptr hb1 rfl rfl
  simp only [obind, condK_bool, gB_bool, bin_lss, bin_leq, bin_gtr, bin_geq, bin_eql, bin_neq, str_eql, str_neq, un_not, ext0, ext1, ext2, nilc_ptr, nilc_vptr, fa_ptr, fa_vptr0, load_vptr, len_vslice, len_slice, len_nil, len_str, decide_eq_true_eq, Bool.false_eq_true, if_true, if_false, Bool.not_true, Bool.not_false, Bool.not_eq_true, Bool.not_eq_true', decide_eq_false_iff_not, Bool.true_eq_false, eq_self, Nat.zero_add, Nat.add_zero, load_box, get0, get1, get2, get3, yl_some, l1]
  rw [add64 _ _ (by omega) (by omega), show ((p : Int) + 1) = ((p + 1 : Nat) : Int) by omega]
  simp only [obind, condK_bool, gB_bool, bin_lss, bin_leq, bin_gtr, bin_geq, bin_eql, bin_neq, str_eql, str_neq, un_not, ext0, ext1, ext2, nilc_ptr, nilc_vptr, fa_ptr, fa_vptr0, load_vptr, len_vslice, len_slice, len_nil, len_str, decide_eq_true_eq, Bool.false_eq_true, if_true, if_false, Bool.not_true, Bool.not_false, Bool.not_eq_true, Bool.not_eq_true', decide_eq_false_iff_not, Bool.true_eq_false, eq_self, Nat.zero_add, Nat.add_zero, load_box, get0, get1, get2, get3, yl_some, hs, l2, l3, List.length_map]
  unfold nx
  split
  · rename_i h0
    rw [if_pos (by omega)]
    simp only [obind, condK_bool, gB_bool, bin_lss, bin_leq, bin_gtr, bin_geq, bin_eql, bin_neq, str_eql, str_neq, un_not, ext0, ext1, ext2, nilc_ptr, nilc_vptr, fa_ptr, fa_vptr0, load_vptr, len_vslice, len_slice, len_nil, len_str, decide_eq_true_eq, Bool.false_eq_true, if_true, if_false, Bool.not_true, Bool.not_false, Bool.not_eq_true, Bool.not_eq_true', decide_eq_false_iff_not, Bool.true_eq_false, eq_self, Nat.zero_add, Nat.add_zero, load_box, get0, get1, get2, get3, yl_some, bin_mul, below_ok _ h1 h2]
    exact ⟨trivial, trivial⟩
  · rename_i h0
    rw [if_neg (by omega)]
    rw [sub64 _ _ (by omega) (by omega), show (((p + 1 : Nat) : Int) - 1) = ((p : Nat) : Int) by omega]
    simp only [obind, condK_bool, gB_bool, bin_lss, bin_leq, bin_gtr, bin_geq, bin_eql, bin_neq, str_eql, str_neq, un_not, ext0, ext1, ext2, nilc_ptr, nilc_vptr, fa_ptr, fa_vptr0, load_vptr, len_vslice, len_slice, len_nil, len_str, decide_eq_true_eq, Bool.false_eq_true, if_true, if_false, Bool.not_true, Bool.not_false, Bool.not_eq_true, Bool.not_eq_true', decide_eq_false_iff_not, Bool.true_eq_false, eq_self, Nat.zero_add, Nat.add_zero, load_box, get0, get1, get2, get3, yl_some]
    rw [bin_rem _ _ _ _ _ (by omega), bin_quo _ _ _ _ _ (by omega)]
    have hm : ((p : Int)).tmod (zs.length : Int) = ((p % zs.length : Nat) : Int) := by rw [Int.tmod_eq_emod_of_nonneg (by omega)]; omega
    have hd : ((p : Int)).tdiv (zs.length : Int) = ((p / zs.length : Nat) : Int) := by rw [Int.tdiv_eq_ediv_of_nonneg (by omega)]; omega
    have hw : IntKind.wrap .i64 ((p / zs.length : Nat) : Int) = ((p / zs.length : Nat) : Int) := by
      have := Nat.div_le_self p zs.length
      generalize p / zs.length = q at *
      exact wrap64 (by omega) (by omega)
    rw [hm, hd, hw]
    have hlt : p % zs.length < zs.length := Nat.mod_lt _ (by omega)
    have he : (zs.map I)[p % zs.length]? = some (I (zs.getD (p % zs.length) 0)) := by
      rw [List.getElem?_map, List.getD_eq_getElem?_getD, List.getElem?_eq_getElem hlt]; rfl
    simp only [obind, condK_bool, gB_bool, bin_lss, bin_leq, bin_gtr, bin_geq, bin_eql, bin_neq, str_eql, str_neq, un_not, ext0, ext1, ext2, nilc_ptr, nilc_vptr, fa_ptr, fa_vptr0, load_vptr, len_vslice, len_slice, len_nil, len_str, decide_eq_true_eq, Bool.false_eq_true, if_true, if_false, Bool.not_true, Bool.not_false, Bool.not_eq_true, Bool.not_eq_true', decide_eq_false_iff_not, Bool.true_eq_false, eq_self, Nat.zero_add, Nat.add_zero, load_box, get0, get1, get2, get3, yl_some, index_vslice (sz := 1) he rfl, AV.cells, below_ok _ (show (-4611686018427387904 : Int) ≤ 1073741824 by omega) (show (1073741824 : Int) < 4611686018427387904 by omega), bin_add, bin_mul, below_ok _ h1 h2]
    exact ⟨trivial, trivial⟩

theorem flip_ok {H : Heap} {b p : Nat} {zs : List Int} {n : Int} (hb : H[b]? = some (stB zs p)) (hp : p < 1000000000) (h1 : -4611686018427387904 ≤ n) (h2 : n < 4611686018427387904) :
    R prog f_jitmake_Stream_Flip [.ptr b 0 0, I n] H = some (.bool (decide (nx zs p n = 0)), H.set b (stB zs (p + 1))) := by
  suffices h : Yl (R prog f_jitmake_Stream_Flip [.ptr b 0 0, I n] H) fun v H' => v = .bool (decide (nx zs p n = 0)) ∧ H' = H.set b (stB zs (p + 1)) by
    obtain ⟨v, H', h1, rfl, rfl⟩ := h; exact h1
  refine r_jitmake_Stream_Flip _ _ _ ?_
  simp only [obind, condK_bool, gB_bool, bin_lss, bin_leq, bin_gtr, bin_geq, bin_eql, bin_neq, str_eql, str_neq, un_not, ext0, ext1, ext2, nilc_ptr, nilc_vptr, fa_ptr, fa_vptr0, load_vptr, len_vslice, len_slice, len_nil, len_str, decide_eq_true_eq, Bool.false_eq_true, if_true, if_false, Bool.not_true, Bool.not_false, Bool.not_eq_true, Bool.not_eq_true', decide_eq_false_iff_not, Bool.true_eq_false, eq_self, Nat.zero_add, Nat.add_zero, load_box, get0, get1, get2, get3, yl_some, next_ok hb hp h1 h2]
  exact ⟨trivial, trivial⟩

/-- The first error of some. -/
def firstE : List Int → Int
  | [] => 0
  | e :: l => if e ≠ 0 then e else firstE l

theorem succ64 (H : Heap) (ek : EK) {n : Nat} (h : n < 1000000000000) : binAV H .add ek (I (n : Int)) (I 1) = some (I ((n + 1 : Nat) : Int)) := by
  rw [add64 _ _ (by omega) (by omega)]; rfl

theorem errs_loop {es : List Int} (hes : es.length < 1000000000) {k0 : Heap → Option (AV × Heap)} {Q : AV → Heap → Prop} {H : Heap} (m : Nat) : ∀ (n : Nat), m + n = es.length →
    (if firstE (es.drop n) ≠ 0 then Q (I (firstE (es.drop n))) H else Yl (k0 H) Q) → Yl (l_jitkeep2_errs_0 (.vslice (es.map I)) (I es.length) (I n) H k0) Q := by
  induction m with
  | zero =>
    intro n hm hq
    refine l_jitkeep2_errs_0_s _ _ _ _ _ ?_
    rw [List.drop_eq_nil_of_le (by omega)] at hq
    simp only [obind, condK_bool, gB_bool, bin_lss, bin_leq, bin_gtr, bin_geq, bin_eql, bin_neq, str_eql, str_neq, un_not, ext0, ext1, ext2, nilc_ptr, nilc_vptr, fa_ptr, fa_vptr0, load_vptr, len_vslice, len_slice, len_nil, len_str, decide_eq_true_eq, Bool.false_eq_true, if_true, if_false, Bool.not_true, Bool.not_false, Bool.not_eq_true, Bool.not_eq_true', decide_eq_false_iff_not, Bool.true_eq_false, eq_self, Nat.zero_add, Nat.add_zero, load_box, get0, get1, get2, get3, yl_some]
    rw [if_neg (by omega)]
    simpa [firstE] using hq
  | succ m ih =>
    intro n hm hq
    refine l_jitkeep2_errs_0_s _ _ _ _ _ ?_
    have hn : n < es.length := by omega
    have he : (es.map I)[n]? = some (I es[n]) := by rw [List.getElem?_map, List.getElem?_eq_getElem hn]; rfl
    rw [List.drop_eq_getElem_cons hn] at hq
    simp only [obind, condK_bool, gB_bool, bin_lss, bin_leq, bin_gtr, bin_geq, bin_eql, bin_neq, str_eql, str_neq, un_not, ext0, ext1, ext2, nilc_ptr, nilc_vptr, fa_ptr, fa_vptr0, load_vptr, len_vslice, len_slice, len_nil, len_str, decide_eq_true_eq, Bool.false_eq_true, if_true, if_false, Bool.not_true, Bool.not_false, Bool.not_eq_true, Bool.not_eq_true', decide_eq_false_iff_not, Bool.true_eq_false, eq_self, Nat.zero_add, Nat.add_zero, load_box, get0, get1, get2, get3, yl_some]
    rw [if_pos (by omega), index_vslice (sz := 1) he rfl]
    simp only [obind, condK_bool, gB_bool, bin_lss, bin_leq, bin_gtr, bin_geq, bin_eql, bin_neq, str_eql, str_neq, un_not, ext0, ext1, ext2, nilc_ptr, nilc_vptr, fa_ptr, fa_vptr0, load_vptr, len_vslice, len_slice, len_nil, len_str, decide_eq_true_eq, Bool.false_eq_true, if_true, if_false, Bool.not_true, Bool.not_false, Bool.not_eq_true, Bool.not_eq_true', decide_eq_false_iff_not, Bool.true_eq_false, eq_self, Nat.zero_add, Nat.add_zero, load_box, get0, get1, get2, get3, yl_some, AV.cells]
    by_cases h0 : es[n] = 0
    · simp only [h0, ne_eq, not_true_eq_false, if_false]
      rw [succ64 _ _ (by omega)]
      refine ih (n + 1) (by omega) ?_
      simpa [firstE, h0] using hq
    · simp only [h0, ne_eq, not_false_eq_true, if_true, obind, condK_bool, gB_bool, bin_lss, bin_leq, bin_gtr, bin_geq, bin_eql, bin_neq, str_eql, str_neq, un_not, ext0, ext1, ext2, nilc_ptr, nilc_vptr, fa_ptr, fa_vptr0, load_vptr, len_vslice, len_slice, len_nil, len_str, decide_eq_true_eq, Bool.false_eq_true, if_true, if_false, Bool.not_true, Bool.not_false, Bool.not_eq_true, Bool.not_eq_true', decide_eq_false_iff_not, Bool.true_eq_false, eq_self, Nat.zero_add, Nat.add_zero, load_box, get0, get1, get2, get3, yl_some]
      simpa [firstE, h0] using hq

theorem errs_ok (H : Heap) {es : List Int} (hes : es.length < 1000000000) : pureCall prog (R prog) f_jitkeep2_errs [.vslice (es.map I)] H = some (I (firstE es)) := by
  refine pure_fz (by simp [fz_vslice]) rfl (r_jitkeep2_errs _ _ ?_)
  simp only [obind, condK_bool, gB_bool, bin_lss, bin_leq, bin_gtr, bin_geq, bin_eql, bin_neq, str_eql, str_neq, un_not, ext0, ext1, ext2, nilc_ptr, nilc_vptr, fa_ptr, fa_vptr0, load_vptr, len_vslice, len_slice, len_nil, len_str, decide_eq_true_eq, Bool.false_eq_true, if_true, if_false, Bool.not_true, Bool.not_false, Bool.not_eq_true, Bool.not_eq_true', decide_eq_false_iff_not, Bool.true_eq_false, eq_self, Nat.zero_add, Nat.add_zero, load_box, get0, get1, get2, get3, yl_some, List.length_map]
  refine errs_loop hes es.length 0 (by omega) ?_
  by_cases h0 : firstE es = 0
  · rw [if_neg (by simpa using h0)]; exact yl_some.2 (by rw [h0]; rfl)
  · rw [if_pos (by simpa using h0)]; rfl
end Y
end Go.Proofs.YtkaigfcjejabfaaGreatDoor
