/- The law: whatever the numbers of the stream are. No condition. -/
import Derived.Test.YtkaigfcjejabfaaGreatDoorYD1
import Derived.Test.YtkaigfcjejabfaaGreatDoorYW
import Derived.Test.YtkaigfcjejabfaaGreatDoorYY
import Derived.Test.YtkaigfcjejabfaaGreatDoorYQ
set_option maxRecDepth 100000
set_option linter.unusedSimpArgs false
set_option linter.unusedVariables false
namespace Go.Proofs.YtkaigfcjejabfaaGreatDoor
open Go
namespace Y
open X

def csN : List Str := [[99, 97], [99, 98], [99, 99]]
def rsN : List Str := [[114, 97], [114, 98], [114, 99]]

theorem key_ok : ∀ s ∈ csN ++ rsN, KeyOk s := by
  intro s hs
  simp only [csN, rsN, List.cons_append, List.nil_append, List.mem_cons, List.not_mem_nil, or_false] at hs
  rcases hs with rfl | rfl | rfl | rfl | rfl | rfl
  all_goals exact (R_some.2 ⟨20, by kernel_rfl⟩ : R prog f_base_Key [.str _] [] = some (.bool true, [])) |> fun h => ⟨_, h⟩

theorem ok_of {whos others : List Str} (hw : whos = csN ∧ others = rsN ∨ whos = rsN ∧ others = csN) {l : List W} (h : RW whos others l) : OkW l ∧ l.length ≤ 3 ∧ ∀ w ∈ l, w.who ≠ [] := by
  have hlen : whos.length = 3 ∧ others.length = 3 := by rcases hw with ⟨rfl, rfl⟩ | ⟨rfl, rfl⟩ <;> exact ⟨rfl, rfl⟩
  have hord : whos.Pairwise fun a b => lt a b = true := by rcases hw with ⟨rfl, rfl⟩ | ⟨rfl, rfl⟩ <;> decide
  have hkw : ∀ s ∈ whos, KeyOk s ∧ s ≠ [] := by
    intro s hs
    have h1 : s ∈ csN ++ rsN := by rcases hw with ⟨rfl, rfl⟩ | ⟨rfl, rfl⟩ <;> simp [hs]
    refine ⟨key_ok s h1, ?_⟩
    rintro rfl
    revert h1; decide
  have hko : ∀ s ∈ others, KeyOk s := by
    intro s hs
    exact key_ok s (by rcases hw with ⟨rfl, rfl⟩ | ⟨rfl, rfl⟩ <;> simp [hs])
  have h3 := h.who.length_le
  rw [List.length_map, hlen.1] at h3
  have hm : ∀ w ∈ l, w.who ∈ whos := fun w hw' => h.who.subset (List.mem_map.2 ⟨w, hw', rfl⟩)
  refine ⟨⟨by omega, fun w hw' => (hkw _ (hm w hw')).1, List.pairwise_map.1 (hord.sublist h.who), fun w hw' => ?_, fun w hw' s hs => hko s ((h.fr w hw').2 s hs), fun w hw' => (h.fr w hw').1⟩, h3, fun w hw' => (hkw _ (hm w hw')).2⟩
  have := nodup_le (h.fr w hw').1 (h.fr w hw').2
  omega

theorem ready_ok (H : Heap) : pureCall prog (R prog) f_jitkeep2_ready [] H = some (.bool true) := by
  refine pure_fz (by simp) rfl ?_
  exact yl_run (k := 80) (v := .bool true) ready_run fun v' H' h => h

theorem hPR_of {l : List W} : ∀ r c, c ∈ prefOf l r → ∃ i, i < l.length ∧ whoOf l i = r := by
  intro r c h
  unfold prefOf at h
  cases hk : look r (tabOf l) with
  | none => rw [hk] at h; simp at h
  | some f =>
    obtain ⟨w, hw, he, _⟩ := look_tabOf hk
    obtain ⟨i, hi, rfl⟩ := List.getElem_of_mem hw
    exact ⟨i, hi, by rw [whoOf_get hi, he]⟩

theorem hnm_of {l : List W} (h : OkW l) : ∀ i j, i < l.length → j < l.length → whoOf l i = whoOf l j → i = j := by
  intro i j hi hj he
  rw [whoOf_get hi, whoOf_get hj] at he
  have := List.pairwise_iff_getElem.1 h.ord
  rcases Nat.lt_trichotomy i j with h1 | h1 | h1
  · exact (lt_ne (this i j hi hj h1) he).elim
  · exact h1
  · exact (lt_ne (this j i hj hi h1) he.symm).elim

theorem law_loop {d back : List Deal} (hd : d.length ≤ 12) (hb : back.length ≤ 12) (h1 : ∀ c r, (c, r) ∈ d → (∃ y ∈ back, y.2 = c) ∧ ∃ y ∈ back, y.1 = r) {k0 : Heap → Option (AV × Heap)} {Q : AV → Heap → Prop} (hk : ∀ H, Yl (k0 H) Q) (m : Nat) : ∀ n H, m + n = d.length →
    Yl (l_jitkeep2_StableIsStable_0 (encDs back) (encDs d) (I d.length) (I n) H k0) Q := by
  induction m with
  | zero =>
    intro n H hm
    refine l_jitkeep2_StableIsStable_0_s _ _ _ _ _ _ ?_
    simp only [obind, condK_bool, gB_bool, bin_lss, bin_leq, bin_gtr, bin_geq, bin_eql, bin_neq, str_eql, str_neq, un_not, ext0, ext1, ext2, nilc_ptr, nilc_vptr, fa_ptr, fa_vptr0, load_vptr, len_vslice, len_slice, len_nil, len_str, decide_eq_true_eq, Bool.false_eq_true, if_true, if_false, Bool.not_true, Bool.not_false, Bool.not_eq_true, Bool.not_eq_true', decide_eq_false_iff_not, Bool.true_eq_false, eq_self, Nat.zero_add, Nat.add_zero, load_box, get0, get1, get2, get3, yl_some]
    rw [if_neg (by omega)]
    exact hk H
  | succ m ih =>
    intro n H hm
    refine l_jitkeep2_StableIsStable_0_s _ _ _ _ _ _ ?_
    have hn : n < d.length := by omega
    obtain ⟨⟨y1, g1, g2⟩, ⟨y2, g3, g4⟩⟩ := h1 d[n].1 d[n].2 (List.getElem_mem hn)
    simp only [obind, condK_bool, gB_bool, bin_lss, bin_leq, bin_gtr, bin_geq, bin_eql, bin_neq, str_eql, str_neq, un_not, ext0, ext1, ext2, nilc_ptr, nilc_vptr, fa_ptr, fa_vptr0, load_vptr, len_vslice, len_slice, len_nil, len_str, decide_eq_true_eq, Bool.false_eq_true, if_true, if_false, Bool.not_true, Bool.not_false, Bool.not_eq_true, Bool.not_eq_true', decide_eq_false_iff_not, Bool.true_eq_false, eq_self, Nat.zero_add, Nat.add_zero, load_box, get0, get1, get2, get3, yl_some]
    rw [if_pos (by omega), index_D hn]
    simp only [obind, condK_bool, gB_bool, bin_lss, bin_leq, bin_gtr, bin_geq, bin_eql, bin_neq, str_eql, str_neq, un_not, ext0, ext1, ext2, nilc_ptr, nilc_vptr, fa_ptr, fa_vptr0, load_vptr, len_vslice, len_slice, len_nil, len_str, decide_eq_true_eq, Bool.false_eq_true, if_true, if_false, Bool.not_true, Bool.not_false, Bool.not_eq_true, Bool.not_eq_true', decide_eq_false_iff_not, Bool.true_eq_false, eq_self, Nat.zero_add, Nat.add_zero, load_box, get0, get1, get2, get3, yl_some]
    rw [load_vptrs (n := 2) _ (by simp)]
    simp only [obind, condK_bool, gB_bool, bin_lss, bin_leq, bin_gtr, bin_geq, bin_eql, bin_neq, str_eql, str_neq, un_not, ext0, ext1, ext2, nilc_ptr, nilc_vptr, fa_ptr, fa_vptr0, load_vptr, len_vslice, len_slice, len_nil, len_str, decide_eq_true_eq, Bool.false_eq_true, if_true, if_false, Bool.not_true, Bool.not_false, Bool.not_eq_true, Bool.not_eq_true', decide_eq_false_iff_not, Bool.true_eq_false, eq_self, Nat.zero_add, Nat.add_zero, load_box, get0, get1, get2, get3, yl_some, List.take]
    rw [box_ok (by rfl) (by rfl)]
    simp only [obind, condK_bool, gB_bool, bin_lss, bin_leq, bin_gtr, bin_geq, bin_eql, bin_neq, str_eql, str_neq, un_not, ext0, ext1, ext2, nilc_ptr, nilc_vptr, fa_ptr, fa_vptr0, load_vptr, len_vslice, len_slice, len_nil, len_str, decide_eq_true_eq, Bool.false_eq_true, if_true, if_false, Bool.not_true, Bool.not_false, Bool.not_eq_true, Bool.not_eq_true', decide_eq_false_iff_not, Bool.true_eq_false, eq_self, Nat.zero_add, Nat.add_zero, load_box, get0, get1, get2, get3, yl_some]
    rw [store_box (sz := 2) (by rfl) (by rfl) (by rfl)]
    simp only [obind, condK_bool, gB_bool, bin_lss, bin_leq, bin_gtr, bin_geq, bin_eql, bin_neq, str_eql, str_neq, un_not, ext0, ext1, ext2, nilc_ptr, nilc_vptr, fa_ptr, fa_vptr0, load_vptr, len_vslice, len_slice, len_nil, len_str, decide_eq_true_eq, Bool.false_eq_true, if_true, if_false, Bool.not_true, Bool.not_false, Bool.not_eq_true, Bool.not_eq_true', decide_eq_false_iff_not, Bool.true_eq_false, eq_self, Nat.zero_add, Nat.add_zero, load_box, get0, get1, get2, get3, yl_some]
    have hsn : snap (H ++ [Blk.arr 2 [.agg [.str d[n].1, .str d[n].2]]]) 11 (.ptr H.length 0 0) = some (.vptr [.str d[n].1, .str d[n].2]) := by
      rw [X.snap]
      simp only [app_get0]
      rfl
    rw [pure_ext extP (contains_func (p := fun y => decide (y.2 = d[n].1)) (by rfl) (law1_call d[n]) (by omega) ⟨y1, g1, by simpa using g2⟩ hsn),
      pure_ext extP (contains_func (p := fun y => decide (y.1 = d[n].2)) (by rfl) (law2_call d[n]) (by omega) ⟨y2, g3, by simpa using g4⟩ hsn)]
    simp only [obind, condK_bool, gB_bool, bin_lss, bin_leq, bin_gtr, bin_geq, bin_eql, bin_neq, str_eql, str_neq, un_not, ext0, ext1, ext2, nilc_ptr, nilc_vptr, fa_ptr, fa_vptr0, load_vptr, len_vslice, len_slice, len_nil, len_str, decide_eq_true_eq, Bool.false_eq_true, if_true, if_false, Bool.not_true, Bool.not_false, Bool.not_eq_true, Bool.not_eq_true', decide_eq_false_iff_not, Bool.true_eq_false, eq_self, Nat.zero_add, Nat.add_zero, load_box, get0, get1, get2, get3, yl_some]
    rw [succ64 _ _ (by omega)]
    simp only [obind, condK_bool, gB_bool, bin_lss, bin_leq, bin_gtr, bin_geq, bin_eql, bin_neq, str_eql, str_neq, un_not, ext0, ext1, ext2, nilc_ptr, nilc_vptr, fa_ptr, fa_vptr0, load_vptr, len_vslice, len_slice, len_nil, len_str, decide_eq_true_eq, Bool.false_eq_true, if_true, if_false, Bool.not_true, Bool.not_false, Bool.not_eq_true, Bool.not_eq_true', decide_eq_false_iff_not, Bool.true_eq_false, eq_self, Nat.zero_add, Nat.add_zero, load_box, get0, get1, get2, get3, yl_some]
    exact ih (n + 1) _ (by omega)

theorem law_ok (zs : List Int) : Yl (R prog1 f_jitkeep2_StableIsStable [.vslice (zs.map I)] []) fun v _ => v = .bool true := by
  refine r_jitkeep2_StableIsStable _ _ ?_
  have e1 : buildAV [.nilslice, I 0] [(0, 1, .vslice (zs.map I))] = some (.agg [.vslice (zs.map I), I 0]) := rfl
  have e2 : boxAV 2 (.agg [.vslice (zs.map I), I 0]) [] = some (.ptr 0 0 0, [stB zs 0]) := rfl
  have e3 : ∀ H, litAV 1 [.str [], .str [], .str []] [(0, .str [99, 97]), (1, .str [99, 98]), (2, .str [99, 99])] false H = some (encL csN, H) := fun _ => rfl
  have e4 : ∀ H, litAV 1 [.str [], .str [], .str []] [(0, .str [114, 97]), (1, .str [114, 98]), (2, .str [114, 99])] false H = some (encL rsN, H) := fun _ => rfl
  obtain ⟨cars, q1, w1, rw1, b1⟩ := wishes_cut (whos := csN) (others := rsN) (by decide) (by decide) (by decide) (zs := zs) (q := 0) (by decide)
  have hl : csN.length * (2 * rsN.length + 1) = 21 := rfl
  rw [hl] at b1
  obtain ⟨rides, q2, w2, rw2, b2⟩ := wishes_cut (whos := rsN) (others := csN) (by decide) (by decide) (by decide) (zs := zs) (q := q1) (by rw [show rsN.length * (2 * csN.length + 1) = 21 from rfl]; omega)
  obtain ⟨oc, lc, nc⟩ := ok_of (.inl ⟨rfl, rfl⟩) rw1
  obtain ⟨orr, lr, nr⟩ := ok_of (.inr ⟨rfl, rfl⟩) rw2
  obtain ⟨hs1, as1, i1, c1⟩ := stable_call oc orr (by omega)
  obtain ⟨hs2, as2, i2, c2⟩ := stable_call orr oc (by omega)
  have s1 := i1.stable (hF_of orr) (hnm_of orr) hPR_of
  have s2 := i2.stable (hF_of oc) (hnm_of oc) hPR_of
  have o1 := once_deals i1 s1
  have o2 := once_deals i2 s2
  have hbest := fun c r h => i1.best (hF_of orr) hPR_of s2.swap (c := c) (r := r) h
  obtain ⟨n1, n2, n3⟩ := same_left s1 s2.swap o1 o2.swap hbest
  have f1 := cars_few i1
  have f2 := cars_few i2
  have p1 := sortI_perm cmpD (dealsOf (whoOf rides) hs1)
  have p2 := sortI_perm cmpD (dealsOf (whoOf cars) hs2)
  have hk1 : (dealsOf (whoOf rides) hs1).Pairwise fun a b => a.1 ≠ b.1 := List.pairwise_map.2 i1.keys
  have hd1 : (dealsOf (whoOf rides) hs1).length ≤ 3 := by simp [dealsOf]; omega
  have hd2 : (dealsOf (whoOf cars) hs2).length ≤ 3 := by simp [dealsOf]; omega
  have hsw : (swp (dealsOf (whoOf cars) hs2)).length = (dealsOf (whoOf cars) hs2).length := by simp [swp]
  rw [hsw] at n1
  have hloop : ∀ c r, (c, r) ∈ sortI cmpD (dealsOf (whoOf rides) hs1) → (∃ y ∈ sortI cmpD (dealsOf (whoOf cars) hs2), y.2 = c) ∧ ∃ y ∈ sortI cmpD (dealsOf (whoOf cars) hs2), y.1 = r := by
    intro c r h
    have h := p1.mem_iff.1 h
    obtain ⟨r', h1⟩ := n2 c r h
    obtain ⟨c', h2⟩ := n3 c r h
    exact ⟨⟨_, p2.mem_iff.2 (mem_swp.1 h1), rfl⟩, ⟨_, p2.mem_iff.2 (mem_swp.1 h2), rfl⟩⟩
  have hmat : Mat (tabOf cars) (tabOf rides) (sortI cmpD (dealsOf (whoOf rides) hs1)) := mat_of (s1.perm p1) (o1.perm p1) (by rw [p1.length_eq]; omega) (sortD_ord hk1)
  have hcalm := calm_of oc (s1.perm p1)
  have hl1 := p1.length_eq
  have hl2 := p2.length_eq
  generalize sortI cmpD (dealsOf (whoOf rides) hs1) = d at *
  generalize sortI cmpD (dealsOf (whoOf cars) hs2) = back at *
  simp only [obind, condK_bool, gB_bool, bin_lss, bin_leq, bin_gtr, bin_geq, bin_eql, bin_neq, str_eql, str_neq, un_not, ext0, ext1, ext2, nilc_ptr, nilc_vptr, fa_ptr, fa_vptr0, load_vptr, len_vslice, len_slice, len_nil, len_str, decide_eq_true_eq, Bool.false_eq_true, if_true, if_false, Bool.not_true, Bool.not_false, Bool.not_eq_true, Bool.not_eq_true', decide_eq_false_iff_not, Bool.true_eq_false, eq_self, Nat.zero_add, Nat.add_zero, load_box, get0, get1, get2, get3, yl_some, e1, e2, e3, e4, cut_ext extP w1, cut_ext extP w2, c1, c2, pure_ext extP (blocking_ok oc orr nc hmat hcalm _), lit_int2]
  have he := errs_ok [stB zs q2] (es := [0, 0]) (by decide)
  have he' : pureCall prog (R prog) f_jitkeep2_errs [.vslice [I 0, I 0]] [stB zs q2] = some (I 0) := he
  simp only [pure_ext extP he', obind, condK_bool, gB_bool, bin_lss, bin_leq, bin_gtr, bin_geq, bin_eql, bin_neq, str_eql, str_neq, un_not, ext0, ext1, ext2, nilc_ptr, nilc_vptr, fa_ptr, fa_vptr0, load_vptr, len_vslice, len_slice, len_nil, len_str, decide_eq_true_eq, Bool.false_eq_true, if_true, if_false, Bool.not_true, Bool.not_false, Bool.not_eq_true, Bool.not_eq_true', decide_eq_false_iff_not, Bool.true_eq_false, eq_self, Nat.zero_add, Nat.add_zero, load_box, get0, get1, get2, get3, yl_some, ne_eq, not_true_eq_false, len_Ds, List.length_nil, Int.ofNat_zero]
  rw [if_neg (by omega)]
  refine law_loop (by omega) (by omega) hloop (fun H => ?_) d.length 0 _ (by omega)
  simp only [pure_ext extP (ready_ok H), obind, condK_bool, gB_bool, bin_lss, bin_leq, bin_gtr, bin_geq, bin_eql, bin_neq, str_eql, str_neq, un_not, ext0, ext1, ext2, nilc_ptr, nilc_vptr, fa_ptr, fa_vptr0, load_vptr, len_vslice, len_slice, len_nil, len_str, decide_eq_true_eq, Bool.false_eq_true, if_true, if_false, Bool.not_true, Bool.not_false, Bool.not_eq_true, Bool.not_eq_true', decide_eq_false_iff_not, Bool.true_eq_false, eq_self, Nat.zero_add, Nat.add_zero, load_box, get0, get1, get2, get3, yl_some]
end Y
end Go.Proofs.YtkaigfcjejabfaaGreatDoor
