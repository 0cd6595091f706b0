/- What Stable answers, whatever order its map takes. No condition. -/
import Derived.Test.YtkaigfcjejabfaaGreatDoorYV
import Derived.Test.YtkaigfcjejabfaaGreatDoorXMW
set_option maxRecDepth 100000
set_option linter.unusedSimpArgs false
set_option linter.unusedVariables false
namespace Go.Proofs.YtkaigfcjejabfaaGreatDoor
open Go
namespace Y
open X

def cmpD (a b : Deal) : Int := cmpS a.1 b.1

theorem cmpD_call (H : Heap) (a b : Deal) : pureCall prog (R prog) f_match_Stable_1 [encD a, encD b] H = some (I (cmpD a b)) := by
  refine pure_fz (fun v hv => ?_) rfl (r_match_Stable_1 _ _ _ ?_)
  · simp only [List.mem_cons, List.not_mem_nil, or_false] at hv
    rcases hv with rfl | rfl <;> exact ⟨fun _ => rfl, rfl⟩
  · have e1 : boxAV 2 (encD a) [] = some (.ptr 0 0 0, [.arr 2 [encD a]]) := rfl
    have e2 : boxAV 2 (encD b) [.arr 2 [encD a]] = some (.ptr 1 0 0, [.arr 2 [encD a], .arr 2 [encD b]]) := rfl
    have e3 : loadAV [.arr 2 [encD a], .arr 2 [encD b]] none (.ptr 0 0 0) = some (.str a.1) := rfl
    have e4 : loadAV [.arr 2 [encD a], .arr 2 [encD b]] none (.ptr 1 0 0) = some (.str b.1) := rfl
    simp only [e1, obind, condK_bool, gB_bool, bin_lss, bin_leq, bin_gtr, bin_geq, bin_eql, bin_neq, str_eql, str_neq, un_not, ext0, ext1, ext2, nilc_ptr, nilc_vptr, fa_ptr, fa_vptr0, load_vptr, len_vslice, len_slice, len_nil, len_str, decide_eq_true_eq, Bool.false_eq_true, if_true, if_false, Bool.not_true, Bool.not_false, Bool.not_eq_true, Bool.not_eq_true', decide_eq_false_iff_not, Bool.true_eq_false, eq_self, Nat.zero_add, Nat.add_zero, load_box, get0, get1, get2, get3, yl_some, e2, e3, e4, compare_ok]
    rfl

theorem mkSlice_ok (H : Heap) (n : Nat) (h : n ≤ 1000000) : mkSliceAV 1 8 (I 0) (I n) (I n) H = some (.slice H.length 0 n, H ++ [.arr 1 (List.replicate n (I 0))]) := by
  simp [mkSliceAV, AV.asNat, natArg]; omega

theorem fill_free {n : Nat} (hn : n ≤ 1000) {L : Nat} {v1 v7 v8 v9 : AV} {k0 : AV → AV → AV → AV → AV → Heap → Option (AV × Heap)} {Q : AV → Heap → Prop} (m : Nat) : ∀ (i : Nat) (H : Heap) (v : AV), m + i = n → Own H 1 v (natI (List.range i)) → Lo L v → L ≤ H.length →
    (∀ H' v', (∀ c, c < L → H'[c]? = H[c]?) → Own H' 1 v' (natI (List.range n)) → Lo L v' → Yl (k0 v1 v7 v8 v9 v' H') Q) → Yl (l_match_Stable_0 v1 v7 v8 v9 v (I n) (I i) H k0) Q := by
  induction m with
  | zero =>
    intro i H v hm ho hl hH hq
    refine l_match_Stable_0_s _ _ _ _ _ _ _ _ _ ?_
    obtain rfl : i = n := by omega
    simp only [obind, condK_bool, gB_bool, bin_lss, bin_leq, bin_gtr, bin_geq, bin_eql, bin_neq, str_eql, str_neq, un_not, ext0, ext1, ext2, nilc_ptr, nilc_vptr, fa_ptr, fa_vptr0, load_vptr, len_vslice, len_slice, len_nil, len_str, decide_eq_true_eq, Bool.false_eq_true, if_true, if_false, Bool.not_true, Bool.not_false, Bool.not_eq_true, Bool.not_eq_true', decide_eq_false_iff_not, Bool.true_eq_false, eq_self, Nat.zero_add, Nat.add_zero, load_box, get0, get1, get2, get3, yl_some]
    rw [if_neg (by omega)]
    exact hq H v (fun _ _ => rfl) ho hl
  | succ m ih =>
    intro i H v hm ho hl hH hq
    refine l_match_Stable_0_s _ _ _ _ _ _ _ _ _ ?_
    simp only [obind, condK_bool, gB_bool, bin_lss, bin_leq, bin_gtr, bin_geq, bin_eql, bin_neq, str_eql, str_neq, un_not, ext0, ext1, ext2, nilc_ptr, nilc_vptr, fa_ptr, fa_vptr0, load_vptr, len_vslice, len_slice, len_nil, len_str, decide_eq_true_eq, Bool.false_eq_true, if_true, if_false, Bool.not_true, Bool.not_false, Bool.not_eq_true, Bool.not_eq_true', decide_eq_false_iff_not, Bool.true_eq_false, eq_self, Nat.zero_add, Nat.add_zero, load_box, get0, get1, get2, get3, yl_some]
    rw [if_pos (by omega), lit_int]
    simp only [obind, condK_bool, gB_bool, bin_lss, bin_leq, bin_gtr, bin_geq, bin_eql, bin_neq, str_eql, str_neq, un_not, ext0, ext1, ext2, nilc_ptr, nilc_vptr, fa_ptr, fa_vptr0, load_vptr, len_vslice, len_slice, len_nil, len_str, decide_eq_true_eq, Bool.false_eq_true, if_true, if_false, Bool.not_true, Bool.not_false, Bool.not_eq_true, Bool.not_eq_true', decide_eq_false_iff_not, Bool.true_eq_false, eq_self, Nat.zero_add, Nat.add_zero, load_box, get0, get1, get2, get3, yl_some]
    obtain ⟨v', H', h1, h2, h3⟩ := append_own (y := .vslice [I i]) (xs := [I i]) (bytes := 8) ho (elems_vslice _ _) rfl rfl (by omega) (by simp [natI]; omega)
    rw [h1]
    simp only [obind, condK_bool, gB_bool, bin_lss, bin_leq, bin_gtr, bin_geq, bin_eql, bin_neq, str_eql, str_neq, un_not, ext0, ext1, ext2, nilc_ptr, nilc_vptr, fa_ptr, fa_vptr0, load_vptr, len_vslice, len_slice, len_nil, len_str, decide_eq_true_eq, Bool.false_eq_true, if_true, if_false, Bool.not_true, Bool.not_false, Bool.not_eq_true, Bool.not_eq_true', decide_eq_false_iff_not, Bool.true_eq_false, eq_self, Nat.zero_add, Nat.add_zero, load_box, get0, get1, get2, get3, yl_some]
    rw [succ64 _ _ (by omega)]
    simp only [obind, condK_bool, gB_bool, bin_lss, bin_leq, bin_gtr, bin_geq, bin_eql, bin_neq, str_eql, str_neq, un_not, ext0, ext1, ext2, nilc_ptr, nilc_vptr, fa_ptr, fa_vptr0, load_vptr, len_vslice, len_slice, len_nil, len_str, decide_eq_true_eq, Bool.false_eq_true, if_true, if_false, Bool.not_true, Bool.not_false, Bool.not_eq_true, Bool.not_eq_true', decide_eq_false_iff_not, Bool.true_eq_false, eq_self, Nat.zero_add, Nat.add_zero, load_box, get0, get1, get2, get3, yl_some]
    obtain ⟨g1, g2⟩ := h3.lo hl hH
    have hr : natI (List.range (i + 1)) = natI (List.range i) ++ [I i] := by simp [natI, List.range_succ]
    exact ih (i + 1) H' v' (by omega) (by rw [hr]; exact h2) g1 (Nat.le_trans hH h3.len) fun H'' v'' a c d => hq H'' v'' (fun x hx => (a x hx).trans ((g2 (x + 1)).old x hx (by omega))) c d

theorem left_le {l : List W} (h : OkW l) (asked : List Nat) : left l asked ≤ 100 * l.length := by
  have : ∀ n, n ≤ l.length → ((List.range n).map fun i => (frOf l i).length - asked.getD i 0).sum ≤ 100 * n := by
    intro n
    induction n with
    | zero => simp
    | succ n ih =>
      intro hn
      rw [List.range_succ]
      simp only [List.map_append, List.map_cons, List.map_nil, List.sum_append, List.sum_cons, List.sum_nil]
      have := ih (by omega)
      have := h.few _ (List.getElem_mem (show n < l.length by omega))
      rw [← frOf_get (show n < l.length by omega)] at this
      omega
  exact this _ (Nat.le_refl _)

theorem inv_start (n : Nat) (F : Nat → List Str) (nm : Nat → Str) (PC PR : Pref) : Inv n F nm PC PR [] (List.replicate n 0) (List.range n) := by
  have h0 : ∀ (i a : Nat), (List.replicate n 0)[i]? = some a → a = 0 := by
    intro i a h
    rw [List.getElem?_replicate] at h
    split at h <;> simp at h; exact h.symm
  refine ⟨by simp, fun i a h => (by rw [h0 i a h]; omega), .nil, fun c i h => (by cases h), fun i hi => (by simpa using hi), List.nodup_range, fun i hi => .inl (by simpa using hi), fun i a k c h hk _ => ?_, fun d hd i a k c h hk _ => ?_⟩
  · rw [h0 i a h] at hk; omega
  · rw [h0 i a h] at hk; omega

theorem stable_pre {cars rides : List W} (hc : OkW cars) (hr : OkW rides) : ∃ e0 H0 b hs asked, code prog (R prog) Li (seqAll ([px6_0, px6_1, px6_2, px6_3, px6_4, px6_5, px6_6, px6_7, px6_8] ++ [.region xs0_6 []])) (env0 [encWs cars, encWs rides]) [] = some (.normal, e0, H0) ∧
    e0 141 = .map b ∧ e0 1 = encWs rides ∧ e0 16 = .nilslice ∧ H0[b]? = some (.map (tks hs) (tvs natA hs)) ∧ Inv rides.length (frOf rides) (whoOf rides) (prefOf cars) (prefOf rides) hs asked [] := by
  obtain ⟨e0, H0, h1, b, hs, asked, h2, h3, h4⟩ := wa_match_Stable (encWs cars) (encWs rides) [] (Q := fun u H => ∃ b hs asked, u = .tuple [.map b, encWs rides, .nilslice] ∧ H[b]? = some (.map (tks hs) (tvs natA hs)) ∧ Inv rides.length (frOf rides) (whoOf rides) (prefOf cars) (prefOf rides) hs asked []) (by
    have hrl := hr.len
    simp only [obind, condK_bool, gB_bool, bin_lss, bin_leq, bin_gtr, bin_geq, bin_eql, bin_neq, str_eql, str_neq, un_not, ext0, ext1, ext2, nilc_ptr, nilc_vptr, fa_ptr, fa_vptr0, load_vptr, len_vslice, len_slice, len_nil, len_str, decide_eq_true_eq, Bool.false_eq_true, if_true, if_false, Bool.not_true, Bool.not_false, Bool.not_eq_true, Bool.not_eq_true', decide_eq_false_iff_not, Bool.true_eq_false, eq_self, Nat.zero_add, Nat.add_zero, load_box, get0, get1, get2, get3, yl_some, check_ok hc, check_ok hr, lit_int2, first_ok, firstE, ne_eq, not_true_eq_false, len_Ws, wishes_ok hc, newMap_ok]
    rw [mkSlice_ok _ _ (by omega)]
    simp only [obind, condK_bool, gB_bool, bin_lss, bin_leq, bin_gtr, bin_geq, bin_eql, bin_neq, str_eql, str_neq, un_not, ext0, ext1, ext2, nilc_ptr, nilc_vptr, fa_ptr, fa_vptr0, load_vptr, len_vslice, len_slice, len_nil, len_str, decide_eq_true_eq, Bool.false_eq_true, if_true, if_false, Bool.not_true, Bool.not_false, Bool.not_eq_true, Bool.not_eq_true', decide_eq_false_iff_not, Bool.true_eq_false, eq_self, Nat.zero_add, Nat.add_zero, load_box, get0, get1, get2, get3, yl_some]
    refine fill_free (L := 2) (by omega) rides.length 0 _ .nilslice (by omega) (.nil _ _) (.nil _) (by simp) fun H' v' ho hf hl => ?_
    have hb0 : H'[0]? = some (.map [] []) := by rw [ho 0 (by omega)]; rfl
    have hb1 : H'[1]? = some (.arr 1 (List.replicate rides.length (I 0))) := by rw [ho 1 (by omega)]; rfl
    have ho9 : Own H' 1 (.slice 1 0 rides.length) (natI (List.replicate rides.length 0)) := by
      have hrep : natI (List.replicate rides.length 0) = List.replicate rides.length (I 0) := by simp [natI]
      rw [hrep]
      exact .inr ⟨1, _, by simp, hb1, by simp, by simp⟩
    have hll := left_le hr (List.replicate rides.length 0)
    refine stable_loop hc hr (bm := 0) (v9 := .slice 1 0 rides.length) (fun H hs asked hi hm => yl_some.2 ⟨0, hs, asked, rfl, hm, hi⟩) 100000 (by omega) [] _ _ H' v' (by simp; omega) (inv_start _ _ _ _ _) ⟨hb0, ho9, hf, by simp [AV.blockOf], fun e => ?_, fun c hc' e => ?_⟩
    · have := hl 0 e; omega
    · simp [AV.blockOf] at hc'; subst hc'; have := hl 1 e; omega)
  simp only [List.map_cons, List.map_nil, AV.tuple.injEq, List.cons.injEq, and_true] at h2
  exact ⟨e0, H0, b, hs, asked, h1, h2.1, h2.2.1, h2.2.2, h3, h4⟩

theorem build_D (a b : Str) : buildAV [.str [], .str []] [(0, 1, .str a), (1, 1, .str b)] = some (.agg [.str a, .str b]) := (rfl)
theorem lit_D (H : Heap) (z : AV) (a b : Str) : litAV 2 [z] [(0, .agg [.str a, .str b])] false H = some (.vslice [.agg [.str a, .str b]], H) := by
  simp [litAV, fillLit, AV.cells, AV.storable]; rfl

theorem nodup_le {l m : List Str} (h : l.Nodup) (hs : ∀ x ∈ l, x ∈ m) : l.length ≤ m.length := by
  induction l generalizing m with
  | nil => simp
  | cons x l ih =>
    rw [List.nodup_cons] at h
    have hx := hs x (by simp)
    have := ih (m := m.erase x) h.2 fun y hy => (List.mem_erase_of_ne (fun e : y = x => h.1 (e ▸ hy))).2 (hs y (by simp [hy]))
    rw [List.length_erase_of_mem hx] at this
    have := List.length_pos_of_mem hx
    simp; omega

theorem cars_few {cars rides : List W} {hs : Tab Nat} {asked : List Nat} (h : Inv rides.length (frOf rides) (whoOf rides) (prefOf cars) (prefOf rides) hs asked []) : hs.length ≤ cars.length := by
  have := nodup_le (l := hs.map (·.1)) (m := cars.map W.who) (List.pairwise_map.2 h.keys) (fun c hcm => by
    obtain ⟨p, hp, rfl⟩ := List.mem_map.1 hcm
    have hl := look_of_mem h.keys (s := p.1) (x := p.2) hp
    obtain ⟨_, _, h3, _⟩ := h.hv _ _ hl
    unfold prefOf at h3
    cases hk : look p.1 (tabOf cars) with
    | none => rw [hk] at h3; simp at h3
    | some f =>
      obtain ⟨w, hw, he, _⟩ := look_tabOf hk
      exact List.mem_map.2 ⟨w, hw, he⟩)
  simpa using this

theorem sort_deals {l m : List Deal} (h : l.Perm m) (hk : m.Pairwise fun a b => a.1 ≠ b.1) : sortI cmpD l = sortI cmpD m := by
  have hc : ∀ a b : Deal, cmpD a b < 0 → lt a.1 b.1 = true := fun a b h => cmpS_neg.1 h
  have ht : ∀ a b : Deal, a.1 ≠ b.1 → ¬ cmpD a b < 0 → lt b.1 a.1 = true := by
    intro a b hne h
    have : ¬ lt a.1 b.1 = true := fun hl => h (cmpS_neg.2 hl)
    rcases lt_total a.1 b.1 with h1 | h1 | h1
    · exact (this h1).elim
    · exact (hne h1).elim
    · exact h1
  have hl : l.Pairwise fun a b => a.1 ≠ b.1 := (h.pairwise_iff fun h => Ne.symm h).2 hk
  exact sorted_eq (lt := fun a b : Deal => lt a.1 b.1 = true) (fun a h => by rw [lt_irrefl] at h; cases h) (fun a b d h1 h2 => lt_trans h1 h2) (((sortI_perm cmpD l).trans h).trans (sortI_perm cmpD m).symm)
    (sortI_sorted hc ht (fun a b d h1 h2 => lt_trans h1 h2) (fun a b h => Ne.symm h) hl) (sortI_sorted hc ht (fun a b d h1 h2 => lt_trans h1 h2) (fun a b h => Ne.symm h) hk)

theorem map_erase {α β : Type} (f : α → β) : ∀ (l : List α) (j : Nat), (l.map f).eraseIdx j = (l.eraseIdx j).map f
  | [], j => by simp
  | x :: l, 0 => by simp
  | x :: l, j + 1 => by simp [map_erase f l j]

theorem erase_perm {α : Type} {x : α} : ∀ {l : List α} {j : Nat}, l[j]? = some x → (x :: l.eraseIdx j).Perm l
  | [], j, h => by simp at h
  | y :: l, 0, h => by simp at h; subst h; exact List.Perm.refl _
  | y :: l, j + 1, h => by
    simp only [List.getElem?_cons_succ] at h
    rw [List.eraseIdx_cons_succ]
    exact (List.Perm.swap y x _).trans ((erase_perm h).cons y)

theorem stable_fold {rides : List W} {all : List Deal} (hall : all.Pairwise fun a b => a.1 ≠ b.1) (hlen : all.length ≤ 12) {it : AV} (k : Nat) : ∀ (rem : List (Str × Nat)) (e : Env) (H : Heap) (v : AV) (done : List Deal), rem.length = k → e 1 = encWs rides → e 16 = v → e 142 = it →
    Own H 2 v (done.map encD) → (∀ p ∈ rem, p.2 < rides.length) → (done ++ rem.map fun p => (p.1, whoOf rides p.2)).Perm all →
    FoldW prog xb_6 6 142 145 [143, 144, 145] k (rem.map fun p => (.str p.1, natA p.2)) e H fun e H =>
      ∃ y e'' H'', code prog (R prog) Li xr_6 e H = some (y, e'', H'') ∧ (y = .normal ∨ y = .ret) ∧ ∃ u, resultsOf [.tmp 4, .tmp 5] e'' H'' = some u ∧ snap H'' deep u = some (.tuple [encDs (sortI cmpD all), I 0]) := by
  induction k with
  | zero =>
    intro rem e H v done hr h1 h16 hit ho hlt hp
    obtain rfl := List.length_eq_zero_iff.1 hr
    refine ⟨rfl, ?_⟩
    simp only [List.map_nil, List.append_nil] at hp
    refine wr_match_Stable (dropR [143, 144, 145] e) H (Q := fun u H'' => snap H'' deep u = some (.tuple [encDs (sortI cmpD all), I 0])) ?_
    have e16 : dropR [143, 144, 145] e 16 = v := h16
    rw [e16]
    obtain ⟨H', g1, g2, _⟩ := sort_ok (enc := encD) (c := cmpD) (cmp := .func (.func f_match_Stable_1) []) (v := v) (fun a => ⟨_, rfl, rfl, rfl⟩) (fun a b H K => by
      rw [callK_pure (by rfl)]
      simp only [List.append_nil, cmpD_call, obind]) (l := done) (by rw [hp.length_eq]; exact hlen) ho
    rw [g1]
    simp only [obind, condK_bool, gB_bool, bin_lss, bin_leq, bin_gtr, bin_geq, bin_eql, bin_neq, str_eql, str_neq, un_not, ext0, ext1, ext2, nilc_ptr, nilc_vptr, fa_ptr, fa_vptr0, load_vptr, len_vslice, len_slice, len_nil, len_str, decide_eq_true_eq, Bool.false_eq_true, if_true, if_false, Bool.not_true, Bool.not_false, Bool.not_eq_true, Bool.not_eq_true', decide_eq_false_iff_not, Bool.true_eq_false, eq_self, Nat.zero_add, Nat.add_zero, load_box, get0, get1, get2, get3, yl_some]
    have hs := g2.snapK (k := 10) (l' := (sortI cmpD done).map encD) (mapM_id fun a ha => by
      obtain ⟨p, _, rfl⟩ := List.mem_map.1 ha; rfl)
    rw [sort_deals hp hall] at hs
    unfold deep
    rw [X.snap]
    simp only [List.mapM_cons, List.mapM_nil, hs]
    rfl
  | succ k ih =>
    intro rem e H v done hr h1 h16 hit ho hlt hp
    refine ⟨by simpa using hr, fun j p hj => ?_⟩
    rw [List.getElem?_map, Option.map_eq_some_iff] at hj
    obtain ⟨q, hq, rfl⟩ := hj
    have hqm := List.mem_of_getElem? hq
    have hqn := hlt q hqm
    have hdl : done.length ≤ 12 := by
      have := hp.length_eq
      simp at this; omega
    obtain ⟨y, e', H', g1, g2, v', g3, g4⟩ := wb_match_Stable e (.str q.1) (natA q.2) H (Q := fun u H' => ∃ v', u = .tuple [encWs rides, v', it] ∧ Own H' 2 v' ((done ++ [(q.1, whoOf rides q.2)]).map encD)) (by
      rw [h1, h16, hit]
      simp only [obind, condK_bool, gB_bool, bin_lss, bin_leq, bin_gtr, bin_geq, bin_eql, bin_neq, str_eql, str_neq, un_not, ext0, ext1, ext2, nilc_ptr, nilc_vptr, fa_ptr, fa_vptr0, load_vptr, len_vslice, len_slice, len_nil, len_str, decide_eq_true_eq, Bool.false_eq_true, if_true, if_false, Bool.not_true, Bool.not_false, Bool.not_eq_true, Bool.not_eq_true', decide_eq_false_iff_not, Bool.true_eq_false, eq_self, Nat.zero_add, Nat.add_zero, load_box, get0, get1, get2, get3, yl_some]
      rw [natA, index_W hqn]
      simp only [obind, condK_bool, gB_bool, bin_lss, bin_leq, bin_gtr, bin_geq, bin_eql, bin_neq, str_eql, str_neq, un_not, ext0, ext1, ext2, nilc_ptr, nilc_vptr, fa_ptr, fa_vptr0, load_vptr, len_vslice, len_slice, len_nil, len_str, decide_eq_true_eq, Bool.false_eq_true, if_true, if_false, Bool.not_true, Bool.not_false, Bool.not_eq_true, Bool.not_eq_true', decide_eq_false_iff_not, Bool.true_eq_false, eq_self, Nat.zero_add, Nat.add_zero, load_box, get0, get1, get2, get3, yl_some, build_D, lit_D]
      obtain ⟨v', H', a1, a2, a3⟩ := append_own (y := .vslice [encD (q.1, whoOf rides q.2)]) (xs := [encD (q.1, whoOf rides q.2)]) (bytes := 32) ho (elems_vslice _ _) rfl rfl (by omega) (by simp; omega)
      have hw : AV.agg [.str q.1, .str rides[q.2].who] = encD (q.1, whoOf rides q.2) := by rw [whoOf_get hqn]; rfl
      rw [hw, a1]
      simp only [obind, condK_bool, gB_bool, bin_lss, bin_leq, bin_gtr, bin_geq, bin_eql, bin_neq, str_eql, str_neq, un_not, ext0, ext1, ext2, nilc_ptr, nilc_vptr, fa_ptr, fa_vptr0, load_vptr, len_vslice, len_slice, len_nil, len_str, decide_eq_true_eq, Bool.false_eq_true, if_true, if_false, Bool.not_true, Bool.not_false, Bool.not_eq_true, Bool.not_eq_true', decide_eq_false_iff_not, Bool.true_eq_false, eq_self, Nat.zero_add, Nat.add_zero, load_box, get0, get1, get2, get3, yl_some]
      exact ⟨v', rfl, by rw [List.map_append]; exact a2⟩)
    simp only [List.map_cons, List.map_nil, AV.tuple.injEq, List.cons.injEq, and_true] at g3
    refine ⟨y, e', H', g1, g2, by rw [g3.2.2, hit], ?_⟩
    have hjl : j < rem.length := (List.getElem?_eq_some_iff.1 hq).1
    have herase : (rem.map fun p => ((.str p.1 : AV), natA p.2)).eraseIdx j = (rem.eraseIdx j).map fun p => (.str p.1, natA p.2) := by
      exact map_erase _ _ _
    rw [herase]
    refine ih (rem.eraseIdx j) e' H' v' _ (by rw [List.length_eraseIdx, if_pos hjl]; omega) g3.1 g3.2.1 g3.2.2 g4 (fun p hp' => hlt p (List.mem_of_mem_eraseIdx hp')) ?_
    refine List.Perm.trans ?_ hp
    rw [List.append_assoc]
    refine List.Perm.append_left _ ?_
    have : (q :: rem.eraseIdx j).Perm rem := by
      exact erase_perm hq
    exact this.map fun p => (p.1, whoOf rides p.2)

/-- What Stable answers. -/
theorem stable_pure {cars rides : List W} (hc : OkW cars) (hr : OkW rides) (h12 : cars.length ≤ 12) : ∃ hs asked, Inv rides.length (frOf rides) (whoOf rides) (prefOf cars) (prefOf rides) hs asked [] ∧
    PureOK Tryz.prog noG f_match_Stable [encWs cars, encWs rides] (.tuple [encDs (sortI cmpD (dealsOf (whoOf rides) hs)), I 0]) := by
  obtain ⟨e0, H0, b, hs, asked, h1, h2, h3, h4, h5, h6⟩ := stable_pre hc hr
  refine ⟨hs, asked, h6, ?_⟩
  refine pw_match_Stable (by simp) h1 h2 h5 (by simp [tks, tvs]) (List.all_eq_true.2 fun a ha => ?_) (List.all_eq_true.2 fun a ha => ?_) ?_
  · obtain ⟨p, _, rfl⟩ := List.mem_map.1 ha; rfl
  · obtain ⟨p, _, rfl⟩ := List.mem_map.1 ha; rfl
  · have hz : (tks hs).zip (tvs natA hs) = hs.map fun p => (.str p.1, natA p.2) := by
      unfold tks tvs
      rw [List.zip_map']
    rw [hz, show (tks hs).length = hs.length by simp [tks]]
    have hn := cars_few h6
    refine stable_fold (rides := rides) (it := .iter H0.length) (List.pairwise_map.2 h6.keys) (by simp [dealsOf]; omega) hs.length hs _ _ .nilslice [] rfl ?_ ?_ ?_ (.nil _ _) (fun p hp => ?_) (by simp [dealsOf])
    · exact h3
    · exact h4
    · rfl
    · exact (h6.hv _ _ (look_of_mem h6.keys (s := p.1) (x := p.2) hp)).1
end Y
end Go.Proofs.YtkaigfcjejabfaaGreatDoor
