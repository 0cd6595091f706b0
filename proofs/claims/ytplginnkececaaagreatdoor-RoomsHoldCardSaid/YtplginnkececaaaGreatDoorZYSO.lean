/- What the functions of the streams and of the small library compute. What the small functions on numbers and strings compute: keys, moments, orders. Rides and asks in boxes; how asks are ordered; what is wrong with a ride and with an ask. What is wrong with asks, riders and rooms: both ways of looking come to the same. Sorting by insertion, in plain Lean. No condition. -/
import Derived.Test.YtplginnkececaaaGreatDoorZYD
import Derived.Test.YtplginnkececaaaGreatDoorZRA
set_option linter.unusedSimpArgs false
set_option linter.unusedVariables false
namespace Go.Proofs.YtplginnkececaaaGreatDoor
open Go
namespace Y
open X

abbrev I (n : Int) : AV := .int .i64 n

def below (x n : Int) : Int := if n < 1 then 0 else x % n

theorem below_ok (H : Heap) {x n : Int} (h1 : -4611686018427387904 ≤ n) (h2 : n < 4611686018427387904) : pureCall prog (R prog) f_jitmake_Below [I x, I n] H = some (I (below x n)) := by
  refine pure_fz (by simp [fz_int]) rfl (r_jitmake_Below _ _ _ ?_)
  simp only [SS]
  unfold below
  split
  · exact yl_some.2 rfl
  · rename_i hn
    rw [bin_rem _ _ _ _ _ (by omega)]
    simp only [SS]
    have h3 : x.tmod n = if 0 ≤ x ∨ n ∣ x then x % n else x % n - n := by
      rw [Int.tmod_eq_emod]; split <;> simp <;> omega
    have h4 := Int.emod_nonneg x (b := n) (by omega)
    have h5 := Int.emod_lt_of_pos x (b := n) (by omega)
    have h6 : n ∣ x → x % n = 0 := fun h => Int.emod_eq_zero_of_dvd h
    split
    · rename_i hlt
      rw [add64 _ _ (by omega) (by omega)]
      simp only [SS]
      rw [h3] at hlt ⊢
      split at hlt
      · omega
      · rename_i hx; rw [if_neg hx]; show some (I _) = some (I _); congr 2; omega
    · rename_i hlt
      rw [h3] at hlt ⊢
      split at hlt
      · rename_i hx; rw [if_pos hx]; exact yl_some.2 rfl
      · omega

theorem below_range (x : Int) {n : Int} (h : 1 ≤ n) : 0 ≤ below x n ∧ below x n < n := by
  unfold below
  rw [if_neg (by omega)]
  exact ⟨Int.emod_nonneg _ (by omega), Int.emod_lt_of_pos _ (by omega)⟩

def stB (zs : List Int) (at' : Nat) : Blk := .arr 2 [.agg [.vslice (zs.map I), I at']]

def nx (zs : List Int) (p : Nat) (n : Int) : Int :=
  if zs.length = 0 then below (IntKind.wrap .i64 (((p + 1 : Nat) : Int) * 7919)) n
  else below (IntKind.wrap .i64 (below (zs.getD (p % zs.length) 0) 1073741824 + IntKind.wrap .i64 (((p / zs.length : Nat) : Int) * IntKind.wrap .i64 (7919 + ((p % zs.length : Nat) : Int))))) n

theorem nx_range (zs : List Int) (p : Nat) {n : Int} (h : 1 ≤ n) : 0 ≤ nx zs p n ∧ nx zs p n < n := by
  unfold nx; split <;> exact below_range _ h

theorem next_ok {H : Heap} {b p : Nat} {zs : List Int} {n : Int} (hb : H[b]? = some (stB zs p)) (hp : p < 1000000000) (h1 : -4611686018427387904 ≤ n) (h2 : n < 4611686018427387904) :
    R prog f_jitmake_Stream_Next [.ptr b 0 0, I n] H = some (I (nx zs p n), H.set b (stB zs (p + 1))) := by
  suffices h : Yl (R prog f_jitmake_Stream_Next [.ptr b 0 0, I n] H) fun v H' => v = I (nx zs p n) ∧ H' = H.set b (stB zs (p + 1)) by
    obtain ⟨v, H', h1, rfl, rfl⟩ := h; exact h1
  refine r_jitmake_Stream_Next _ _ _ ?_
  have hb0 : H[b]? = some (.arr 2 [.agg [.vslice (zs.map I), I p]]) := hb
  have l1 : loadAV H none (.ptr b 0 1) = some (I p) := load_ptr hb0 rfl rfl
  have hs : storeAV H 1 (.ptr b 0 1) (I ((p + 1 : Nat) : Int)) = some (H.set b (stB zs (p + 1))) := store_ptr (x := I ((p + 1 : Nat) : Int)) (n := 1) (i := 0) (o := 1) hb0 rfl rfl rfl (by simp [AV.cells]) rfl
  have hb1 : (H.set b (stB zs (p + 1)))[b]? = some (.arr 2 [.agg [.vslice (zs.map I), I ((p + 1 : Nat) : Int)]]) := set_same _ hb0
  have l2 : loadAV (H.set b (stB zs (p + 1))) none (.ptr b 0 1) = some (I ((p + 1 : Nat) : Int)) := load_ptr hb1 rfl rfl
  have l3 : loadAV (H.set b (stB zs (p + 1))) none (.ptr b 0 0) = some (.vslice (zs.map I)) := load_ptr hb1 rfl rfl
  simp only [SS, l1]
  rw [add64 _ _ (by omega) (by omega), show ((p : Int) + 1) = ((p + 1 : Nat) : Int) by omega]
  simp only [SS, hs, l2, l3, List.length_map]
  unfold nx
  split
  · rename_i h0
    rw [if_pos (by omega)]
    simp only [SS, bin_mul, below_ok _ h1 h2]
    exact ⟨trivial, trivial⟩
  · rename_i h0
    rw [if_neg (by omega)]
    rw [sub64 _ _ (by omega) (by omega), show (((p + 1 : Nat) : Int) - 1) = ((p : Nat) : Int) by omega]
    simp only [SS]
    rw [bin_rem _ _ _ _ _ (by omega), bin_quo _ _ _ _ _ (by omega)]
    have hm : ((p : Int)).tmod (zs.length : Int) = ((p % zs.length : Nat) : Int) := by rw [Int.tmod_eq_emod_of_nonneg (by omega)]; omega
    have hd : ((p : Int)).tdiv (zs.length : Int) = ((p / zs.length : Nat) : Int) := by rw [Int.tdiv_eq_ediv_of_nonneg (by omega)]; omega
    have hw : IntKind.wrap .i64 ((p / zs.length : Nat) : Int) = ((p / zs.length : Nat) : Int) := by
      have := Nat.div_le_self p zs.length
      generalize p / zs.length = q at *
      exact wrap64 (by omega) (by omega)
    rw [hm, hd, hw]
    have hlt : p % zs.length < zs.length := Nat.mod_lt _ (by omega)
    have he : (zs.map I)[p % zs.length]? = some (I (zs.getD (p % zs.length) 0)) := by
      rw [List.getElem?_map, List.getD_eq_getElem?_getD, List.getElem?_eq_getElem hlt]; rfl
    simp only [SS, index_vslice (sz := 1) he rfl, AV.cells, below_ok _ (show (-4611686018427387904 : Int) ≤ 1073741824 by omega) (show (1073741824 : Int) < 4611686018427387904 by omega), bin_add, bin_mul, below_ok _ h1 h2]
    exact ⟨trivial, trivial⟩

theorem flip_ok {H : Heap} {b p : Nat} {zs : List Int} {n : Int} (hb : H[b]? = some (stB zs p)) (hp : p < 1000000000) (h1 : -4611686018427387904 ≤ n) (h2 : n < 4611686018427387904) :
    R prog f_jitmake_Stream_Flip [.ptr b 0 0, I n] H = some (.bool (decide (nx zs p n = 0)), H.set b (stB zs (p + 1))) := by
  suffices h : Yl (R prog f_jitmake_Stream_Flip [.ptr b 0 0, I n] H) fun v H' => v = .bool (decide (nx zs p n = 0)) ∧ H' = H.set b (stB zs (p + 1)) by
    obtain ⟨v, H', h1, rfl, rfl⟩ := h; exact h1
  refine r_jitmake_Stream_Flip _ _ _ ?_
  simp only [SS, next_ok hb hp h1 h2]
  exact ⟨trivial, trivial⟩

def firstE : List Int → Int
  | [] => 0
  | e :: l => if e ≠ 0 then e else firstE l

theorem succ64 (H : Heap) (ek : EK) {n : Nat} (h : n < 1000000000000) : binAV H .add ek (I (n : Int)) (I 1) = some (I ((n + 1 : Nat) : Int)) := by
  rw [add64 _ _ (by omega) (by omega)]; rfl

theorem errs_loop {es : List Int} (hes : es.length < 1000000000) {k0 : Heap → Option (AV × Heap)} {Q : AV → Heap → Prop} {H : Heap} (m : Nat) : ∀ (n : Nat), m + n = es.length →
    (if firstE (es.drop n) ≠ 0 then Q (I (firstE (es.drop n))) H else Yl (k0 H) Q) → Yl (l_jitkeep2_errs_0 (.vslice (es.map I)) (I es.length) (I n) H k0) Q := by
  induction m with
  | zero =>
    intro n hm hq
    refine l_jitkeep2_errs_0_s _ _ _ _ _ ?_
    rw [List.drop_eq_nil_of_le (by omega)] at hq
    simp only [SS]
    rw [if_neg (by omega)]
    simpa [firstE] using hq
  | succ m ih =>
    intro n hm hq
    refine l_jitkeep2_errs_0_s _ _ _ _ _ ?_
    have hn : n < es.length := by omega
    have he : (es.map I)[n]? = some (I es[n]) := by rw [List.getElem?_map, List.getElem?_eq_getElem hn]; rfl
    rw [List.drop_eq_getElem_cons hn] at hq
    simp only [SS]
    rw [if_pos (by omega), index_vslice (sz := 1) he rfl]
    simp only [SS, AV.cells]
    by_cases h0 : es[n] = 0
    · simp only [h0, ne_eq, not_true_eq_false, if_false]
      rw [succ64 _ _ (by omega)]
      refine ih (n + 1) (by omega) ?_
      simpa [firstE, h0] using hq
    · simp only [h0, ne_eq, not_false_eq_true, if_true, SS]
      simpa [firstE, h0] using hq

theorem errs_ok (H : Heap) {es : List Int} (hes : es.length < 1000000000) : pureCall prog (R prog) f_jitkeep2_errs [.vslice (es.map I)] H = some (I (firstE es)) := by
  refine pure_fz (by simp [fz_vslice]) rfl (r_jitkeep2_errs _ _ ?_)
  simp only [SS, List.length_map]
  refine errs_loop hes es.length 0 (by omega) ?_
  by_cases h0 : firstE es = 0
  · rw [if_neg (by simpa using h0)]; exact yl_some.2 (by rw [h0]; rfl)
  · rw [if_pos (by simpa using h0)]; rfl
end Y
end Go.Proofs.YtplginnkececaaaGreatDoor

set_option linter.unusedSimpArgs false
set_option linter.unusedVariables false
namespace Go.Proofs.YtplginnkececaaaGreatDoor
open Go
namespace Y
open X

theorem range_yl {n : Nat} {L : Nat → Heap → Option (AV × Heap)} {Q : AV → Heap → Prop} (S : Nat → Heap → Prop) (hend : ∀ H, S n H → Yl (L n H) Q)
    (hstep : ∀ i, i < n → ∀ H, S i H → (∀ H', S (i + 1) H' → Yl (L (i + 1) H') Q) → Yl (L i H) Q) : ∀ (m i : Nat) (H : Heap), m + i = n → S i H → Yl (L i H) Q := by
  intro m
  induction m with
  | zero =>
    intro i H hm hs
    have : i = n := by omega
    subst this
    exact hend H hs
  | succ m ih => intro i H hm hs; exact hstep i (by omega) H hs fun H' hs' => ih (i + 1) H' (by omega) hs'

theorem fz_agg {cs : List AV} (h : ∀ c ∈ cs, (∀ H, snap H 11 c = some c) ∧ noRef 11 c = true) : Fz (.agg cs) := by
  refine ⟨fun H => ?_, ?_⟩
  · show ((cs.mapM (snap H 11)).map AV.agg) = _
    rw [mapM_id fun a ha => (h a ha).1 H]; rfl
  · show cs.all (noRef 11) = true
    exact List.all_eq_true.2 fun a ha => (h a ha).2

theorem out_ok (H : Heap) (n a b : Int) : pureCall prog (R prog) f_base_Out [I n, I a, I b] H = some (.bool (out n a b)) := by
  refine pure_fz (by simp [fz_int]) rfl (r_base_Out _ _ _ _ ?_)
  simp only [SS]
  unfold out
  by_cases h1 : n < a
  · simp only [h1, SS]; rfl
  · by_cases h2 : b < n <;> simp only [h1, h2, SS] <;> rfl

theorem moment_ok (H : Heap) (n : Int) : pureCall prog (R prog) f_base_Moment [I n] H = some (.bool (moment n)) := by
  refine pure_fz (by simp [fz_int]) rfl (r_base_Moment _ _ ?_)
  simp only [out_ok, SS]
  rfl

theorem in_ok (H : Heap) (n a b : Int) : pureCall prog (R prog) f_jitref2_in [I n, I a, I b] H = some (.bool (!out n a b)) := by
  refine pure_fz (by simp [fz_int]) rfl (r_jitref2_in _ _ _ _ ?_)
  simp only [SS]
  unfold out
  by_cases h1 : a ≤ n
  · have h1' : ¬ n < a := by omega
    by_cases h2 : n ≤ b
    · have h2' : ¬ b < n := by omega
      simp only [h1, h2, h1', h2', SS]; rfl
    · have h2' : b < n := by omega
      simp only [h1, h2, h1', h2', SS]; rfl
  · have h1' : n < a := by omega
    simp only [h1, h1', SS]; rfl

theorem moment2_ok (H : Heap) (n : Int) : pureCall prog (R prog) f_jitref2_Moment [I n] H = some (.bool (moment n)) := by
  refine pure_fz (by simp [fz_int]) rfl (r_jitref2_Moment _ _ ?_)
  simp only [in_ok, SS]
  rfl

theorem key_loop {s : Str} (hs : s.length < 1000000) {k0 : Heap → Option (AV × Heap)} {Q : AV → Heap → Prop} {H : Heap} (n : Nat) (hn : n ≤ s.length) (h1 : (s.drop n).all keyByte = true → Yl (k0 H) Q) (h2 : (s.drop n).all keyByte = false → Q (.bool false) H) :
    Yl (l_base_Key_0 (.str s) (I s.length) (I n) H k0) Q := by
  refine range_yl (n := s.length) (L := fun i H => l_base_Key_0 (.str s) (I s.length) (I i) H k0) (fun i H' => H' = H ∧ ((s.drop i).all keyByte = true → Yl (k0 H) Q) ∧ ((s.drop i).all keyByte = false → Q (.bool false) H)) ?_ ?_ (s.length - n) n H (by omega) ⟨rfl, h1, h2⟩
  · rintro H' ⟨rfl, h1, h2⟩
    refine l_base_Key_0_s _ _ _ _ _ ?_
    simp only [SS]
    rw [if_neg (by omega)]
    exact h1 (by simp)
  · rintro i hi H' ⟨rfl, h1, h2⟩ ih
    refine l_base_Key_0_s _ _ _ _ _ ?_
    have he : s[i]? = some s[i] := List.getElem?_eq_getElem hi
    rw [List.drop_eq_getElem_cons hi, List.all_cons] at h1 h2
    generalize s[i] = c at he h1 h2
    simp only [SS]
    rw [if_pos (by omega), index_str he]
    simp only [SS, j_base_Key_1]
    rw [succ64 _ _ (by omega)]
    simp only [SS]
    have good : keyByte c = true → Yl (l_base_Key_0 (.str s) (I s.length) (I ((i + 1 : Nat) : Int)) H' k0) Q := by
      intro hk
      rw [hk, Bool.true_and] at h1 h2
      exact ih H' ⟨rfl, h1, h2⟩
    have bad : keyByte c = false → Q (.bool false) H' := by
      intro hk
      rw [hk, Bool.false_and] at h2
      exact h2 rfl
    repeat' split
    all_goals first
      | exact good (by unfold keyByte; simp only [Bool.or_eq_true, Bool.and_eq_true, decide_eq_true_eq]; omega)
      | exact yl_some.2 (bad (by unfold keyByte; simp only [Bool.or_eq_false_iff, Bool.and_eq_false_iff, decide_eq_false_iff_not]; omega))

theorem key_ok (H : Heap) (s : Str) (hs : s.length < 1000000) : pureCall prog (R prog) f_base_Key [.str s] H = some (.bool (isKey s)) := by
  refine pure_fz (by simp [fz_str]) rfl (r_base_Key _ _ ?_)
  simp only [SS]
  cases s with
  | nil => simp only [SS]; rfl
  | cons c s =>
    have h0 : ¬ (c :: s : Str) = [] := by simp
    have he : indexStrAV (.str (c :: s)) (.int .i64 0) = some (.int .u8 c.toNat) := index_str (n := 0) rfl
    simp only [h0, he, SS]
    unfold isKey
    by_cases h1 : (c :: s).length ≤ 40
    · rw [if_neg (by omega)]
      by_cases h2 : 97 ≤ c.toNat
      · rw [if_neg (by omega)]
        by_cases h3 : c.toNat ≤ 122
        · rw [if_neg (by omega)]
          refine key_loop hs 0 (by omega) (fun h => ?_) (fun h => ?_)
          · simp only [List.drop_zero] at h; refine yl_some.2 ?_; simp only [h1, h2, h3, h]; rfl
          · simp only [List.drop_zero] at h; simp only [h1, h2, h3, h]; rfl
        · rw [if_pos (by omega)]; refine yl_some.2 ?_; simp only [h1, h2, h3]; rfl
      · rw [if_pos (by omega)]; refine yl_some.2 ?_; simp only [h1, h2]; rfl
    · rw [if_pos (by omega)]; refine yl_some.2 ?_; simp only [h1]; rfl

theorem first_loop {es : List Int} (hes : es.length < 1000000000) {k0 : Heap → Option (AV × Heap)} {Q : AV → Heap → Prop} {H : Heap} (n : Nat) (hn : n ≤ es.length)
    (hq : if firstE (es.drop n) ≠ 0 then Q (I (firstE (es.drop n))) H else Yl (k0 H) Q) : Yl (l_base_First_0 (.vslice (es.map I)) (I es.length) (I n) H k0) Q := by
  refine range_yl (n := es.length) (L := fun i H => l_base_First_0 (.vslice (es.map I)) (I es.length) (I i) H k0) (fun i H' => H' = H ∧ if firstE (es.drop i) ≠ 0 then Q (I (firstE (es.drop i))) H else Yl (k0 H) Q) ?_ ?_ (es.length - n) n H (by omega) ⟨rfl, hq⟩
  · rintro H' ⟨rfl, h1⟩
    refine l_base_First_0_s _ _ _ _ _ ?_
    simp only [SS]
    rw [if_neg (by omega)]
    simpa [firstE] using h1
  · rintro i hi H' ⟨rfl, h1⟩ ih
    refine l_base_First_0_s _ _ _ _ _ ?_
    have he : (es.map I)[i]? = some (I es[i]) := by rw [List.getElem?_map, List.getElem?_eq_getElem hi]; rfl
    rw [List.drop_eq_getElem_cons hi] at h1
    simp only [SS]
    rw [if_pos (by omega), index_vslice (sz := 1) he rfl]
    simp only [SS, AV.cells]
    by_cases h0 : es[i] = 0
    · simp only [h0, ne_eq, not_true_eq_false, if_false]
      rw [succ64 _ _ (by omega)]
      refine ih H' ⟨rfl, ?_⟩
      simpa [firstE, h0] using h1
    · simp only [h0, ne_eq, not_false_eq_true, if_true, SS]
      simpa [firstE, h0] using h1

theorem first_ok (H : Heap) {es : List Int} (hes : es.length < 1000000000) : pureCall prog (R prog) f_base_First [.vslice (es.map I)] H = some (I (firstE es)) := by
  refine pure_fz (by simp [fz_vslice]) rfl (r_base_First _ _ ?_)
  simp only [SS, List.length_map]
  refine first_loop hes 0 (by omega) ?_
  by_cases h0 : firstE es = 0
  · rw [if_neg (by simpa using h0)]; exact yl_some.2 (by rw [h0]; rfl)
  · rw [if_pos (by simpa using h0)]; rfl

theorem or_loop {es : List Int} (hes : es.length < 1000000000) {k0 : AV → Heap → Option (AV × Heap)} {Q : AV → Heap → Prop} {H : Heap} (n : Nat) (hn : n ≤ es.length)
    (hq : if firstE (es.drop n) ≠ 0 then Q (I (firstE (es.drop n))) H else Yl (k0 (I 0) H) Q) : Yl (l_cmp_Or_int_0 (I 0) (.vslice (es.map I)) (I es.length) (I n) H k0) Q := by
  refine range_yl (n := es.length) (L := fun i H => l_cmp_Or_int_0 (I 0) (.vslice (es.map I)) (I es.length) (I i) H k0) (fun i H' => H' = H ∧ if firstE (es.drop i) ≠ 0 then Q (I (firstE (es.drop i))) H else Yl (k0 (I 0) H) Q) ?_ ?_ (es.length - n) n H (by omega) ⟨rfl, hq⟩
  · rintro H' ⟨rfl, h1⟩
    refine l_cmp_Or_int_0_s _ _ _ _ _ _ ?_
    simp only [SS]
    rw [if_neg (by omega)]
    simpa [firstE] using h1
  · rintro i hi H' ⟨rfl, h1⟩ ih
    refine l_cmp_Or_int_0_s _ _ _ _ _ _ ?_
    have he : (es.map I)[i]? = some (I es[i]) := by rw [List.getElem?_map, List.getElem?_eq_getElem hi]; rfl
    rw [List.drop_eq_getElem_cons hi] at h1
    simp only [SS]
    rw [if_pos (by omega), index_vslice (sz := 1) he rfl]
    simp only [SS, AV.cells]
    by_cases h0 : es[i] = 0
    · simp only [h0, ne_eq, not_true_eq_false, if_false]
      rw [succ64 _ _ (by omega)]
      refine ih H' ⟨rfl, ?_⟩
      simpa [firstE, h0] using h1
    · simp only [h0, ne_eq, not_false_eq_true, if_true, SS]
      simpa [firstE, h0] using h1

theorem or_ok (H : Heap) {es : List Int} (hes : es.length < 1000000000) : pureCall prog (R prog) f_cmp_Or_int [.vslice (es.map I)] H = some (I (firstE es)) := by
  refine pure_fz (by simp [fz_vslice]) rfl (r_cmp_Or_int _ _ ?_)
  simp only [SS, List.length_map]
  refine or_loop hes 0 (by omega) ?_
  by_cases h0 : firstE es = 0
  · rw [if_neg (by simpa using h0)]; exact yl_some.2 (by rw [h0]; rfl)
  · rw [if_pos (by simpa using h0)]; rfl

theorem isNaN_ok (n : Int) (H : Heap) : pureCall prog (R prog) f_cmp_isNaN_int [I n] H = some (.bool false) :=
  pure_fz (by simp [fz_int]) rfl (r_cmp_isNaN_int _ _ (by simp only [SS, ne_eq, not_true_eq_false, decide_false]; rfl))

theorem compareI_ok (H : Heap) (a b : Int) : pureCall prog (R prog) f_cmp_Compare_int [I a, I b] H = some (I (cmpI a b)) := by
  refine pure_fz (by simp [fz_int]) rfl (r_cmp_Compare_int _ _ _ ?_)
  simp only [isNaN_ok, SS]
  unfold cmpI
  by_cases h1 : a < b
  · simp only [h1, SS]; rfl
  · by_cases h2 : b < a <;> simp only [h1, h2, SS] <;> rfl

theorem compare_ok (H : Heap) (s t : Str) : pureCall prog (R prog) f_strings_Compare [.str s, .str t] H = some (I (cmpS s t)) := by
  refine pure_fz (by simp [fz_str]) rfl (r_strings_Compare _ _ _ ?_)
  have : R prog f_internal_bytealg_CompareString [.str s, .str t] [] = some (I (cmpS s t), []) := by
    suffices h : Yl (R prog f_internal_bytealg_CompareString [.str s, .str t] []) fun v H' => v = I (cmpS s t) ∧ H' = [] by
      obtain ⟨v, H', h1, rfl, rfl⟩ := h; exact h1
    refine r_internal_bytealg_CompareString _ _ _ ?_
    rw [pure_prim (v := I (cmpS s t)) (by simp [fz_str]) (by rw [← cmp_eq]; rfl)]
    simp only [SS]
    exact ⟨trivial, trivial⟩
  rw [this]
  simp only [SS]
  rfl

theorem sign_ok (H : Heap) (n : Int) : pureCall prog (R prog) f_jitref2_sign [I n] H = some (I (cmpI n 0)) := by
  refine pure_fz (by simp [fz_int]) rfl (r_jitref2_sign _ _ ?_)
  simp only [SS]
  unfold cmpI
  by_cases h1 : n < 0
  · simp only [h1, SS]; rfl
  · by_cases h2 : 0 < n <;> simp only [h1, h2, SS] <;> rfl

theorem cmpI_sub (a b : Int) : cmpI (a - b) 0 = cmpI a b := by
  unfold cmpI
  by_cases h1 : a < b
  · rw [if_pos (by omega), if_pos h1]
  · rw [if_neg (by omega), if_neg h1]
    by_cases h2 : b < a
    · rw [if_pos (by omega), if_pos h2]
    · rw [if_neg (by omega), if_neg h2]

theorem ixB_mem (a : List UInt8) (c : UInt8) : 0 ≤ ixB a (c.toNat : Int) ↔ c ∈ a := by
  have hc : ((c.toNat : Int)).toNat.toUInt8 = c := by simp
  unfold ixB
  rw [hc]
  have get : ∀ i, i < a.length → (ByteArray.mk a.toArray)[i]! = a.getD i 0 := by
    intro i h
    rw [getElem!_pos (ByteArray.mk a.toArray) i (by simpa [ByteArray.size] using h)]
    rw [List.getD_eq_getElem?_getD, List.getElem?_eq_getElem h]
    rfl
  have sz : (ByteArray.mk a.toArray).size = a.length := by simp [ByteArray.size]
  rw [sz]
  cases hf : (List.range a.length).find? (fun i => (ByteArray.mk a.toArray)[i]! == c) with
  | some i =>
    have h1 := List.find?_some hf
    have h2 := List.mem_of_find?_eq_some hf
    rw [List.mem_range] at h2
    rw [get i h2, List.getD_eq_getElem?_getD, List.getElem?_eq_getElem h2] at h1
    simp only [Option.getD_some, beq_iff_eq] at h1
    refine ⟨fun _ => h1 ▸ List.getElem_mem h2, fun _ => by simp⟩
  | none =>
    rw [List.find?_eq_none] at hf
    refine ⟨fun h => by simp at h, fun h => ?_⟩
    obtain ⟨i, hi, he⟩ := List.getElem_of_mem h
    have := hf i (by simpa using hi)
    rw [get i hi, List.getD_eq_getElem?_getD, List.getElem?_eq_getElem hi] at this
    simp [he] at this

theorem indexByte_ok (H : Heap) (a : Str) (c : UInt8) : pureCall prog (R prog) f_strings_IndexByte [.str a, .int .u8 c.toNat] H = some (I (ixB a c.toNat)) := by
  refine pure_fz (by simp [fz_str, fz_int]) rfl (r_strings_IndexByte _ _ _ ?_)
  have : R prog f_internal_stringslite_IndexByte [.str a, .int .u8 c.toNat] [] = some (I (ixB a c.toNat), []) := by
    suffices h : Yl (R prog f_internal_stringslite_IndexByte [.str a, .int .u8 c.toNat] []) fun v H' => v = I (ixB a c.toNat) ∧ H' = [] by
      obtain ⟨v, H', h1, rfl, rfl⟩ := h; exact h1
    refine r_internal_stringslite_IndexByte _ _ _ ?_
    rw [pure_prim (v := I (ixB a c.toNat)) (by simp [fz_str, fz_int]) rfl]
    simp only [SS]
    exact ⟨trivial, trivial⟩
  rw [this]
  simp only [SS]
  rfl

theorem only_ok (H : Heap) (s t : Str) (hs : s.length < 1000000) : pureCall prog (R prog) f_jitref2_only [.str s, .str t] H = some (.bool (s.all fun c => decide (c ∈ t))) := by
  refine pure_fz (by simp [fz_str]) rfl (r_jitref2_only _ _ _ ?_)
  simp only [SS]
  refine range_yl (n := s.length) (L := fun i H => l_jitref2_only_0 (.str s) (.str t) (I s.length) (I i) H (fun H1 => some (.bool true, H1))) (fun i H' => H' = [] ∧ (s.drop i).all (fun c => decide (c ∈ t)) = s.all fun c => decide (c ∈ t)) ?_ ?_ s.length 0 [] (by omega) ⟨rfl, rfl⟩
  · rintro H' ⟨rfl, h1⟩
    refine l_jitref2_only_0_s _ _ _ _ _ _ ?_
    simp only [SS]
    rw [if_neg (by omega)]
    refine yl_some.2 ?_
    rw [← h1]; simp [snap, deep]
  · rintro i hi H' ⟨rfl, h1⟩ ih
    refine l_jitref2_only_0_s _ _ _ _ _ _ ?_
    have he : s[i]? = some s[i] := List.getElem?_eq_getElem hi
    rw [List.drop_eq_getElem_cons hi, List.all_cons] at h1
    generalize s[i] = c at he h1
    simp only [SS]
    rw [if_pos (by omega), index_str he]
    simp only [SS, indexByte_ok]
    have hm := ixB_mem t c
    by_cases hc : c ∈ t
    · rw [if_neg (by have := hm.2 hc; omega), succ64 _ _ (by omega)]
      simp only [SS]
      exact ih [] ⟨rfl, by rw [← h1]; simp [hc]⟩
    · rw [if_pos (by have : ¬ 0 ≤ ixB t c.toNat := fun h => hc (hm.1 h); omega)]
      refine yl_some.2 ?_
      rw [← h1]; simp [hc, snap, deep]

def smallsB : Str := [97, 98, 99, 100, 101, 102, 103, 104, 105, 106, 107, 108, 109, 110, 111, 112, 113, 114, 115, 116, 117, 118, 119, 120, 121, 122]
def keysB : Str := [97, 98, 99, 100, 101, 102, 103, 104, 105, 106, 107, 108, 109, 110, 111, 112, 113, 114, 115, 116, 117, 118, 119, 120, 121, 122, 48, 49, 50, 51, 52, 53, 54, 55, 56, 57, 45, 95]

theorem byte_cases (P : UInt8 → Prop) (h : ∀ n : Fin 256, P (UInt8.ofNat n.val)) (c : UInt8) : P c := by
  have := h ⟨c.toNat, c.toNat_lt⟩
  simpa using this

theorem smalls_mem (c : UInt8) : decide (c ∈ smallsB) = (decide (97 ≤ c.toNat) && decide (c.toNat ≤ 122)) := byte_cases (fun c => decide (c ∈ smallsB) = (decide (97 ≤ c.toNat) && decide (c.toNat ≤ 122))) (by decide +kernel) c
theorem keys_mem (c : UInt8) : decide (c ∈ keysB) = keyByte c := byte_cases (fun c => decide (c ∈ keysB) = keyByte c) (by decide +kernel) c

theorem key2_ok (H : Heap) (s : Str) (hs : s.length < 1000000) : pureCall prog (R prog) f_jitref2_Key [.str s] H = some (.bool (isKey s)) := by
  refine pure_fz (by simp [fz_str]) rfl (r_jitref2_Key _ _ ?_)
  simp only [SS, in_ok]
  cases s with
  | nil =>
    have : out ((([] : Str).length : Nat) : Int) 1 40 = true := rfl
    simp only [this, SS]; rfl
  | cons c s =>
    unfold isKey
    by_cases h1 : (c :: s).length ≤ 40
    · have : out (((c :: s : Str).length : Nat) : Int) 1 40 = false := by unfold out; simp; simp at h1; omega
      have hsl : sliceStrAV (.str (c :: s)) none (some (.int .i64 1)) = some (.str [c]) := by simp [sliceStrAV, optV, AV.asNat, natArg]
      simp only [this, hsl, SS]
      have o1 := only_ok [] [c] smallsB (by simp)
      have o2 := only_ok [] (c :: s) keysB hs
      simp only [smallsB, keysB] at o1 o2
      rw [o1]
      simp only [SS]
      have e1 : ([c].all fun c => decide (c ∈ smallsB)) = (decide (97 ≤ c.toNat) && decide (c.toNat ≤ 122)) := by simp only [List.all_cons, List.all_nil, Bool.and_true, smalls_mem]
      have e2 : ((c :: s).all fun c => decide (c ∈ keysB)) = (c :: s).all keyByte := by simp only [keys_mem]
      simp only [smallsB, keysB] at e1 e2
      rw [e1]
      split
      · rename_i hb
        rw [o2]
        simp only [SS]
        rw [e2, hb]
        simp only [h1]; rfl
      · rename_i hb
        have hb' : (decide (97 ≤ c.toNat) && decide (c.toNat ≤ 122)) = false := by simpa using hb
        refine yl_some.2 ?_
        rw [hb']; simp only [h1]; rfl
    · have : out (((c :: s : Str).length : Nat) : Int) 1 40 = true := by unfold out; simp; simp at h1; omega
      simp only [this, SS]
      simp only [h1]; rfl
end Y
end Go.Proofs.YtplginnkececaaaGreatDoor

set_option linter.unusedSimpArgs false
set_option linter.unusedVariables false
namespace Go.Proofs.YtplginnkececaaaGreatDoor
open Go
namespace Y
open X

section
variable {H : Heap} {b : Nat}
theorem ask_at {a : Ask} (h : H[b]? = some (.arr 10 [encAsk a])) : loadAV H none (.ptr b 0 0) = some (I a.at') := load_ptr h rfl rfl
theorem ask_kind {a : Ask} (h : H[b]? = some (.arr 10 [encAsk a])) : loadAV H none (.ptr b 0 1) = some (I a.kind) := load_ptr h rfl rfl
theorem ask_id {a : Ask} (h : H[b]? = some (.arr 10 [encAsk a])) : loadAV H none (.ptr b 0 2) = some (.str a.ride.id) := load_ptr h rfl rfl
theorem ask_rider {a : Ask} (h : H[b]? = some (.arr 10 [encAsk a])) : loadAV H none (.ptr b 0 3) = some (.str a.ride.rider) := load_ptr h rfl rfl
theorem ask_ready {a : Ask} (h : H[b]? = some (.arr 10 [encAsk a])) : loadAV H none (.ptr b 0 6) = some (I a.ride.ready) := load_ptr h rfl rfl
theorem ask_ride {a : Ask} (h : H[b]? = some (.arr 10 [encAsk a])) : loadAV H (some 8) (.ptr b 0 2) = some (encRide a.ride) := load_ptr h rfl rfl
theorem ask_all {a : Ask} (h : H[b]? = some (.arr 10 [encAsk a])) : loadAV H (some 10) (.ptr b 0 0) = some (encAsk a) := load_ptr h rfl rfl
theorem ride_id {r : Ride} (h : H[b]? = some (.arr 8 [encRide r])) : loadAV H none (.ptr b 0 0) = some (.str r.id) := load_ptr h rfl rfl
theorem ride_rider {r : Ride} (h : H[b]? = some (.arr 8 [encRide r])) : loadAV H none (.ptr b 0 1) = some (.str r.rider) := load_ptr h rfl rfl
theorem ride_frm {r : Ride} (h : H[b]? = some (.arr 8 [encRide r])) : loadAV H none (.ptr b 0 2) = some (.str r.frm) := load_ptr h rfl rfl
theorem ride_to {r : Ride} (h : H[b]? = some (.arr 8 [encRide r])) : loadAV H none (.ptr b 0 3) = some (.str r.to) := load_ptr h rfl rfl
theorem ride_ready {r : Ride} (h : H[b]? = some (.arr 8 [encRide r])) : loadAV H none (.ptr b 0 4) = some (I r.ready) := load_ptr h rfl rfl
theorem ride_due {r : Ride} (h : H[b]? = some (.arr 8 [encRide r])) : loadAV H none (.ptr b 0 5) = some (I r.due) := load_ptr h rfl rfl
theorem ride_seats {r : Ride} (h : H[b]? = some (.arr 8 [encRide r])) : loadAV H none (.ptr b 0 6) = some (I r.seats) := load_ptr h rfl rfl
theorem ride_wheels {r : Ride} (h : H[b]? = some (.arr 8 [encRide r])) : loadAV H none (.ptr b 0 7) = some (I r.wheels) := load_ptr h rfl rfl
theorem ride_all {r : Ride} (h : H[b]? = some (.arr 8 [encRide r])) : loadAV H (some 8) (.ptr b 0 0) = some (encRide r) := load_ptr h rfl rfl
end

theorem box_ask (H : Heap) (a : Ask) : boxAV 10 (encAsk a) H = some (.ptr H.length 0 0, H ++ [.arr 10 [encAsk a]]) := box_ok rfl rfl
theorem box_ask0 (H : Heap) : boxAV 10 (.agg [(.int .i64 0), (.int .i64 0), (.str []), (.str []), (.str []), (.str []), (.int .i64 0), (.int .i64 0), (.int .i64 0), (.int .i64 0)]) H = some (.ptr H.length 0 0, H ++ [.arr 10 [encAsk ⟨0, 0, ⟨[], [], [], [], 0, 0, 0, 0⟩⟩]]) := box_ask H ⟨0, 0, ⟨[], [], [], [], 0, 0, 0, 0⟩⟩
theorem put_ask (H : Heap) (a b : Ask) : storeAV (H ++ [.arr 10 [encAsk a]]) 10 (.ptr H.length 0 0) (encAsk b) = some (H ++ [.arr 10 [encAsk b]]) := store_box rfl rfl rfl
theorem box_ride (H : Heap) (r : Ride) : boxAV 8 (encRide r) H = some (.ptr H.length 0 0, H ++ [.arr 8 [encRide r]]) := box_ok rfl rfl
theorem last_get (H : Heap) (x : Blk) : (H ++ [x])[H.length]? = some x := app_get0 H x []
theorem vl_ask (H : Heap) (a : Ask) : loadAV H (some 10) (.vptr (encAsk a).cells) = some (encAsk a) := (rfl)
theorem vl_ride (H : Heap) (r : Ride) : loadAV H (some 8) (.vptr (encRide r).cells) = some (encRide r) := (rfl)

theorem eqCells_dec {fs : List FK} {cs ds : List AV} {x : Bool} (h : eqCells fs cs ds = some x) (H : Heap) : binAV H .neq (.agg fs) (.agg cs) (.agg ds) = some (.bool (!x)) ∧ binAV H .eql (.agg fs) (.agg cs) (.agg ds) = some (.bool x) := by
  simp [binAV, eqAV, h]

theorem eq_ride (r s : Ride) : eqCells [.str, .str, .str, .str, .int, .int, .int, .int] r.cells s.cells = some (decide (r = s)) := by
  obtain ⟨a1, a2, a3, a4, a5, a6, a7, a8⟩ := r
  obtain ⟨b1, b2, b3, b4, b5, b6, b7, b8⟩ := s
  simp only [Ride.cells, eqCells, eqCell, if_true, Option.bind_some, Bool.and_true, Ride.mk.injEq, Option.some.injEq]
  rw [Bool.eq_iff_iff]
  simp [Bool.and_eq_true]

theorem ride_neq (H : Heap) (r s : Ride) : binAV H .neq (.agg [.str, .str, .str, .str, .int, .int, .int, .int]) (encRide r) (encRide s) = some (.bool (!decide (r = s))) := (eqCells_dec (eq_ride r s) H).1
theorem ride_eql (H : Heap) (r s : Ride) : binAV H .eql (.agg [.str, .str, .str, .str, .int, .int, .int, .int]) (encRide r) (encRide s) = some (.bool (decide (r = s))) := (eqCells_dec (eq_ride r s) H).2

theorem fz_ask (a : Ask) : Fz (encAsk a) := fz_agg (by intro c hc; simp [Ride.cells] at hc; rcases hc with rfl | rfl | rfl | rfl | rfl | rfl | rfl | rfl | rfl | rfl <;> exact ⟨fun H => rfl, rfl⟩)
theorem fz_ride (r : Ride) : Fz (encRide r) := fz_agg (by intro c hc; simp [Ride.cells] at hc; rcases hc with rfl | rfl | rfl | rfl | rfl | rfl | rfl | rfl <;> exact ⟨fun H => rfl, rfl⟩)

theorem lit3_int' (H : Heap) (a b c : Int) : litAV 1 [.int .i64 0, .int .i64 0, .int .i64 0] [(0, I a), (1, I b), (2, I c)] false H = some (.vslice ([a, b, c].map I), H) := (rfl)
theorem lit2_int' (H : Heap) (a b : Int) : litAV 1 [.int .i64 0, .int .i64 0] [(0, I a), (1, I b)] false H = some (.vslice ([a, b].map I), H) := (rfl)
theorem lit4_str (H : Heap) (a b c d : Str) : litAV 1 [.str [], .str [], .str [], .str []] [(0, .str a), (1, .str b), (2, .str c), (3, .str d)] false H = some (.vslice ([a, b, c, d].map .str), H) := (rfl)
theorem lit2_str' (H : Heap) (a b : Str) : litAV 1 [.str [], .str []] [(0, .str a), (1, .str b)] false H = some (.vslice ([a, b].map .str), H) := (rfl)


theorem byAsk_ok (H : Heap) (a b : Ask) : pureCall prog (R prog) f_request_byAsk [encAsk a, encAsk b] H = some (I (byAsk a b)) := by
  refine pure_fz (by simp [fz_ask]) rfl (r_request_byAsk _ _ _ ?_)
  have h1 : ([Blk.arr 10 [encAsk a], .arr 10 [encAsk b]] : Heap)[0]? = some (.arr 10 [encAsk a]) := rfl
  have h2 : ([Blk.arr 10 [encAsk a], .arr 10 [encAsk b]] : Heap)[1]? = some (.arr 10 [encAsk b]) := rfl
  have k1 : boxAV 10 (encAsk a) [] = some (.ptr 0 0 0, [.arr 10 [encAsk a]]) := box_ask [] a
  have k2 : boxAV 10 (encAsk b) [.arr 10 [encAsk a]] = some (.ptr 1 0 0, [.arr 10 [encAsk a], .arr 10 [encAsk b]]) := box_ask [.arr 10 [encAsk a]] b
  simp only [k1, k2, ask_at h1, ask_kind h1, ask_id h1, ask_at h2, ask_kind h2, ask_id h2, compareI_ok, compare_ok, lit3_int', SS]
  rw [or_ok _ (by simp)]
  simp only [SS]
  have : firstE [cmpI a.at' b.at', cmpS a.ride.id b.ride.id, cmpI a.kind b.kind] = byAsk a b := by
    unfold byAsk firstE firstE firstE
    split
    · rfl
    · split
      · rfl
      · split
        · rfl
        · rename_i h; simp only [firstE]; simp at h; exact h.symm
  rw [this]; rfl

theorem order_ok {H : Heap} {a b : Ask} (hk : -4611686018427387904 ≤ a.at' ∧ a.at' < 4611686018427387904 ∧ -4611686018427387904 ≤ b.at' ∧ b.at' < 4611686018427387904 ∧ -4611686018427387904 ≤ a.kind ∧ a.kind < 4611686018427387904 ∧ -4611686018427387904 ≤ b.kind ∧ b.kind < 4611686018427387904) :
    pureCall prog (R prog) f_jitref2_AskOrder [encAsk a, encAsk b] H = some (I (byAsk a b)) := by
  refine pure_fz (by simp [fz_ask]) rfl (r_jitref2_AskOrder _ _ _ ?_)
  have h1 : ([Blk.arr 10 [encAsk a], .arr 10 [encAsk b]] : Heap)[0]? = some (.arr 10 [encAsk a]) := rfl
  have h2 : ([Blk.arr 10 [encAsk a], .arr 10 [encAsk b]] : Heap)[1]? = some (.arr 10 [encAsk b]) := rfl
  have k1 : boxAV 10 (encAsk a) [] = some (.ptr 0 0 0, [.arr 10 [encAsk a]]) := box_ask [] a
  have k2 : boxAV 10 (encAsk b) [.arr 10 [encAsk a]] = some (.ptr 1 0 0, [.arr 10 [encAsk a], .arr 10 [encAsk b]]) := box_ask [.arr 10 [encAsk a]] b
  simp only [k1, k2, ask_at h1, ask_kind h1, ask_id h1, ask_at h2, ask_kind h2, ask_id h2, compare_ok, SS]
  rw [sub64 _ _ (by omega) (by omega), sub64 _ _ (by omega) (by omega)]
  simp only [sign_ok, cmpI_sub, SS]
  have z : ∀ x y : Int, cmpI x y = 0 ↔ x = y := by
    intro x y; unfold cmpI
    by_cases h1 : x < y
    · simp [h1]; omega
    · by_cases h2 : y < x
      · simp [h1, h2]; omega
      · simp [h1, h2]; omega
  have zs : ∀ x y : Str, cmpS x y = 0 ↔ x = y := by
    intro x y; unfold cmpS
    cases h1 : lt x y with
    | true => simp; exact lt_ne h1
    | false => by_cases h2 : x = y <;> simp [h2]
  unfold byAsk
  simp only [ne_eq, z, zs]
  by_cases e1 : a.at' = b.at'
  · by_cases e2 : a.ride.id = b.ride.id
    · simp only [e1, e2, not_true_eq_false, if_false, yl_some]; rfl
    · simp only [e1, e2, not_true_eq_false, not_false_eq_true, if_false, if_true, yl_some]; rfl
  · simp only [e1, not_false_eq_true, if_true, yl_some]; rfl


theorem allKeys_ok (H : Heap) {l : List Str} (hl : l.length < 1000000) (hs : ∀ s ∈ l, s.length < 1000000) : pureCall prog (R prog) f_request_allKeys [.vslice (l.map .str)] H = some (.bool (l.all isKey)) := by
  have hk : ∀ (s : Str) (H : Heap), s.length < 1000000 → pureCall prog (R prog) f_request_allKeys_1 [.str s] H = some (.bool (!isKey s)) := by
    intro s H hs
    refine pure_fz (by simp [fz_str]) rfl (r_request_allKeys_1 _ _ ?_)
    simp only [key_ok _ s hs, SS]
    rfl
  have hi : ∀ H, pureCall prog (R prog) f_slices_IndexFunc_string_string [.vslice (l.map .str), .func (.func f_request_allKeys_1) []] H = some (I (match l.findIdx? (fun s => !isKey s) with | some i => (i : Int) | none => -1)) := by
    intro H
    refine pure_fz (by intro a ha; simp at ha; rcases ha with rfl | rfl; exact fz_vslice _; exact ⟨fun _ => rfl, rfl⟩) rfl (r_slices_IndexFunc_string_string _ _ _ ?_)
    simp only [SS, List.length_map]
    refine range_yl (n := l.length) (L := fun i H => l_slices_IndexFunc_string_string_0 (.vslice (l.map .str)) (.func (.func f_request_allKeys_1) []) (I l.length) (I i) H (fun H2 => some (I (-1), H2)))
      (fun i H' => H' = [] ∧ l.findIdx? (fun s => !isKey s) = ((l.drop i).findIdx? fun s => !isKey s).map (· + i)) ?_ ?_ l.length 0 [] (by omega) ⟨rfl, by simp⟩
    · rintro H' ⟨rfl, h1⟩
      refine l_slices_IndexFunc_string_string_0_s _ _ _ _ _ _ ?_
      simp only [SS]
      rw [if_neg (by omega)]
      refine yl_some.2 ?_
      rw [h1]; simp [snap, deep]
    · rintro i hi H' ⟨rfl, h1⟩ ih
      refine l_slices_IndexFunc_string_string_0_s _ _ _ _ _ _ ?_
      have he : (l.map AV.str)[i]? = some (.str l[i]) := by rw [List.getElem?_map, List.getElem?_eq_getElem hi]; rfl
      have hm : l[i].length < 1000000 := hs _ (List.getElem_mem hi)
      rw [List.drop_eq_getElem_cons hi, List.findIdx?_cons] at h1
      generalize l[i] = s at he hm h1
      simp only [SS]
      rw [if_pos (by omega), index_vslice (sz := 1) he rfl]
      simp only [SS, AV.cells]
      rw [callK_pure (by rfl), List.append_nil, hk s _ hm]
      simp only [SS]
      cases hb : isKey s with
      | true =>
        simp only [hb, SS] at h1 ⊢
        rw [succ64 _ _ (by omega)]
        simp only [SS]
        refine ih [] ⟨rfl, ?_⟩
        rw [h1, Option.map_map]
        congr 1
        funext x; simp; omega
      | false =>
        simp only [hb, SS] at h1 ⊢
        rw [h1]; simp [snap, deep]
  have hc : ∀ H, pureCall prog (R prog) f_slices_ContainsFunc_string_string [.vslice (l.map .str), .func (.func f_request_allKeys_1) []] H = some (.bool (!l.all isKey)) := by
    intro H
    refine pure_fz (by intro a ha; simp at ha; rcases ha with rfl | rfl; exact fz_vslice _; exact ⟨fun _ => rfl, rfl⟩) rfl (r_slices_ContainsFunc_string_string _ _ _ ?_)
    simp only [hi, SS]
    have : decide ((0 : Int) ≤ (match l.findIdx? (fun s => !isKey s) with | some i => (i : Int) | none => -1)) = !l.all isKey := by
      cases hf : l.findIdx? (fun s => !isKey s) with
      | none =>
        rw [List.findIdx?_eq_none_iff] at hf
        have : l.all isKey = true := List.all_eq_true.2 fun s hs => by simpa using hf s hs
        rw [this]; rfl
      | some i =>
        have := List.findIdx?_eq_some_iff_getElem.1 hf
        obtain ⟨h1, h2, _⟩ := this
        have h3 : l.all isKey = false := by
          rw [List.all_eq_false]; exact ⟨l[i], List.getElem_mem h1, by simpa using h2⟩
        rw [h3]; simp
    rw [this]; rfl
  refine pure_fz (by intro a ha; simp at ha; subst ha; exact fz_vslice _) rfl (r_request_allKeys _ _ ?_)
  simp only [hc, SS, Bool.not_not]
  rfl

structure Fit (r : Ride) : Prop where
  id : r.id.length < 1000000
  rider : r.rider.length < 1000000
  frm : r.frm.length < 1000000
  to : r.to.length < 1000000
  ready : -1099511627776 ≤ r.ready ∧ r.ready ≤ 1099511627776
  due : -1099511627776 ≤ r.due ∧ r.due ≤ 1099511627776
  seats : -1099511627776 ≤ r.seats ∧ r.seats ≤ 1099511627776
  wheels : -1099511627776 ≤ r.wheels ∧ r.wheels ≤ 1099511627776

theorem checkRide_ok (H : Heap) {r : Ride} (hf : Fit r) : pureCall prog (R prog) f_request_CheckRide [encRide r] H = some (I (rideFault r)) := by
  refine pure_fz (by simp [fz_ride]) rfl (r_request_CheckRide _ _ ?_)
  have h1 : ([Blk.arr 8 [encRide r]] : Heap)[0]? = some (.arr 8 [encRide r]) := rfl
  have k1 : boxAV 8 (encRide r) [] = some (.ptr 0 0 0, [.arr 8 [encRide r]]) := box_ride [] r
  have ha := allKeys_ok [.arr 8 [encRide r]] (l := [r.id, r.rider, r.frm, r.to]) (by simp) (by simp; exact ⟨hf.id, hf.rider, hf.frm, hf.to⟩)
  have hr := hf.ready
  have hs := hf.seats
  have hw := hf.wheels
  simp only [k1, ride_id h1, ride_rider h1, ride_frm h1, ride_to h1, ride_ready h1, ride_due h1, ride_seats h1, ride_wheels h1, lit4_str, ha, moment_ok, out_ok, j_request_CheckRide_1, SS]
  rw [add64 _ _ (by omega) (by omega), add64 _ _ (by omega) (by omega)]
  simp only [out_ok, SS]
  unfold rideFault
  have e1 : [r.id, r.rider, r.frm, r.to].all isKey = (isKey r.id && isKey r.rider && isKey r.frm && isKey r.to) := by simp [Bool.and_assoc]
  rw [e1]
  generalize (isKey r.id && isKey r.rider && isKey r.frm && isKey r.to) = K
  generalize h0 : out r.due (r.ready + 1) 345686400000 = O1
  have h0' : out r.due (r.ready + 1) endT = O1 := h0
  rw [h0']
  generalize moment r.ready = M
  generalize out r.seats 0 60 = O2
  generalize out r.wheels 0 60 = O3
  have sn : ∀ (H : Heap) (n : Int), snap H deep (I n) = some (I n) := fun _ _ => rfl
  cases K <;> cases M <;> cases O1 <;> cases O2 <;> cases O3 <;> by_cases e2 : r.frm = r.to <;> by_cases e3 : r.seats + r.wheels = 0 <;> simp [e2, e3, yl_some, sn]

theorem rideFault2_ok (H : Heap) {r : Ride} (hf : Fit r) : pureCall prog (R prog) f_jitref2_RideFault [encRide r] H = some (I (rideFault r)) := by
  refine pure_fz (by simp [fz_ride]) rfl (r_jitref2_RideFault _ _ ?_)
  have h1 : ([Blk.arr 8 [encRide r]] : Heap)[0]? = some (.arr 8 [encRide r]) := rfl
  have k1 : boxAV 8 (encRide r) [] = some (.ptr 0 0 0, [.arr 8 [encRide r]]) := box_ride [] r
  have hr := hf.ready
  have hs := hf.seats
  have hw := hf.wheels
  simp only [k1, ride_id h1, ride_rider h1, ride_frm h1, ride_to h1, ride_ready h1, ride_due h1, ride_seats h1, ride_wheels h1, key2_ok _ _ hf.id, key2_ok _ _ hf.rider, key2_ok _ _ hf.frm, key2_ok _ _ hf.to, moment2_ok, in_ok, j_jitref2_RideFault_1, j_jitref2_RideFault_2, SS]
  rw [add64 _ _ (by omega) (by omega), add64 _ _ (by omega) (by omega)]
  simp only [in_ok, SS]
  unfold rideFault
  have h0' : out r.due (r.ready + 1) 345686400000 = out r.due (r.ready + 1) endT := rfl
  rw [h0']
  generalize out r.due (r.ready + 1) endT = O1
  generalize moment r.ready = M
  generalize out r.seats 0 60 = O2
  generalize out r.wheels 0 60 = O3
  generalize isKey r.id = K1
  generalize isKey r.rider = K2
  generalize isKey r.frm = K3
  generalize isKey r.to = K4
  have sn : ∀ (H : Heap) (n : Int), snap H deep (I n) = some (I n) := fun _ _ => rfl
  cases K1 <;> cases K2 <;> cases K3 <;> cases K4 <;> by_cases e2 : r.frm = r.to <;> simp [e2, yl_some, sn]
  cases M <;> cases O1 <;> cases O2 <;> cases O3 <;> by_cases e3 : r.seats + r.wheels = 0 <;> simp [e3, yl_some, sn]

theorem build_who (a b : Str) : buildAV [.str [], .str [], .str [], .str [], .int .i64 0, .int .i64 0, .int .i64 0, .int .i64 0] [(0, 1, .str a), (1, 1, .str b)] = some (encRide ⟨a, b, [], [], 0, 0, 0, 0⟩) := (rfl)

theorem askFault_ok (H : Heap) {a : Ask} (hf : Fit a.ride) : pureCall prog (R prog) f_request_askFault [encAsk a] H = some (I (askFault a)) := by
  refine pure_fz (by simp [fz_ask]) rfl (r_request_askFault _ _ ?_)
  have h1 : ([Blk.arr 10 [encAsk a]] : Heap)[0]? = some (.arr 10 [encAsk a]) := rfl
  have k1 : boxAV 10 (encAsk a) [] = some (.ptr 0 0 0, [.arr 10 [encAsk a]]) := box_ask [] a
  have ha := allKeys_ok [.arr 10 [encAsk a]] (l := [a.ride.id, a.ride.rider]) (by simp) (by simp; exact ⟨hf.id, hf.rider⟩)
  simp only [k1, ask_at h1, ask_kind h1, ask_ride h1, ask_id h1, ask_rider h1, lit2_str', ha, build_who, ride_neq, moment_ok, out_ok, checkRide_ok _ hf, j_request_askFault_1, SS]
  unfold askFault onlyWho
  have e1 : [a.ride.id, a.ride.rider].all isKey = (isKey a.ride.id && isKey a.ride.rider) := by simp
  rw [e1]
  generalize (isKey a.ride.id && isKey a.ride.rider) = K
  generalize moment a.at' = M
  generalize out a.kind 1 4 = O
  generalize rideFault a.ride = F
  have sn : ∀ (H : Heap) (n : Int), snap H deep (I n) = some (I n) := fun _ _ => rfl
  generalize hE : decide (a.ride = ⟨a.ride.id, a.ride.rider, [], [], 0, 0, 0, 0⟩) = E
  have hE' : (a.ride ≠ ⟨a.ride.id, a.ride.rider, [], [], 0, 0, 0, 0⟩) = (E = false) := by
    rw [← hE]; simp
  simp only [ne_eq] at hE' ⊢
  simp only [hE']
  clear hE hE' e1 ha
  cases M <;> cases O <;> by_cases k1 : a.kind = 1 <;> by_cases k2 : a.kind = 2 <;> cases K <;> cases E <;> simp [k1, k2, yl_some, sn]
end Y
end Go.Proofs.YtplginnkececaaaGreatDoor

set_option linter.unusedSimpArgs false
set_option linter.unusedVariables false
namespace Go.Proofs.YtplginnkececaaaGreatDoor
open Go
namespace Y
open X

theorem cmpI_anti (a b : Int) : cmpI a b = -cmpI b a := by
  unfold cmpI
  by_cases h1 : a < b
  · rw [if_pos h1, if_neg (by omega), if_pos h1]
  · by_cases h2 : b < a
    · rw [if_neg h1, if_pos h2, if_pos h2]; rfl
    · rw [if_neg h1, if_neg h2, if_neg h2, if_neg h1]; rfl

theorem cmpS_anti (a b : Str) : cmpS a b = -cmpS b a := by
  unfold cmpS
  rcases lt_total a b with h | rfl | h
  · rw [if_pos h, if_neg (by rw [lt_asymm h]; simp), if_neg (Ne.symm (lt_ne h))]
  · rw [lt_irrefl]; simp
  · rw [if_neg (by rw [lt_asymm h]; simp), if_neg (Ne.symm (lt_ne h)), if_pos h]; rfl

theorem byAsk_anti (a b : Ask) : byAsk a b = -byAsk b a := by
  unfold byAsk
  rw [cmpI_anti a.at', cmpS_anti a.ride.id, cmpI_anti a.kind]
  by_cases h1 : cmpI b.at' a.at' = 0
  · by_cases h2 : cmpS b.ride.id a.ride.id = 0
    · simp [h1, h2]
    · simp [h1, h2]
  · simp [h1]

structure FitA (a : Ask) : Prop where
  ride : Fit a.ride
  at' : -1099511627776 ≤ a.at' ∧ a.at' ≤ 1099511627776
  kind : -1099511627776 ≤ a.kind ∧ a.kind ≤ 1099511627776

def prevOf {α : Type} (l : List α) (i : Nat) : Option α := if i = 0 then none else l[i - 1]?

theorem prevOf_succ {α : Type} {l : List α} {i : Nat} (h : i < l.length) : prevOf l (i + 1) = some l[i] := by
  unfold prevOf; rw [if_neg (by omega), Nat.add_sub_cancel, List.getElem?_eq_getElem h]

theorem sn_int (H : Heap) (n : Int) : snap H deep (I n) = some (I n) := (rfl)

theorem checkAsks_ok (H : Heap) {l : List Ask} (hl : l.length < 1000000) (hf : ∀ a ∈ l, FitA a) : pureCall prog (R prog) f_request_CheckAsks [.vslice (l.map encAsk)] H = some (I (asksFault l)) := by
  refine pure_fz (by intro a ha; simp at ha; subst ha; exact fz_vslice _) rfl (r_request_CheckAsks _ _ ?_)
  simp only [SS, List.length_map]
  unfold asksFault
  by_cases h2 : 2000 < l.length
  · rw [if_pos (by omega), if_pos h2]; exact yl_some.2 rfl
  rw [if_neg (by omega), if_neg h2]
  generalize hT : asksGo none l = T
  refine range_yl (n := l.length) (L := fun i H => l_request_CheckAsks_0 (.vslice (l.map encAsk)) (.vslice (l.map encAsk)) (I l.length) (I i) H (fun H2 => some (I 0, H2)))
    (fun i H' => asksGo (prevOf l i) (l.drop i) = T) ?_ ?_ l.length 0 [] (by omega) hT
  · intro H' h1
    refine l_request_CheckAsks_0_s _ _ _ _ _ _ ?_
    simp only [SS]
    rw [if_neg (by omega)]
    refine yl_some.2 ?_
    rw [← h1]; simp [asksGo, sn_int]
  · intro i hi H' h1 ih
    refine l_request_CheckAsks_0_s _ _ _ _ _ _ ?_
    have he : (l.map encAsk)[i]? = some (encAsk l[i]) := by rw [List.getElem?_map, List.getElem?_eq_getElem hi]; rfl
    have hm := hf _ (List.getElem_mem hi)
    have hp := prevOf_succ hi
    rw [List.drop_eq_getElem_cons hi] at h1
    generalize l[i] = a at he hm h1 hp
    simp only [SS]
    rw [if_pos (by omega), index_vslice (sz := 10) he rfl]
    simp only [vl_ask, box_ask0, put_ask, ask_all (last_get _ _), askFault_ok _ hm.ride, SS]
    unfold asksGo at h1
    by_cases hfa : askFault a = 0
    · simp only [hfa, ne_eq, not_true_eq_false, if_false, SS] at h1 ⊢
      rw [succ64 _ _ (by omega)]
      by_cases hi0 : i = 0
      · subst hi0
        simp only [prevOf, if_true] at h1
        rw [if_neg (by omega)]
        simp only [SS] at h1 ⊢
        exact ih _ (by rw [hp]; exact h1)
      · rw [if_pos (by omega), pred64 _ _ (by omega) (by omega)]
        have hi1 : i - 1 < l.length := by omega
        have he1 : (l.map encAsk)[i - 1]? = some (encAsk l[i - 1]) := by rw [List.getElem?_map, List.getElem?_eq_getElem hi1]; rfl
        have hpr : prevOf l i = some l[i - 1] := by unfold prevOf; rw [if_neg hi0, List.getElem?_eq_getElem hi1]
        rw [hpr] at h1
        generalize l[i - 1] = p at he1 h1
        simp only [SS]
        rw [index_vslice (sz := 10) he1 rfl]
        simp only [vl_ask, byAsk_ok, SS] at h1 ⊢
        by_cases hb : byAsk a p ≤ 0
        · rw [if_pos hb]; rw [if_pos hb] at h1; refine yl_some.2 ?_; rw [← h1]; rfl
        · rw [if_neg hb]; rw [if_neg hb] at h1; exact ih _ (by rw [hp]; exact h1)
    · simp only [hfa, ne_eq, not_false_eq_true, if_true, SS] at h1 ⊢
      rw [← h1]; rfl

theorem asksFault2_ok (H : Heap) {l : List Ask} (hl : l.length < 1000000) (hf : ∀ a ∈ l, FitA a) : pureCall prog (R prog) f_jitref2_AsksFault [.vslice (l.map encAsk)] H = some (I (asksFault l)) := by
  refine pure_fz (by intro a ha; simp at ha; subst ha; exact fz_vslice _) rfl (r_jitref2_AsksFault _ _ ?_)
  simp only [SS, List.length_map]
  unfold asksFault
  by_cases h2 : 2000 < l.length
  · rw [if_pos (by omega), if_pos h2]; exact yl_some.2 rfl
  rw [if_neg (by omega), if_neg h2]
  generalize hT : asksGo none l = T
  refine range_yl (n := l.length) (L := fun i H => l_jitref2_AsksFault_0 (.vslice (l.map encAsk)) (.vslice (l.map encAsk)) (I l.length) (I i) H (fun H2 => some (I 0, H2)))
    (fun i H' => asksGo (prevOf l i) (l.drop i) = T) ?_ ?_ l.length 0 [] (by omega) hT
  · intro H' h1
    refine l_jitref2_AsksFault_0_s _ _ _ _ _ _ ?_
    simp only [SS]
    rw [if_neg (by omega)]
    refine yl_some.2 ?_
    rw [← h1]; simp [asksGo, sn_int]
  · intro i hi H' h1 ih
    refine l_jitref2_AsksFault_0_s _ _ _ _ _ _ ?_
    have he : (l.map encAsk)[i]? = some (encAsk l[i]) := by rw [List.getElem?_map, List.getElem?_eq_getElem hi]; rfl
    have hm := hf _ (List.getElem_mem hi)
    have hp := prevOf_succ hi
    rw [List.drop_eq_getElem_cons hi] at h1
    generalize l[i] = a at he hm h1 hp
    have tail : askFault a = 0 → Yl (j_jitref2_AsksFault_1 (.vslice (l.map encAsk)) (I i) (.ptr H'.length 0 0) (.vslice (l.map encAsk)) (I l.length) (I i) (H' ++ [.arr 10 [encAsk a]]) (fun H2 => some (I 0, H2))) fun v' H' => snap H' deep v' = some (I T) := by
      intro hfa
      unfold asksGo at h1
      unfold j_jitref2_AsksFault_1
      simp only [hfa, ne_eq, not_true_eq_false, if_false, SS] at h1 ⊢
      rw [succ64 _ _ (by omega)]
      by_cases hi0 : i = 0
      · subst hi0
        simp only [prevOf, if_true] at h1
        rw [if_neg (by omega)]
        simp only [SS] at h1 ⊢
        exact ih _ (by rw [hp]; exact h1)
      · rw [if_pos (by omega), pred64 _ _ (by omega) (by omega)]
        have hi1 : i - 1 < l.length := by omega
        have he1 : (l.map encAsk)[i - 1]? = some (encAsk l[i - 1]) := by rw [List.getElem?_map, List.getElem?_eq_getElem hi1]; rfl
        have hpr : prevOf l i = some l[i - 1] := by unfold prevOf; rw [if_neg hi0, List.getElem?_eq_getElem hi1]
        have hm1 := hf _ (List.getElem_mem hi1)
        rw [hpr] at h1
        generalize l[i - 1] = p at he1 h1 hm1
        simp only [SS]
        rw [index_vslice (sz := 10) he1 rfl]
        have b1 := hm.at'
        have b2 := hm.kind
        have b3 := hm1.at'
        have b4 := hm1.kind
        simp only [vl_ask, ask_all (last_get _ _), SS]
        rw [order_ok (by omega)]
        have ha := byAsk_anti p a
        simp only [SS] at h1 ⊢
        by_cases hb : byAsk a p ≤ 0
        · rw [if_pos (by omega)]; rw [if_pos hb] at h1; refine yl_some.2 ?_; rw [← h1]; rfl
        · rw [if_neg (by omega)]; rw [if_neg hb] at h1; exact ih _ (by rw [hp]; exact h1)
    have bad : askFault a ≠ 0 → T = askFault a := by
      intro hfa
      unfold asksGo at h1
      rw [if_pos hfa] at h1; exact h1.symm
    simp only [SS]
    rw [if_pos (by omega), index_vslice (sz := 10) he rfl]
    simp only [vl_ask, box_ask0, put_ask, ask_all (last_get _ _), ask_at (last_get _ _), ask_kind (last_get _ _), ask_id (last_get _ _), ask_rider (last_get _ _), ask_ride (last_get _ _), moment2_ok, in_ok, rideFault2_ok _ hm.ride, key2_ok _ _ hm.ride.id, key2_ok _ _ hm.ride.rider, build_who, ride_neq, j_jitref2_AsksFault_2, j_jitref2_AsksFault_3, Bool.not_not, SS]
    unfold askFault onlyWho at tail bad
    generalize hE : decide (a.ride = ⟨a.ride.id, a.ride.rider, [], [], 0, 0, 0, 0⟩) = E
    have hE' : (a.ride ≠ ⟨a.ride.id, a.ride.rider, [], [], 0, 0, 0, 0⟩) = (E = false) := by
      rw [← hE]; simp
    simp only [ne_eq] at hE' tail bad
    simp only [hE'] at tail bad
    generalize j_jitref2_AsksFault_1 (.vslice (l.map encAsk)) (I i) (.ptr H'.length 0 0) (.vslice (l.map encAsk)) (I l.length) (I i) (H' ++ [.arr 10 [encAsk a]]) (fun H2 => some (I 0, H2)) = J at tail ⊢
    generalize isKey a.ride.id = K1 at tail bad ⊢
    generalize isKey a.ride.rider = K2 at tail bad ⊢
    generalize moment a.at' = M at tail bad ⊢
    generalize out a.kind 1 4 = O at tail bad ⊢
    generalize rideFault a.ride = F at tail bad ⊢
    simp only [hE']
    clear hT ih he hm h1 hp hE hE' hf
    by_cases k1 : a.kind = 1 <;> by_cases k2 : a.kind = 2 <;> by_cases f0 : F = 0 <;> cases M <;> cases O <;> cases K1 <;> cases K2 <;> cases E <;> simp [k1, k2, f0, yl_some, sn_int] at tail bad ⊢ <;> first | exact tail | (subst bad; rfl) | (rw [bad]; rfl)


theorem rider_key {H : Heap} {b : Nat} {a : Rider} (h : H[b]? = some (.arr 3 [encRider a])) : loadAV H none (.ptr b 0 0) = some (.str a.key) := load_ptr h rfl rfl
theorem rider_opn {H : Heap} {b : Nat} {a : Rider} (h : H[b]? = some (.arr 3 [encRider a])) : loadAV H none (.ptr b 0 1) = some (I a.opn) := load_ptr h rfl rfl
theorem rider_seats {H : Heap} {b : Nat} {a : Rider} (h : H[b]? = some (.arr 3 [encRider a])) : loadAV H none (.ptr b 0 2) = some (I a.seats) := load_ptr h rfl rfl
theorem rider_all {H : Heap} {b : Nat} {a : Rider} (h : H[b]? = some (.arr 3 [encRider a])) : loadAV H (some 3) (.ptr b 0 0) = some (encRider a) := load_ptr h rfl rfl
theorem box_rider0 (H : Heap) : boxAV 3 (.agg [(.str []), (.int .i64 0), (.int .i64 0)]) H = some (.ptr H.length 0 0, H ++ [.arr 3 [encRider ⟨[], 0, 0⟩]]) := box_ok rfl rfl
theorem put_rider (H : Heap) (a b : Rider) : storeAV (H ++ [.arr 3 [encRider a]]) 3 (.ptr H.length 0 0) (encRider b) = some (H ++ [.arr 3 [encRider b]]) := store_box rfl rfl rfl
theorem vl_rider (H : Heap) (a : Rider) : loadAV H (some 3) (.vptr (encRider a).cells) = some (encRider a) := (rfl)
theorem vl_rider_key (H : Heap) (a : Rider) : loadAV H none (.vptr (encRider a).cells) = some (.str a.key) := (rfl)

theorem le_str (s t : Str) : (Op.bytesLess s t || s == t) = !lt t s := by
  rcases lt_total s t with h | rfl | h
  · have h' : Op.bytesLess s t = true := h
    rw [h', lt_asymm h]; rfl
  · have : Op.bytesLess s s = false := lt_irrefl s
    rw [this, lt_irrefl]; simp
  · have h' : Op.bytesLess s t = false := lt_asymm h
    have hne : (s == t) = false := by simpa using Ne.symm (lt_ne h)
    rw [h', hne, h]; rfl

theorem checkRiders_ok (H : Heap) {l : List Rider} (hl : l.length < 1000000) (hf : ∀ a ∈ l, a.key.length < 1000000) : pureCall prog (R prog) f_request_CheckRiders [.vslice (l.map encRider)] H = some (I (ridersFault l)) := by
  refine pure_fz (by intro a ha; simp at ha; subst ha; exact fz_vslice _) rfl (r_request_CheckRiders _ _ ?_)
  simp only [SS, List.length_map]
  unfold ridersFault
  by_cases h2 : 500 < l.length
  · rw [if_pos (by omega), if_pos h2]; exact yl_some.2 rfl
  rw [if_neg (by omega), if_neg h2]
  generalize hT : ridersGo none l = T
  refine range_yl (n := l.length) (L := fun i H => l_request_CheckRiders_0 (.vslice (l.map encRider)) (.vslice (l.map encRider)) (I l.length) (I i) H (fun H2 => some (I 0, H2)))
    (fun i H' => ridersGo (prevOf l i) (l.drop i) = T) ?_ ?_ l.length 0 [] (by omega) hT
  · intro H' h1
    refine l_request_CheckRiders_0_s _ _ _ _ _ _ ?_
    simp only [SS]
    rw [if_neg (by omega)]
    refine yl_some.2 ?_
    rw [← h1]; simp [ridersGo, sn_int]
  · intro i hi H' h1 ih
    refine l_request_CheckRiders_0_s _ _ _ _ _ _ ?_
    have he : (l.map encRider)[i]? = some (encRider l[i]) := by rw [List.getElem?_map, List.getElem?_eq_getElem hi]; rfl
    have hm := hf _ (List.getElem_mem hi)
    have hp := prevOf_succ hi
    rw [List.drop_eq_getElem_cons hi] at h1
    generalize l[i] = a at he hm h1 hp
    simp only [SS]
    rw [if_pos (by omega), index_vslice (sz := 3) he rfl]
    have hend : ridersGo (some a) (l.drop (i + 1)) = T → Yl (l_request_CheckRiders_0 (.vslice (l.map encRider)) (.vslice (l.map encRider)) (I l.length) (I ((i + 1 : Nat) : Int)) (H' ++ [.arr 3 [encRider a]]) (fun H2 => some (I 0, H2))) fun v' H' => snap H' deep v' = some (I T) := fun h => ih _ (by rw [hp]; exact h)
    simp only [vl_rider, box_rider0, put_rider, rider_key (last_get _ _), rider_opn (last_get _ _), rider_seats (last_get _ _), key_ok _ _ hm, out_ok, j_request_CheckRiders_1, SS]
    rw [succ64 _ _ (by omega)]
    simp only [SS]
    generalize l_request_CheckRiders_0 (.vslice (l.map encRider)) (.vslice (l.map encRider)) (I l.length) (I ((i + 1 : Nat) : Int)) (H' ++ [.arr 3 [encRider a]]) (fun H2 => some (I 0, H2)) = J at hend ⊢
    by_cases hi0 : i = 0
    · subst hi0
      have h1 : (if (!isKey a.key) = true then (5 : Int) else if (false = true) then 7 else if (out a.opn 0 1000 || out a.seats 0 120) = true then 1 else ridersGo (some a) (l.drop (0 + 1))) = T := h1
      generalize ridersGo (some a) (l.drop (0 + 1)) = G at h1 hend
      simp only [show ¬ ((0 : Int) < ((0 : Nat) : Int)) by omega, if_false]
      generalize isKey a.key = K at h1 ⊢
      generalize out a.opn 0 1000 = O1 at h1 ⊢
      generalize out a.seats 0 120 = O2 at h1 ⊢
      cases K <;> cases O1 <;> cases O2 <;> simp [yl_some, sn_int] at h1 ⊢ <;> first | exact hend h1 | (rw [h1]; rfl) | (rw [← h1]; rfl) | (subst h1; rfl)
    · rw [pred64 _ _ (by omega) (by omega)]
      simp only [show ((0 : Int) < (i : Int)) by omega, if_true]
      have hi1 : i - 1 < l.length := by omega
      have he1 : (l.map encRider)[i - 1]? = some (encRider l[i - 1]) := by rw [List.getElem?_map, List.getElem?_eq_getElem hi1]; rfl
      have hpr : prevOf l i = some l[i - 1] := by unfold prevOf; rw [if_neg hi0, List.getElem?_eq_getElem hi1]
      rw [hpr] at h1
      generalize l[i - 1] = p at he1 h1
      simp only [SS]
      rw [index_vslice (sz := 3) he1 rfl]
      simp only [vl_rider_key, str_leq, le_str, SS]
      have h1 : (if (!isKey a.key) = true then (5 : Int) else if (!lt p.key a.key) = true then 7 else if (out a.opn 0 1000 || out a.seats 0 120) = true then 1 else ridersGo (some a) (l.drop (i + 1))) = T := h1
      generalize ridersGo (some a) (l.drop (i + 1)) = G at h1 hend
      generalize isKey a.key = K at h1 ⊢
      generalize out a.opn 0 1000 = O1 at h1 ⊢
      generalize out a.seats 0 120 = O2 at h1 ⊢
      generalize lt p.key a.key = L at h1 ⊢
      cases K <;> cases L <;> cases O1 <;> cases O2 <;> simp [yl_some, sn_int] at h1 ⊢ <;> first | exact hend h1 | (rw [h1]; rfl) | (rw [← h1]; rfl) | (subst h1; rfl)


theorem room_frm {H : Heap} {b : Nat} {a : Room} (h : H[b]? = some (.arr 3 [encRoom a])) : loadAV H none (.ptr b 0 0) = some (I a.frm) := load_ptr h rfl rfl
theorem room_to {H : Heap} {b : Nat} {a : Room} (h : H[b]? = some (.arr 3 [encRoom a])) : loadAV H none (.ptr b 0 1) = some (I a.to) := load_ptr h rfl rfl
theorem room_seats {H : Heap} {b : Nat} {a : Room} (h : H[b]? = some (.arr 3 [encRoom a])) : loadAV H none (.ptr b 0 2) = some (I a.seats) := load_ptr h rfl rfl
theorem box_room (H : Heap) (a : Room) : boxAV 3 (encRoom a) H = some (.ptr H.length 0 0, H ++ [.arr 3 [encRoom a]]) := box_ok rfl rfl
theorem box_room0 (H : Heap) : boxAV 3 (.agg [(.int .i64 0), (.int .i64 0), (.int .i64 0)]) H = some (.ptr H.length 0 0, H ++ [.arr 3 [encRoom ⟨0, 0, 0⟩]]) := box_room H ⟨0, 0, 0⟩
theorem put_room (H : Heap) (a b : Room) : storeAV (H ++ [.arr 3 [encRoom a]]) 3 (.ptr H.length 0 0) (encRoom b) = some (H ++ [.arr 3 [encRoom b]]) := store_box rfl rfl rfl
theorem vl_room (H : Heap) (a : Room) : loadAV H (some 3) (.vptr (encRoom a).cells) = some (encRoom a) := (rfl)
theorem vl_room_to (H : Heap) (a : Room) : loadAV H none (.vptr ((encRoom a).cells.drop 1)) = some (I a.to) := (rfl)
theorem vl_room_seats (H : Heap) (a : Room) : loadAV H none (.vptr ((encRoom a).cells.drop 2)) = some (I a.seats) := (rfl)
theorem fa_room1 (a : Room) : fieldAddrAV 1 (.vptr (encRoom a).cells) = some (.vptr ((encRoom a).cells.drop 1)) := (rfl)
theorem fa_room2 (a : Room) : fieldAddrAV 2 (.vptr (encRoom a).cells) = some (.vptr ((encRoom a).cells.drop 2)) := (rfl)

theorem checkRooms_ok (H : Heap) {l : List Room} (hl : l.length < 1000000) : pureCall prog (R prog) f_request_CheckRooms [.vslice (l.map encRoom)] H = some (I (roomsFault l)) := by
  refine pure_fz (by intro a ha; simp at ha; subst ha; exact fz_vslice _) rfl (r_request_CheckRooms _ _ ?_)
  simp only [SS, List.length_map]
  unfold roomsFault
  by_cases h2 : 200 < l.length
  · rw [if_pos (by omega), if_pos h2]; exact yl_some.2 rfl
  rw [if_neg (by omega), if_neg h2]
  generalize hT : roomsGo none l = T
  refine range_yl (n := l.length) (L := fun i H => l_request_CheckRooms_0 (.vslice (l.map encRoom)) (.vslice (l.map encRoom)) (I l.length) (I i) H (fun H2 => some (I 0, H2)))
    (fun i H' => roomsGo (prevOf l i) (l.drop i) = T) ?_ ?_ l.length 0 [] (by omega) hT
  · intro H' h1
    refine l_request_CheckRooms_0_s _ _ _ _ _ _ ?_
    simp only [SS]
    rw [if_neg (by omega)]
    refine yl_some.2 ?_
    rw [← h1]; simp [roomsGo, sn_int]
  · intro i hi H' h1 ih
    refine l_request_CheckRooms_0_s _ _ _ _ _ _ ?_
    have he : (l.map encRoom)[i]? = some (encRoom l[i]) := by rw [List.getElem?_map, List.getElem?_eq_getElem hi]; rfl
    have hp := prevOf_succ hi
    rw [List.drop_eq_getElem_cons hi] at h1
    generalize l[i] = a at he h1 hp
    simp only [SS]
    rw [if_pos (by omega), index_vslice (sz := 3) he rfl]
    have hend : roomsGo (some a) (l.drop (i + 1)) = T → Yl (l_request_CheckRooms_0 (.vslice (l.map encRoom)) (.vslice (l.map encRoom)) (I l.length) (I ((i + 1 : Nat) : Int)) (H' ++ [.arr 3 [encRoom a]]) (fun H2 => some (I 0, H2))) fun v' H' => snap H' deep v' = some (I T) := fun h => ih _ (by rw [hp]; exact h)
    simp only [vl_room, box_room0, put_room, room_frm (last_get _ _), room_to (last_get _ _), room_seats (last_get _ _), out_ok, j_request_CheckRooms_1, SS]
    rw [succ64 _ _ (by omega)]
    simp only [SS]
    generalize l_request_CheckRooms_0 (.vslice (l.map encRoom)) (.vslice (l.map encRoom)) (I l.length) (I ((i + 1 : Nat) : Int)) (H' ++ [.arr 3 [encRoom a]]) (fun H2 => some (I 0, H2)) = J at hend ⊢
    have h0 : out a.frm 0 345686400000 = out a.frm 0 endT := rfl
    have h0' : (345686400000 < a.to) = (endT < a.to) := rfl
    rw [h0]
    simp only [h0']
    by_cases hi0 : i = 0
    · subst hi0
      have h1 : (if (out a.frm 0 endT || decide (a.to ≤ a.frm) || decide (endT < a.to) || out a.seats 0 1000000) = true then (1 : Int) else if (false = true) then 7 else roomsGo (some a) (l.drop (0 + 1))) = T := h1
      generalize roomsGo (some a) (l.drop (0 + 1)) = G at h1 hend
      simp only [show ¬ ((0 : Int) < ((0 : Nat) : Int)) by omega, if_false]
      generalize out a.frm 0 endT = O1 at h1 ⊢
      generalize out a.seats 0 1000000 = O2 at h1 ⊢
      by_cases c1 : a.to ≤ a.frm <;> by_cases c2 : endT < a.to <;> cases O1 <;> cases O2 <;> simp [c1, c2, yl_some, sn_int] at h1 ⊢ <;> first | exact hend h1 | (rw [h1]; rfl) | (rw [← h1]; rfl) | (subst h1; rfl)
    · rw [pred64 _ _ (by omega) (by omega)]
      simp only [show ((0 : Int) < (i : Int)) by omega, if_true]
      have hi1 : i - 1 < l.length := by omega
      have he1 : (l.map encRoom)[i - 1]? = some (encRoom l[i - 1]) := by rw [List.getElem?_map, List.getElem?_eq_getElem hi1]; rfl
      have hpr : prevOf l i = some l[i - 1] := by unfold prevOf; rw [if_neg hi0, List.getElem?_eq_getElem hi1]
      rw [hpr] at h1
      generalize l[i - 1] = p at he1 h1
      simp only [SS]
      rw [index_vslice (sz := 3) he1 rfl]
      simp only [fa_room1, vl_room_to, SS]
      have h1 : (if (out a.frm 0 endT || decide (a.to ≤ a.frm) || decide (endT < a.to) || out a.seats 0 1000000) = true then (1 : Int) else if decide (a.frm < p.to) = true then 7 else roomsGo (some a) (l.drop (i + 1))) = T := h1
      generalize roomsGo (some a) (l.drop (i + 1)) = G at h1 hend
      generalize out a.frm 0 endT = O1 at h1 ⊢
      generalize out a.seats 0 1000000 = O2 at h1 ⊢
      by_cases c1 : a.to ≤ a.frm <;> by_cases c2 : endT < a.to <;> by_cases c3 : a.frm < p.to <;> cases O1 <;> cases O2 <;> simp [c1, c2, c3, yl_some, sn_int] at h1 ⊢ <;> first | exact hend h1 | (rw [h1]; rfl) | (rw [← h1]; rfl) | (subst h1; rfl)
end Y
end Go.Proofs.YtplginnkececaaaGreatDoor

set_option linter.unusedSimpArgs false
set_option linter.unusedVariables false
namespace Go.Proofs.YtplginnkececaaaGreatDoor
open Go
namespace Y
open X

def sink {α : Type} (c : α → α → Int) : List α → α → List α → List α
  | [], x, s => x :: s
  | y :: r, x, s => if c x y < 0 then sink c r x (y :: s) else (y :: r).reverse ++ x :: s

def sortGo {α : Type} (c : α → α → Int) : List α → List α → List α
  | d, [] => d
  | d, x :: l => sortGo c (sink c d.reverse x []) l

def sortI {α : Type} (c : α → α → Int) : List α → List α
  | [] => []
  | x :: l => sortGo c [x] l

theorem sink_perm {α : Type} (c : α → α → Int) : ∀ (r : List α) (x : α) (s : List α), (sink c r x s).Perm (r.reverse ++ x :: s)
  | [], x, s => by simp [sink]
  | y :: r, x, s => by
    unfold sink
    split
    · refine (sink_perm c r x (y :: s)).trans ?_
      simp only [List.reverse_cons, List.append_assoc, List.singleton_append]
      exact List.Perm.append_left _ (List.Perm.swap _ _ _)
    · exact List.Perm.refl _

theorem sink_len {α : Type} (c : α → α → Int) (r : List α) (x : α) (s : List α) : (sink c r x s).length = r.length + s.length + 1 := by
  rw [(sink_perm c r x s).length_eq]; simp; omega

theorem sortGo_perm {α : Type} (c : α → α → Int) : ∀ (l d : List α), (sortGo c d l).Perm (d ++ l)
  | [], d => by simp [sortGo]
  | x :: l, d => by
    unfold sortGo
    refine (sortGo_perm c l _).trans ?_
    have := sink_perm c d.reverse x []
    rw [List.reverse_reverse] at this
    refine (this.append_right l).trans ?_
    simp

theorem sortI_perm {α : Type} (c : α → α → Int) (l : List α) : (sortI c l).Perm l := by
  cases l with
  | nil => exact List.Perm.refl _
  | cons x l => exact sortGo_perm c l [x]

theorem sink_sorted {α : Type} {c : α → α → Int} {lt ne : α → α → Prop} (hc : ∀ a b, c a b < 0 → lt a b) (ht : ∀ a b, ne a b → ¬ c a b < 0 → lt b a) (tr : ∀ a b d, lt a b → lt b d → lt a d) :
    ∀ (r : List α) (x : α) (s : List α), (r.reverse ++ s).Pairwise lt → (∀ y ∈ s, lt x y) → (∀ y ∈ r, ne x y) → (sink c r x s).Pairwise lt
  | [], x, s, hp, hs, _ => by
    simp only [sink, List.pairwise_cons]
    exact ⟨hs, by simpa using hp⟩
  | y :: r, x, s, hp, hs, hn => by
    unfold sink
    split
    · rename_i h
      refine sink_sorted hc ht tr r x (y :: s) (by simpa using hp) (fun z hz => ?_) fun z hz => hn z (by simp [hz])
      rcases List.mem_cons.1 hz with rfl | hz
      · exact hc _ _ h
      · exact hs z hz
    · rename_i h
      have hyx : lt y x := ht x y (hn y (by simp)) h
      rw [List.pairwise_append] at hp ⊢
      obtain ⟨p1, p2, p3⟩ := hp
      refine ⟨p1, by rw [List.pairwise_cons]; exact ⟨hs, p2⟩, fun a ha b hb => ?_⟩
      rcases List.mem_cons.1 hb with rfl | hb
      · rw [List.mem_reverse] at ha
        rcases List.mem_cons.1 ha with rfl | ha
        · exact hyx
        · refine tr _ _ _ ?_ hyx
          rw [List.reverse_cons, List.pairwise_append] at p1
          exact p1.2.2 a (by simpa using ha) y (by simp)
      · exact p3 a ha b hb

theorem sortGo_sorted {α : Type} {c : α → α → Int} {lt ne : α → α → Prop} (hc : ∀ a b, c a b < 0 → lt a b) (ht : ∀ a b, ne a b → ¬ c a b < 0 → lt b a) (tr : ∀ a b d, lt a b → lt b d → lt a d) (sy : ∀ a b, ne a b → ne b a) :
    ∀ (l d : List α), d.Pairwise lt → (d ++ l).Pairwise ne → (sortGo c d l).Pairwise lt
  | [], d, hd, _ => hd
  | x :: l, d, hd, hn => by
    unfold sortGo
    have hx : ∀ y ∈ d.reverse, ne x y := by
      intro y hy
      rw [List.pairwise_append] at hn
      exact sy _ _ (hn.2.2 y (by simpa using hy) x (by simp))
    refine sortGo_sorted hc ht tr sy l _ (sink_sorted hc ht tr d.reverse x [] (by simpa using hd) (by simp) hx) ?_
    have := (sink_perm c d.reverse x []).append_right l
    rw [List.reverse_reverse] at this
    refine (this.pairwise_iff fun h => sy _ _ h).2 ?_
    simpa using hn

theorem sortI_sorted {α : Type} {c : α → α → Int} {lt ne : α → α → Prop} (hc : ∀ a b, c a b < 0 → lt a b) (ht : ∀ a b, ne a b → ¬ c a b < 0 → lt b a) (tr : ∀ a b d, lt a b → lt b d → lt a d) (sy : ∀ a b, ne a b → ne b a)
    {l : List α} (hn : l.Pairwise ne) : (sortI c l).Pairwise lt := by
  cases l with
  | nil => exact .nil
  | cons x l => exact sortGo_sorted hc ht tr sy l [x] (by simp) hn

theorem sorted_eq {α : Type} {lt : α → α → Prop} (ir : ∀ a, ¬ lt a a) (tr : ∀ a b d, lt a b → lt b d → lt a d) : ∀ {l m : List α}, l.Perm m → l.Pairwise lt → m.Pairwise lt → l = m
  | [], m, h, _, _ => by simpa using h.symm
  | x :: l, [], h, _, _ => by have := h.length_eq; simp at this
  | x :: l, y :: m, h, h1, h2 => by
    rw [List.pairwise_cons] at h1 h2
    have hxy : x = y := by
      have hx : x ∈ y :: m := h.subset (by simp)
      have hy : y ∈ x :: l := h.symm.subset (by simp)
      rcases List.mem_cons.1 hx with e | hx
      · exact e
      · rcases List.mem_cons.1 hy with e | hy
        · exact e.symm
        · exact (ir _ (tr _ _ _ (h1.1 _ hy) (h2.1 _ hx))).elim
    subst hxy
    rw [sorted_eq ir tr (h.cons_inv) h1.2 h2.2]

end Y
end Go.Proofs.YtplginnkececaaaGreatDoor
