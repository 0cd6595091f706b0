/- The law: without the refused asks all is as it was, and none is refused. No condition. -/
import Derived.Test.YtplginnkececaaaGreatDoorZRMB
import Derived.Test.YtplginnkececaaaGreatDoorZXRD
set_option linter.unusedSimpArgs false
set_option linter.unusedVariables false
namespace Go.Proofs.YtplginnkececaaaGreatDoor
open Go
namespace Y
open X

theorem deskAt_sel {who : List Rider} {rooms : List Room} {l : List Ask} (hr : Right l) (hat : ∀ a ∈ l, 0 ≤ a.at' ∧ a.at' < endT) {t : Int} (ht : 0 ≤ t) :
    deskAt who rooms (Desk.sel (Desk.oks (desk0 who []) l) l) t = deskAt who rooms l t ∧ refusedOf who [] (Desk.sel (Desk.oks (desk0 who []) l) l) endT = [] := by
  have hs := hr.sorted
  have h1 : Desk.oks (desk0 who []) l = Desk.oks (desk0 who rooms) l := Desk.sim_oks l ⟨rfl, rfl, rfl⟩
  constructor
  · rw [h1]
    exact (Desk.run_sel l (desk0 who rooms) (desk0 who rooms) [] [] 0 0 0 (fun a ha => (hat a ha).1) hs ht fun _ _ => rfl).1.symm
  · exact (Desk.run_sel l (desk0 who []) (desk0 who []) [] [] 0 0 0 (fun a ha => (hat a ha).1) hs (by unfold endT; omega) fun _ _ => rfl).2

theorem refused_nums {who : List Rider} {l : List Ask} (hat : ∀ a ∈ l, a.at' < endT) : refusedOf who [] l endT = Desk.nums 0 (Desk.oks (desk0 who []) l) := by
  unfold refusedOf
  rw [Desk.runGo_refused l _ _ _ fun a ha => by have := hat a ha; omega]
  rfl

theorem Lo.zero (v : AV) : Lo 0 v := fun _ _ => Nat.zero_le _

theorem lawLoop {who rooms at' e : AV} {l : List Ask} {bs : List Bool} (hbs : bs.length = l.length) (hl : l.length < 20) {k0 : AV → AV → AV → AV → AV → AV → Heap → Option (AV × Heap)} {Q : AV → Heap → Prop}
    (hq : ∀ (v : AV) (H : Heap), Own H 10 v ((Desk.sel bs l).map encAsk) → Yl (k0 who rooms (.vslice (l.map encAsk)) at' e v H) Q) :
    ∀ (m i : Nat) (v : AV) (H : Heap), m + i = l.length → Own H 10 v ((Desk.sel (bs.take i) (l.take i)).map encAsk) →
      Yl (l_jitkeep2_RefusedAsksSayNothing_0 who rooms (.vslice (l.map encAsk)) at' (.vslice ((Desk.nums 0 bs).map I)) e v (.vslice (l.map encAsk)) (I l.length) (I i) H k0) Q := by
  have hnl : (Desk.nums 0 bs).length < 1000000 := by
    have : ∀ (bs : List Bool) (i : Nat), (Desk.nums i bs).length ≤ bs.length := by
      intro bs
      induction bs with
      | nil => intro i; simp [Desk.nums]
      | cons b bs ih => intro i; have := ih (i + 1); cases b <;> simp [Desk.nums] <;> omega
    have := this bs 0
    omega
  intro m
  induction m with
  | zero =>
    intro i v H hm ho
    refine l_jitkeep2_RefusedAsksSayNothing_0_s _ _ _ _ _ _ _ _ _ _ _ _ ?_
    simp only [SS]
    rw [if_neg (by omega)]
    rw [List.take_of_length_le (by omega), List.take_of_length_le (by omega)] at ho
    exact hq v H ho
  | succ m ih =>
    intro i v H hm ho
    refine l_jitkeep2_RefusedAsksSayNothing_0_s _ _ _ _ _ _ _ _ _ _ _ _ ?_
    have hi : i < l.length := by omega
    have hib : i < bs.length := by omega
    have he : (l.map encAsk)[i]? = some (encAsk l[i]) := by rw [List.getElem?_map, List.getElem?_eq_getElem hi]; rfl
    have hs := sel_take hbs hi
    have nx := ih (i + 1)
    rw [hs] at nx
    have hmem : (I i : AV) = I ((i : Nat) : Int) := rfl
    have hdec : decide (((i : Nat) : Int) ∈ Desk.nums 0 bs) = !(bs[i]? == some true) := by
      have := mem_nums (k := ((i : Nat) : Int)) (bs := bs) (i := 0)
      rw [Bool.eq_iff_iff]
      rw [decide_eq_true_iff, this]
      rw [List.getElem?_eq_getElem hib]
      constructor
      · rintro ⟨j, h1, h2⟩
        have : j = i := by omega
        subst this
        rw [List.getElem?_eq_getElem hib] at h1
        simp at h1; simp [h1]
      · intro h
        refine ⟨i, ?_, by omega⟩
        rw [List.getElem?_eq_getElem hib]
        cases hb : bs[i] <;> simp [hb] at h ⊢
    generalize l[i] = a at he nx
    simp only [SS]
    rw [if_pos (by omega), index_vslice (sz := 10) he rfl]
    simp only [vl_ask, box_ask0, put_ask, contains_int _ _ _ hnl, hdec, Bool.not_not, SS]
    by_cases hb : bs[i]? = some true
    · simp only [hb, if_true] at nx
      simp only [hb, BEq.rfl, if_true]
      obtain ⟨v', H3, c1, c2, c3⟩ := (ho.app [.arr 10 [encAsk a]]).appendL (bytes := 112) lay_ask a (y := .vslice [encAsk a]) rfl (by omega) (by
        have := (sel_sub (bs.take i) (l.take i)).length_le
        simp at this; omega)
      simp only [ask_all (last_get _ _), SS]
      rw [lit_one (sz := 10) (v := encAsk a) rfl rfl rfl]
      simp only [c1, SS]
      rw [succ64 _ _ (by omega)]
      simp only [SS]
      exact nx v' H3 (by omega) c2
    · have hb' : (bs[i]? == some true) = false := by simpa using hb
      simp only [hb, if_false, List.append_nil] at nx
      simp only [hb', Bool.false_eq_true, if_false]
      rw [succ64 _ _ (by omega)]
      simp only [SS]
      exact nx v _ (by omega) (ho.app _)

theorem law_ok (zs : List Int) : Yl (R prog f_jitkeep2_RefusedAsksSayNothing [.vslice (zs.map I)] []) fun v _ => v = .bool true := by
  refine r_jitkeep2_RefusedAsksSayNothing _ _ ?_
  have e1 : buildAV [.nilslice, I 0] [(0, 1, .vslice (zs.map I))] = some (.agg [.vslice (zs.map I), I 0]) := rfl
  have e2 : boxAV 2 (.agg [.vslice (zs.map I), I 0]) [] = some (.ptr 0 0 0, [stB zs 0]) := rfl
  obtain ⟨ra, rc, rd, rn, m1, m2, m3, m4, c1⟩ := riders_cut (zs := zs) (p := 0) (b := 0) (H := [stB zs 0]) rfl (by omega)
  obtain ⟨w1, w2, w3⟩ := riders_right m1 m2 m3 m4
  generalize (ridersOf ra rc rd).take rn = who at c1 w1 w2 w3
  obtain ⟨rooms, q1, o1, o2, o3, c2⟩ := rooms_cut (zs := zs) (p := 0 + 4) (b := 0) (H := [stB zs 0].set 0 (stB zs (0 + 4))) rfl (by omega)
  rw [List.set_set] at c2
  obtain ⟨N, n1, n2, c3⟩ := range_num (zs := zs) (p := q1) (b := 0) (H := [stB zs 0].set 0 (stB zs q1)) (lo := 0) (hi := 16) rfl (by omega) (by omega) (by omega) (by omega)
  rw [List.set_set] at c3
  obtain ⟨N', rfl⟩ : ∃ N' : Nat, N = (N' : Int) := ⟨_, (Int.toNat_of_nonneg n1).symm⟩
  obtain ⟨l, q2, s1, s2, s3, s4, c4⟩ := rightAsks_cut (zs := zs) (p := q1 + 1) (b := 0) (N := N') (H := [stB zs 0].set 0 (stB zs (q1 + 1))) rfl (by omega) (by omega)
  rw [List.set_set] at c4
  obtain ⟨t, t1, t2, c5⟩ := range_num (zs := zs) (p := q2) (b := 0) (H := [stB zs 0].set 0 (stB zs q2)) (lo := 0) (hi := 120) rfl (by omega) (by omega) (by omega) (by omega)
  rw [List.set_set] at c5
  have hright := (asksFault_right (by omega)).1 s2
  have hok : ∀ a ∈ l, AskOk a := fun a ha => askOk_of (s1 a ha) (hright.ok a ha)
  have hfine : Fine who l := ⟨w1, w2, w3, s2, hok, by omega⟩
  have hat : ∀ a ∈ l, 0 ≤ a.at' ∧ a.at' < endT := by
    intro a ha
    have := hright.ok a ha
    unfold askFault at this
    split at this
    · cases this
    · rename_i hm; rw [← moment_iff]; simpa using hm
  have hfr : FineR rooms := ⟨roomsFault_right o1 (by unfold endT; omega) (by omega), fun r hr => by have := o1.all r hr; omega, by omega⟩
  have htm : moment t = true := moment_iff.2 (by unfold endT; omega)
  obtain ⟨k1, k2⟩ := deskAt_sel (who := who) (rooms := rooms) hright hat t1
  have hrn := refused_nums (who := who) fun a ha => (hat a ha).2
  have hsub := sel_sub (Desk.oks (desk0 who []) l) l
  have hbs := oks_len l (desk0 who [])
  have hsl := hsub.length_le
  have hfineS : Fine who (Desk.sel (Desk.oks (desk0 who []) l) l) :=
    ⟨w1, w2, w3, (asksFault_right (by omega)).2 (hright.sub hsub), fun a ha => hok a (hsub.subset ha), by omega⟩
  have hlast := hfineS
  generalize hB : Desk.sel (Desk.oks (desk0 who []) l) l = B at *
  generalize Desk.oks (desk0 who []) l = bs at *
  have r1 := refused_ok (H := [stB zs 0].set 0 (stB zs (q2 + 1))) (v := .vslice (l.map encAsk)) rfl hfine
  rw [hrn] at r1
  simp only [e1, e2, c1, c2, c3, c4, c5, r1, SS, List.length_map]
  refine lawLoop hbs (by omega) ?_ l.length 0 .nilslice _ (by omega) (.nil _ _)
  intro v H ho
  rw [hB] at ho
  have hsn : snap H deep v = some (.vslice (B.map encAsk)) := ho.snapK (k := 11) (mapM_asks _ _ (by omega) B)
  have r2 := refused_ok (H := H) hsn hlast
  rw [k2] at r2
  have r3 := standings_ok (H := H) (v := .vslice (l.map encAsk)) rfl hfine hfr htm
  have r4 := standings_ok (H := H) hsn hlast hfr htm
  rw [k1] at r4
  have he := errs_ok H (es := [0, 0, 0, 0]) (by decide)
  have hz : firstE [0, 0, 0, 0] = 0 := rfl
  rw [hz] at he
  have hst : (standOf (deskAt who rooms l t)).length < 1000000 := by
    unfold standOf
    rw [(sortI_perm _ _).length_eq, List.length_map]
    obtain ⟨d, A, H', x1, x2, x3, x4, _⟩ := run_ok (who := who) (rooms := rooms) (rv := .vslice (rooms.map encRoom)) (.inr rfl) hfr.many hfine.many hfr.seats hfine.ok hfine.few (t := t) (by omega) []
    have := x4.len; omega
  simp only [r2, r3, r4, lit4_int, he, equal_st _ _ _ hst, ready_ok, List.map_nil, List.length_nil, SS]
  have h0 : (((0 : Nat) : Int) = 0) := rfl
  simp only [h0, if_true]
  exact yl_some.2 rfl
end Y
end Go.Proofs.YtplginnkececaaaGreatDoor
