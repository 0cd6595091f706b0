/- What is known of Stable is taken up. No condition. -/
import Derived.Test.YtkaigfcjejabfaaGreatDoorYX
import Derived.Test.YtkaigfcjejabfaaGreatDoorXEX
set_option maxRecDepth 100000
set_option linter.unusedSimpArgs false
set_option linter.unusedVariables false
namespace Go.Proofs.YtkaigfcjejabfaaGreatDoor
open Go
namespace X
open Y

def GoodS (vs : List AV) (v : AV) : Prop := ∃ cars rides hs asked, OkW cars ∧ OkW rides ∧ vs = [encWs cars, encWs rides] ∧ Inv rides.length (frOf rides) (whoOf rides) (prefOf cars) (prefOf rides) hs asked [] ∧
  v = .tuple [encDs (sortI cmpD (dealsOf (whoOf rides) hs)), I 0] ∧ PureOK Tryz.prog noG f_match_Stable vs v

open Classical in
noncomputable def stableP (vs : List AV) : Option AV := if h : ∃ v, GoodS vs v then some (Classical.choose h) else none

noncomputable def prim1 (f : Nat) (vs : List AV) : Option AV := bif Nat.beq f f_match_Stable then stableP vs else primOf f vs
noncomputable def prog1 : Prog := ⟨fnOf, modeOf, prim1⟩

theorem prog1_ok : ProgOK Tryz.prog noG prog1 := progs_ok prim1

theorem stableP_good {vs : List AV} {v : AV} (h : stableP vs = some v) : GoodS vs v := by
  unfold stableP at h
  split at h
  · rename_i hh
    cases h
    exact Classical.choose_spec hh
  · cases h

theorem prim1_ok : PrimOK Tryz.prog noG prog1 := by
  intro f args v h
  have h : prim1 f args = some v := h
  unfold prim1 at h
  cases hb : Nat.beq f f_match_Stable with
  | true =>
    rw [hb] at h
    obtain ⟨cars, rides, hs, asked, _, _, _, _, _, hp⟩ := stableP_good h
    rw [Nat.eq_of_beq_eq_true hb]
    exact hp
  | false => rw [hb] at h; exact prim_ok f args v h

theorem extP : Ext prog prog1 := by
  refine ⟨rfl, rfl, fun f vs v h => ?_, fun f vs v h h' => ?_⟩
  · show prim1 f vs = some v
    have h : primOf f vs = some v := h
    unfold prim1
    cases hb : Nat.beq f f_match_Stable with
    | true =>
      rw [Nat.eq_of_beq_eq_true hb] at h
      rw [show primOf f_match_Stable vs = none from rfl] at h
      cases h
    | false => exact h
  · have h : primOf f vs = none := h
    have h' : prim1 f vs = some v := h'
    unfold prim1 at h'
    cases hb : Nat.beq f f_match_Stable with
    | true => rw [Nat.eq_of_beq_eq_true hb]; rfl
    | false => rw [hb] at h'; simp only [cond_false] at h'; rw [h] at h'; cases h'

theorem encL_inj {a b : List Str} (h : encL a = encL b) : a = b := by
  simp only [encL, AV.vslice.injEq] at h
  exact List.map_inj_right (fun x y hxy => by simpa using hxy) |>.1 h

theorem encW_inj {a b : W} (h : encW a = encW b) : a = b := by
  obtain ⟨x, y⟩ := a
  obtain ⟨u, v⟩ := b
  simp only [encW, AV.agg.injEq, List.cons.injEq, AV.str.injEq, and_true] at h
  rw [h.1, encL_inj h.2]

theorem encWs_inj {a b : List W} (h : encWs a = encWs b) : a = b := by
  simp only [encWs, AV.vslice.injEq] at h
  exact List.map_inj_right (fun x y hxy => encW_inj hxy) |>.1 h

/-- Stable, called. -/
theorem stable_call {cars rides : List W} (hc : OkW cars) (hr : OkW rides) (h12 : cars.length ≤ 12) : ∃ hs asked, Inv rides.length (frOf rides) (whoOf rides) (prefOf cars) (prefOf rides) hs asked [] ∧
    ∀ H, pureCall prog1 (R prog1) f_match_Stable [encWs cars, encWs rides] H = some (.tuple [encDs (sortI cmpD (dealsOf (whoOf rides) hs)), I 0]) := by
  obtain ⟨hs, asked, h1, h2⟩ := stable_pure hc hr h12
  have hex : ∃ v, GoodS [encWs cars, encWs rides] v := ⟨_, cars, rides, hs, asked, hc, hr, rfl, h1, rfl, h2⟩
  have hsome : ∃ v, stableP [encWs cars, encWs rides] = some v := by
    unfold stableP
    rw [dif_pos hex]
    exact ⟨_, rfl⟩
  obtain ⟨v, hv⟩ := hsome
  obtain ⟨cars', rides', hs', asked', _, _, he, hi, rfl, _⟩ := stableP_good hv
  simp only [List.cons.injEq, and_true] at he
  obtain rfl := encWs_inj he.1
  obtain rfl := encWs_inj he.2
  refine ⟨hs', asked', hi, fun H => pure_prim (by simp [encWs, fz_vslice]) ?_⟩
  show prim1 f_match_Stable _ = _
  unfold prim1
  exact hv
end X
end Go.Proofs.YtkaigfcjejabfaaGreatDoor
