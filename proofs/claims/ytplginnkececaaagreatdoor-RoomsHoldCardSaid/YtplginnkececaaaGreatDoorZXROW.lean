/- The row of a law out of its run. No condition. -/
import Derived.Test.YtplginnkececaaaGreatDoorRows
import Derived.Test.YtplginnkececaaaGreatDoorTie
import Derived.Test.YtplginnkececaaaGreatDoorZYB
import Derived.Test.YtplginnkececaaaGreatDoorZRNL
import Derived.ProofKit
import Derived.JoinedOf
import Derived.LaidLaws
import Derived.LaidHandle
import Derived.Stop.Joined
import Derived.ChangeSlices
import Derived.SevenTiedAt
namespace Go.Proofs.YtplginnkececaaaGreatDoor
open Go.ChangeShapes Go.WideShapes Go.RowKit

theorem own : ownKnob Tryz.prog.godebug = none := by kernel_rfl
theorem laidOut : laidOutB Tryz.prog = true := by kernel_rfl
theorem cells3 : Tryz.prog.cellsOf 3 = 1 := by kernel_rfl

set_option maxRecDepth 100000 in
theorem law_runs (zs : List Int) (W : World) (x : Value) (hx : X.RV W (fun b => b < W.heap.size) X.noMu (.vslice (zs.map (.int .i64))) x) : Calls Tryz.prog 6 #[x] W fun e w' => e = .returned (.bool true) ∧ Below W.heap.size W w' := by
  obtain ⟨v, H, h1, rfl⟩ := Y.law_ok zs
  obtain ⟨k, hk⟩ := X.R_some.1 h1
  exact X.calls_of_run (c := (Tryz.f6.body).getD .skip) X.mixed X.prog_ok X.prim_ok hk hx (fun g v h => by cases h) Tryz.func6 (by kernel_rfl) (by kernel_rfl)

noncomputable def laidWorld (os : Os) : World :=
  let w0 := World.holding Tryz.prog os ⟨#[], #[], []⟩
  let put (n : String) (vs : Array Value) (w : World) : World := match Tryz.prog.globalNamed n with
    | some g => { w with heap := w.heap.modify g fun
      | .cells _ t frozen => .cells vs t frozen
      | o => o }
    | none => w
  let cellsOf (d : DataW Unit) : Array Value := match d with
    | .agg ds => (ds.map fun d => match d with | .lit (.int k n) => Value.int k n | _ => undef).toArray
    | _ => #[]
  Rows.roomsHoldRow.laid.foldl (fun w p => put p.1 (cellsOf p.2) w) w0

set_option maxRecDepth 100000 in
theorem laidWorld_met (os : Os) (args : Array Value) : laidMetH Tryz.prog Rows.roomsHoldRow.laid ((laidWorld os).forCall (fun _ _ => 0) ⟨#[], args, []⟩).memory :=
  laidMetH_of_parts (laidMet_of_run' 8 (by kernel_rfl) (by kernel_rfl)) (by kernel_rfl)

set_option maxRecDepth 100000 in
theorem law_lifted (os : Os) (started : os.Started) (H : Type) (enc : TypeId × Value → H) :
    ReturnsInHanded {} Tryz.checked os 6 .any (fun w args => (Rows.roomsHoldSpec.pre enc Tryz.prog Tryz.f6 [] false w args ∧ laidMetH Tryz.prog Rows.roomsHoldRow.laid w) ∧ sizedMet enc Tryz.prog Tryz.f6 (OpenSpec.ofChange Rows.roomsHoldSpec) false w args)
      (Rows.roomsHoldSpec.post enc Tryz.prog Tryz.f6 false true false false) := by
  refine returnsInHanded_of_change_and (C := Tryz.checked) (X := fun w _ => laidMetH Tryz.prog Rows.roomsHoldRow.laid w) (fun _ _ _ hh h => h.of_heap hh) own started (by kernel_rfl) Tryz.func6
    (ChangeSpec.witness_at (enc := enc) (C := Tryz.checked) (os := os) (X := fun w _ => laidMetH Tryz.prog Rows.roomsHoldRow.laid w) false (laidWorld os) #[.slice none 0 0] 8 rfl (by kernel_rfl) (by kernel_rfl) (by kernel_rfl) (by kernel_rfl) (by kernel_rfl) (laidWorld_met os _)) ?_
  intro W base args ds gs before hval0 hW _ _ hL _
  have hval : ∀ (j : Nat) t v, Tryz.f6.params[j]? = some t → args[j]? = some v → Value.okWide Tryz.prog W .any base t v := hval0
  have hW' := hW
  obtain ⟨p, q, hA0, hV0, rfl, hfz, hnd⟩ := hW
  have hA : DataW.TrodAll enc Tryz.prog W 0 (fun _ => true) true Tryz.f6.params.toList args.toList ds p := hA0
  have hV : DataW.TrodVars enc Tryz.prog W (fun _ => true) [] gs q := hV0
  rw [Tryz.params6] at hA hval
  obtain ⟨v0, d0, rfl, rfl, h0⟩ := trodAll_one hA
  obtain ⟨a1, xl, xc, rfl⟩ := okWide_slice Tryz.underlying22 (hval 0 22 v0 rfl rfl)
  have h0k := h0
  obtain ⟨fu, hf⟩ := h0
  obtain ⟨rfl, rfl⟩ : gs = [] ∧ q = [] := by
    cases gs with
    | nil => exact ⟨rfl, hV⟩
    | cons g r => exact absurd hV (by intro h; cases h)
  have hltp : ∀ x ∈ p, x.block < W.heap.size := fun x hx => by simpa using hW'.lt x (by simp [hx])
  obtain ⟨zs, hx⟩ : ∃ zs : List Int, X.RV W (fun b => b < W.heap.size) X.noMu (.vslice (zs.map (.int .i64))) (.slice a1 xl xc) := by
    rcases open_ints Tryz.underlying22 Tryz.underlying3 cells3 hf with ⟨hcs, hx⟩ | ⟨a, len', cap', zs, hcs, _, hl, _, hz, hx, hcell, hwz⟩
    · simp [Value.cells] at hcs
      obtain ⟨rfl, rfl, rfl⟩ := hcs
      exact ⟨[], .vslice0 _ _ _⟩
    · simp [Value.cells] at hcs
      obtain ⟨rfl, rfl, rfl⟩ := hcs
      simp only [if_true] at hz
      rcases Nat.eq_zero_or_pos xl with h0 | hpos
      · subst h0
        exact ⟨[], .vslice0 _ _ _⟩
      · obtain ⟨xb, xo, spot⟩ := a
        have hspot : spot = none := by simpa [Addr.add] using World.cell?_spot (hcell 0 (by omega))
        subst hspot
        have hc : ∀ j, j < xl → W.cell? ⟨xb, xo + j, none⟩ = some (.int .i64 (zs.getD j 0)) := fun j hj => by rw [← add_plain]; exact hcell j (by omega)
        have h00 := hc 0 hpos
        obtain ⟨c, ty, fz, hb⟩ : ∃ c ty fz, W.heap[xb]? = some (.cells c ty fz) := by
          unfold World.cell? at h00
          split at h00
          · rename_i c ty fz hb; exact ⟨c, ty, fz, hb⟩
          · cases h00
        have hlen : (zs.take xl).length = xl := by rw [List.length_take]; omega
        refine ⟨zs.take xl, ?_⟩
        have := X.RV.ints (W := W) (zs := zs.take xl) (k := .i64) (rb := xb) (off := xo) (cap := xc) hb (fun i z hi => by
          have hlt : i < xl := by have := (List.getElem?_eq_some_iff.1 hi).1; omega
          have h1 := hc i hlt
          rw [X.cell_of hb] at h1
          rw [h1]
          rw [List.getElem?_take_of_lt hlt] at hi
          rw [List.getD_eq_getElem?_getD, hi]; rfl) (by omega)
        rwa [hlen] at this
  have e1 : Rows.roomsHoldSpec.fn H ([d0] ++ []) = { results := [.lit (.bool true)], args := [d0] } := by simp [Rows.roomsHoldSpec]
  refine (law_runs zs W _ hx).mono fun e W' ⟨he, bel⟩ => ?_
  subst he
  refine ⟨_, rfl, _, _, _, [], p, [], hW', ?_, ?_, ?_, bel.frame _, fun h => by cases h⟩
  · rw [e1]; exact trodAll_mk1 (shut_bool Tryz.underlying4 true)
  · rw [e1]; exact trodAll_mk1 (Below.trod laidOut (by kernel_rfl) (of_decide_eq_true (by kernel_rfl)) h0k bel hltp)
  · rw [e1]; rfl

theorem f_holds : Rows.RoomsHoldSaid :=
  OpenClaim.holds_of_wide 6 Tryz.f6 rfl rfl rfl rfl rfl rfl rfl ⟨rfl, rfl, rfl, rfl, rfl⟩ rfl rfl rfl rfl rfl (by kernel_rfl) Tryz.func6 (by kernel_rfl)
    (of_decide_eq_true (by kernel_rfl)) (by unfold Func.isWrapper; rw [if_neg (of_decide_eq_false (by kernel_rfl))]; exact ⟨rfl, rfl⟩)
    (fun os started H enc _ => law_lifted os started H enc)
end Go.Proofs.YtplginnkececaaaGreatDoor
