/- From a run of the engine's to the call of a law. No condition. -/
import Derived.Test.YtkaigfcjejabfaaGreatDoorXF
import Derived.Below
set_option linter.unusedSimpArgs false
set_option linter.unusedVariables false
namespace Go.Proofs.YtkaigfcjejabfaaGreatDoor
open Go
namespace X

section
variable {P : Program} {G : Nat → Option AV} {X : Prog}

theorem calls_of_run (hm : P.follows .mixedOrders = true) (hX : ProgOK P G X) (hP : PrimOK P G X) {k f : Nat} {v : AV} {b : Bool} {H : Heap} (h : run X k f [v] [] = some (.bool b, H)) {W : World} {x : Value}
    (hx : RV W (fun b => b < W.heap.size) noMu v x) (hg : ∀ g v, G g = some v → RV W (fun b => b < W.heap.size) noMu v (.pointer (some ⟨g, 0, none⟩))) {fn : Func} {c : Code} (hf : P.funcs[f]? = some fn) (hb : fn.body = some c) (hn : (fn.name == "runtime.NumGoroutine") = false) :
    Calls P f #[x] W fun e w' => e = .returned (.bool b) ∧ RowKit.Below W.heap.size W w' := by
  have hC := run_ok hm hX hP k
  have := hC f [v] [] _ h W.heap.size _ noMu W [x] (HR.empty (fun b hb => hb) hg) (.cons _ _ _ _ _ hx (.nil _))
  unfold CallOK at this
  have hcall : (callFunc f [x].toArray).run P W = .ok (.enter f #[x]) W := by
    have hne : ¬ fn.name = "runtime.NumGoroutine" := by simpa using hn
    simp [callFunc, hf, hne, hb]
  rw [hcall] at this
  refine this.mono ?_
  rintro e w' ⟨y, rfl, σ', μ', _, hv, hs⟩
  exact ⟨by rw [hv.bool_inv], hs.out.os, hs.out.tape, hs.out.output, hs.size, hs.old⟩

/-- A slice of numbers, as it lies in a block. -/
theorem RV.ints {W : World} {zs : List Int} {k : IntKind} {rb off cap : Nat} {c : Array Value} {ty : TypeId} {fz : Nat × Nat} (hb : W.heap[rb]? = some (.cells c ty fz)) (hc : ∀ i z, zs[i]? = some z → c[off + i]? = some (.int k z)) (hl : zs.length ≤ cap) :
    RV W (fun b => b < W.heap.size) noMu (.vslice (zs.map (.int k))) (.slice (some ⟨rb, off, none⟩) zs.length cap) := by
  have hfl : (zs.map (AV.int k)).flatMap AV.cells = zs.map (.int k) := by
    clear hc hl
    induction zs with
    | nil => rfl
    | cons z zs ih =>
      simp only [List.map_cons, List.flatMap_cons, AV.cells, List.singleton_append]
      rw [ih]
  have := RV.vslice (w := W) (σ := fun b => b < W.heap.size) noMu (zs.map (.int k)) rb off c ty fz (zs.map (.int k)) 1 cap (by
      by_cases h : rb < W.heap.size
      · exact h
      · rw [Array.getElem?_eq_none (by omega)] at hb; cases hb) hb ?_ ?_ ?_ (by simpa using hl)
  · simpa using this
  · intro i hi
    rw [List.getElem?_map]
    have hi' : i < zs.length := by simpa using hi
    rw [List.getElem?_eq_getElem hi', hc i _ (List.getElem?_eq_getElem hi')]
    rfl
  · intro e he
    obtain ⟨z, _, rfl⟩ := List.mem_map.1 he
    exact ⟨rfl, rfl⟩
  · rw [hfl]
    clear hfl hb hc hl
    induction zs with
    | nil => exact .nil _
    | cons z zs ih => exact .cons _ _ _ _ _ (.int _ _ _) ih
end
end X
end Go.Proofs.YtkaigfcjejabfaaGreatDoor
