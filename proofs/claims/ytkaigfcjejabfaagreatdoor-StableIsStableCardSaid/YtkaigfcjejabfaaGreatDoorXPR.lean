/- What the library's bare functions answer, and a closed call. No condition. -/
import Derived.Test.YtkaigfcjejabfaaGreatDoorXY
import Derived.WalkKit
set_option maxRecDepth 100000
namespace Go.Proofs.YtkaigfcjejabfaaGreatDoor
open Go
namespace X

theorem prim_cmp (a b : List UInt8) : PureOK Tryz.prog noG 86 [.str a, .str b] (.int .i64 (Extern.BytealgCompare.cmp ⟨a.toArray⟩ ⟨b.toArray⟩)) := by
  intro σ w xs h1 hg hx
  cases hx with
  | cons _ _ x _ xs hx hxs =>
    cases hxs with
    | cons _ _ y _ ys hy hys =>
      cases hys
      rw [hx.str_inv, hy.str_inv]
      have : (callFunc 86 [Value.string ⟨a.toArray⟩, Value.string ⟨b.toArray⟩].toArray).run Tryz.prog w = .ok (.value (.int .i64 (Extern.BytealgCompare.cmp ⟨a.toArray⟩ ⟨b.toArray⟩))) w := by
        rw [run_callFunc_extern (e := Extern.BytealgCompare.compare) Tryz.func86 (by kernel_rfl) (by kernel_rfl) (by kernel_rfl) (by kernel_rfl)]
        rfl
      unfold CallOK
      rw [this]
      exact ⟨.int _ _ _, fun b hb => rfl, Nat.le_refl _, Same.refl w⟩

theorem prim_ok : PrimOK Tryz.prog noG prog := by
  intro f args v h0
  have h : primOf f args = some v := h0
  clear h0
  unfold primOf at h
  cases hb : Nat.beq f 86 with
  | false => rw [hb] at h; cases h
  | true =>
    rw [hb] at h
    obtain rfl := Nat.eq_of_beq_eq_true hb
    simp only [cond_true] at h
    split at h
    · cases h; exact prim_cmp _ _
    · cases h

theorem mixed : Tryz.prog.follows .mixedOrders = true := by kernel_rfl

theorem ready_run : ((run prog 80 12 [] []).bind fun r => snap r.2 deep r.1) = some (.bool true) := by kernel_rfl

theorem ready_pure : PureOK Tryz.prog noG 12 [] (.bool true) := by
  have h := ready_run
  rw [Option.bind_eq_some_iff] at h
  obtain ⟨r, h1, h2⟩ := h
  exact pure_ok (run_ok mixed prog_ok prim_ok 80) h1 h2
#print axioms ready_pure
end X
end Go.Proofs.YtkaigfcjejabfaaGreatDoor
