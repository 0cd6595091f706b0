/- What the library's bare functions answer, and a closed call. No condition. -/
import Derived.Test.YtplginnkececaaaGreatDoorZXY
import Derived.WalkKit
set_option maxRecDepth 100000
namespace Go.Proofs.YtplginnkececaaaGreatDoor
open Go
namespace X

theorem prim_cmp (a b : List UInt8) : PureOK Tryz.prog noG 168 [.str a, .str b] (.int .i64 (Extern.BytealgCompare.cmp ⟨a.toArray⟩ ⟨b.toArray⟩)) := by
  intro σ w xs h1 hg hx
  cases hx with
  | cons _ _ x _ xs hx hxs =>
    cases hxs with
    | cons _ _ y _ ys hy hys =>
      cases hys
      rw [hx.str_inv, hy.str_inv]
      have : (callFunc 168 [Value.string ⟨a.toArray⟩, Value.string ⟨b.toArray⟩].toArray).run Tryz.prog w = .ok (.value (.int .i64 (Extern.BytealgCompare.cmp ⟨a.toArray⟩ ⟨b.toArray⟩))) w := by
        rw [run_callFunc_extern (e := Extern.BytealgCompare.compare) Tryz.func168 (by kernel_rfl) (by kernel_rfl) (by kernel_rfl) (by kernel_rfl)]
        rfl
      unfold CallOK
      rw [this]
      exact ⟨.int _ _ _, fun b hb => rfl, Nat.le_refl _, Same.refl w⟩

theorem prim_ix (a : List UInt8) (c : Int) : PureOK Tryz.prog noG 239 [.str a, .int .u8 c] (.int .i64 (ixB a c)) := by
  intro σ w xs h1 hg hx
  cases hx with
  | cons _ _ x _ xs hx hxs =>
    cases hxs with
    | cons _ _ y _ ys hy hys =>
      cases hys
      rw [hx.str_inv, hy.int_inv]
      have : (callFunc 239 [Value.string ⟨a.toArray⟩, Value.int .u8 c].toArray).run Tryz.prog w = .ok (.value (.int .i64 (ixB a c))) w := by
        rw [run_callFunc_extern (e := Extern.BytealgIndexByte.indexByte) Tryz.func239 (by kernel_rfl) (by kernel_rfl) (by kernel_rfl) (by kernel_rfl)]
        have he : Extern.BytealgIndexByte.indexByte [Value.string ⟨a.toArray⟩, Value.int .u8 c].toArray = (match (List.range (ByteArray.mk a.toArray).size).find? (fun i => (ByteArray.mk a.toArray)[i]! == c.toNat.toUInt8) with | some i => (pure (goInt i) : Sem Value) | none => pure (goInt (-1))) := rfl
        rw [he]
        unfold ixB
        cases hf : (List.range (ByteArray.mk a.toArray).size).find? (fun i => (ByteArray.mk a.toArray)[i]! == c.toNat.toUInt8) <;> rfl
      unfold CallOK
      rw [this]
      exact ⟨.int _ _ _, fun b hb => rfl, Nat.le_refl _, Same.refl w⟩

theorem prim_ok : PrimOK Tryz.prog noG prog := by
  intro f args v h0
  have h : primOf f args = some v := h0
  clear h0
  unfold primOf at h
  cases hb : Nat.beq f 168 with
  | false =>
    rw [hb] at h
    simp only [cond_false] at h
    cases hb2 : Nat.beq f 239 with
    | false => rw [hb2] at h; cases h
    | true =>
      rw [hb2] at h
      obtain rfl := Nat.eq_of_beq_eq_true hb2
      simp only [cond_true] at h
      split at h
      · cases h; exact prim_ix _ _
      · cases h
  | true =>
    rw [hb] at h
    obtain rfl := Nat.eq_of_beq_eq_true hb
    simp only [cond_true] at h
    split at h
    · cases h; exact prim_cmp _ _
    · cases h

theorem mixed : Tryz.prog.follows .mixedOrders = true := by kernel_rfl

end X
end Go.Proofs.YtplginnkececaaaGreatDoor
