/- Loops over maps: that they are sound. No condition. MADE BY PROGRAM (xgen). -/
import Derived.Test.YtkaigfcjejabfaaGreatDoorYM0
import Derived.Test.YtkaigfcjejabfaaGreatDoorXPR
set_option maxRecDepth 100000
set_option linter.unusedVariables false
namespace Go.Proofs.YtkaigfcjejabfaaGreatDoor
open Go
namespace X
/-! ### match_Stable -/
noncomputable def c_6 : Code := (Tryz.f6.body).getD .skip
noncomputable def rg_6 : Code := seqL (seqR (seqR (seqR (seqR (seqR (seqR (seqR (seqR (seqR c_6)))))))))
theorem sh_6 : Shape (rOps (seqL (loopIn (blkIn (seqR rg_6))))) (rOps (seqL (blkIn (seqR (seqR (loopIn (blkIn (seqR rg_6)))))))) 142 143 144 145 161 :=
  ⟨⟨(rOps (seqL (loopIn (blkIn (seqR rg_6)))))[0]!, (rOps (seqL (loopIn (blkIn (seqR rg_6)))))[1]!, by kernel_rfl, by kernel_rfl, by kernel_rfl, by kernel_rfl, by kernel_rfl, by kernel_rfl, by kernel_rfl⟩, ⟨(rOps (seqL (blkIn (seqR (seqR (loopIn (blkIn (seqR rg_6))))))))[0]!, by kernel_rfl, by kernel_rfl, by kernel_rfl, by kernel_rfl⟩, by decide, by decide⟩
theorem rok_6 : SoundW Tryz.prog noG 161 rg_6 (RangeW prog xs0_6 (.tmp 141) xb_6 [1, 16, 142] 6 142 145 [143, 144, 145]) := by
  have hc : rg_6 = .seq (.region 27 (rOps (seqL rg_6)) false) (.block 5 (.loop (.seq (.region 28 (rOps (seqL (loopIn (blkIn (seqR rg_6))))) false) (.seq (.cond (.tmp 144) .skip (.exit 5)) (.block 6 (.seq (.region 29 (rOps (seqL (blkIn (seqR (seqR (loopIn (blkIn (seqR rg_6)))))))) false) (seqR (blkIn (seqR (seqR (loopIn (blkIn (seqR rg_6))))))))))))) := by kernel_rfl
  have := range_ok (P := Tryz.prog) (G := noG) (X := prog) (n := 161) (h := h6) mixed prog_ok prim_ok (out := 5) (nxb := 6) (id0 := 27) (id1 := 28) (id2 := 29) sh_6 (body := seqR (blkIn (seqR (seqR (loopIn (blkIn (seqR rg_6))))))) (blk := 6) (y := xy_6) (xs0 := xs0_6) (xs2 := xs2_6) (own0 := h6.own 27) (own := h6.own 29) (l := [1, 16, 142]) (keep := [1, 16, 142]) (ops0 := (rOps (seqL rg_6))) (s0 := 1) (by kernel_rfl) (o0 := (rOps (seqL rg_6))[1]!) (t := 64) (kt := 9) (el := 3) (x := .tmp 141) (x0 := .tmp 141) (by kernel_rfl) (by kernel_rfl) (by kernel_rfl) (by kernel_rfl) (by kernel_rfl) (by kernel_rfl) (fits_all (by kernel_rfl)) (by kernel_rfl) (fits_all (by kernel_rfl)) (by kernel_rfl) (by kernel_rfl) (by kernel_rfl) (by kernel_rfl)
  rw [hc]
  exact this
theorem sw_6 : SoundW Tryz.prog noG 161 c_6 (SeqW prog [px6_0, px6_1, px6_2, px6_3, px6_4, px6_5, px6_6, px6_7, px6_8] fun e H T => RangeW prog xs0_6 (.tmp 141) xb_6 [1, 16, 142] 6 142 145 [143, 144, 145] e H (onNormal (fun e' H' => ∃ y e'' H'', code prog (R prog) Li xr_6 e' H' = some (y, e'', H'') ∧ T y e'' H'') T)) :=
  (SoundW.cons (a := seqL c_6) (b := seqR c_6) (by kernel_rfl) (sound_inf mixed prog_ok prim_ok (h := h6) (blk := 0) (x := px6_0) (by kernel_rfl) (by kernel_rfl))
  (SoundW.cons (a := seqL (seqR c_6)) (b := seqR (seqR c_6)) (by kernel_rfl) (sound_inf mixed prog_ok prim_ok (h := h6) (blk := 0) (x := px6_1) (by kernel_rfl) (by kernel_rfl))
  (SoundW.cons (a := seqL (seqR (seqR c_6))) (b := seqR (seqR (seqR c_6))) (by kernel_rfl) (sound_inf mixed prog_ok prim_ok (h := h6) (blk := 0) (x := px6_2) (by kernel_rfl) (by kernel_rfl))
  (SoundW.cons (a := seqL (seqR (seqR (seqR c_6)))) (b := seqR (seqR (seqR (seqR c_6)))) (by kernel_rfl) (sound_inf mixed prog_ok prim_ok (h := h6) (blk := 0) (x := px6_3) (by kernel_rfl) (by kernel_rfl))
  (SoundW.cons (a := seqL (seqR (seqR (seqR (seqR c_6))))) (b := seqR (seqR (seqR (seqR (seqR c_6))))) (by kernel_rfl) (sound_inf mixed prog_ok prim_ok (h := h6) (blk := 0) (x := px6_4) (by kernel_rfl) (by kernel_rfl))
  (SoundW.cons (a := seqL (seqR (seqR (seqR (seqR (seqR c_6)))))) (b := seqR (seqR (seqR (seqR (seqR (seqR c_6)))))) (by kernel_rfl) (sound_inf mixed prog_ok prim_ok (h := h6) (blk := 0) (x := px6_5) (by kernel_rfl) (by kernel_rfl))
  (SoundW.cons (a := seqL (seqR (seqR (seqR (seqR (seqR (seqR c_6))))))) (b := seqR (seqR (seqR (seqR (seqR (seqR (seqR c_6))))))) (by kernel_rfl) (sound_inf mixed prog_ok prim_ok (h := h6) (blk := 0) (x := px6_6) (by kernel_rfl) (by kernel_rfl))
  (SoundW.cons (a := seqL (seqR (seqR (seqR (seqR (seqR (seqR (seqR c_6)))))))) (b := seqR (seqR (seqR (seqR (seqR (seqR (seqR (seqR c_6)))))))) (by kernel_rfl) (sound_inf mixed prog_ok prim_ok (h := h6) (blk := 0) (x := px6_7) (by kernel_rfl) (by kernel_rfl))
  (SoundW.cons (a := seqL (seqR (seqR (seqR (seqR (seqR (seqR (seqR (seqR c_6))))))))) (b := seqR (seqR (seqR (seqR (seqR (seqR (seqR (seqR (seqR c_6))))))))) (by kernel_rfl) (sound_inf mixed prog_ok prim_ok (h := h6) (blk := 0) (x := px6_8) (by kernel_rfl) (by kernel_rfl))
  (SoundW.two (a := rg_6) (b := seqR (seqR (seqR (seqR (seqR (seqR (seqR (seqR (seqR (seqR c_6)))))))))) (by kernel_rfl) rok_6 (sound_inf mixed prog_ok prim_ok (h := h6) (blk := 0) (by kernel_rfl) (by kernel_rfl))))))))))))
/-- What is left to show of match_Stable. -/
theorem pw_match_Stable {args : List AV} (hna : args.length ≤ 161) {v : AV} {e0 : Env} {H0 : Heap} {b : Nat} {ks vs : List AV}
    (hA : code prog (R prog) Li (seqAll ([px6_0, px6_1, px6_2, px6_3, px6_4, px6_5, px6_6, px6_7, px6_8] ++ [.region xs0_6 []])) (env0 args) [] = some (.normal, e0, H0)) (hm : e0 141 = .map b) (hH : H0[b]? = some (.map ks vs)) (hl : ks.length = vs.length) (hk : ks.all (ownOnly [] deep) = true) (hv : vs.all (ownOnly [] deep) = true)
    (hF : FoldW prog xb_6 6 142 145 [143, 144, 145] ks.length (ks.zip vs) (keepEnv [1, 16, 142] (e0.set 142 (.iter H0.length))) (H0.set b .dead ++ [.dead]) fun e H =>
      ∃ y e'' H'', code prog (R prog) Li xr_6 e H = some (y, e'', H'') ∧ (y = .normal ∨ y = .ret) ∧ ∃ u, resultsOf [.tmp 4, .tmp 5] e'' H'' = some u ∧ snap H'' deep u = some v) : PureOK Tryz.prog noG f_match_Stable args v :=
  pure_w (g := Tryz.f6) (c := c_6) Tryz.func6 (by kernel_rfl) (by kernel_rfl) sw_6 (by kernel_rfl) (by kernel_rfl) hna hA hm hH hl hk hv hF
end X
end Go.Proofs.YtkaigfcjejabfaaGreatDoor
