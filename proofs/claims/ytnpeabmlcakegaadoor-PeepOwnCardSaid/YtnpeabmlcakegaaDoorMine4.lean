/- Part 4 of the proof: words, walks and plain laws that the statement's own text (YtnpeabmlcakegaaDoorMine) uses. No condition of its own. -/
import Derived.Test.YtnpeabmlcakegaaDoorMine3
set_option maxHeartbeats 8000000
set_option maxRecDepth 100000
namespace Go.Proofs.YtnpeabmlcakegaaDoor.PAll
open Go.RowKit Go.Proofs.YtnpeabmlcakegaaDoorW.PrintWords Go.Proofs.YtnpeabmlcakegaaDoorW.PrintLast Go.Proofs.YtnpeabmlcakegaaDoorW.PrintMore
attribute [local go_sem] z9 qe ql xb xa xp xn qL qK qZ qY
set_option linter.unusedVariables false
set_option linter.unusedSimpArgs false
attribute [local go_sem high] eqA32
mutual
def zt.j0 : Nat → Int → Bool → Int → Int → Int → Int → ByteArray → Int → Int → Int → Int → Option (Bool)
 | 0, _, _, _, _, _, _, _, _, _, _, _ => none
 | k + 1, x3, x38, x348000, x348001, x348002, x348003, x348004, x348005, x348006, x348007, x348008 => if x38 = true then (some false) else ((zr.f x3 2).bind fun t357 => (if t357 = true then (if x348001 < 0 then (zt.j1 k x3 true x348000 x348001 x348002 x348003 x348004 x348005 x348006 x348007 x348008) else (if x348001 > 255 then (zt.j1 k x3 true x348000 x348001 x348002 x348003 x348004 x348005 x348006 x348007 x348008) else (if x348002 = 1 then (zt.j1 k x3 (x348001 != 0) x348000 x348001 x348002 x348003 x348004 x348005 x348006 x348007 x348008) else (zt.j1 k x3 false x348000 x348001 x348002 x348003 x348004 x348005 x348006 x348007 x348008)))) else (zt.j1 k x3 false x348000 x348001 x348002 x348003 x348004 x348005 x348006 x348007 x348008)))
def zt.j1 : Nat → Int → Bool → Int → Int → Int → Int → ByteArray → Int → Int → Int → Int → Option (Bool)
 | 0, _, _, _, _, _, _, _, _, _, _, _ => none
 | k + 1, x3, x60, x348000, x348001, x348002, x348003, x348004, x348005, x348006, x348007, x348008 => if x60 = true then (some false) else ((zr.f x3 8).bind fun t358 => (if t358 = true then ((zD.f k x348000 x348001 x348002 x348003 x348004 x348005 x348006 x348007 x348008).bind fun t359 => (some t359)) else (if x348003 = 0 then (if x348004.toList = ([] : List UInt8) then ((zr.f x3 4).bind fun t360 => (if t360 = true then (if x348002 ≥ 0 then (if x348002 ≤ 255 then (some true) else (some (x348002 == 0))) else (some (x348002 == 0))) else (some (x348002 == 0)))) else (some false)) else (some false))))
end
def zt.f (k : Nat) (a0_0 : Int) (a0_1 : Int) (a0_2 : Int) (a0_3 : Int) (a0_4 : ByteArray) (a0_5 : Int) (a0_6 : Int) (a0_7 : Int) (a0_8 : Int) : Option (Bool) := (zX.f a0_0).bind fun bt348 => ((zr.f bt348.1 16).bind fun t352 => (if t352 = true then ((zr.f bt348.1 1).bind fun t353 => (if t353 = true then (zt.j0 k bt348.1 false a0_0 a0_1 a0_2 a0_3 a0_4 a0_5 a0_6 a0_7 a0_8) else ((zr.f bt348.1 2).bind fun t354 => (if t354 = true then (zt.j0 k bt348.1 false a0_0 a0_1 a0_2 a0_3 a0_4 a0_5 a0_6 a0_7 a0_8) else (zt.j0 k bt348.1 (a0_1 != 0) a0_0 a0_1 a0_2 a0_3 a0_4 a0_5 a0_6 a0_7 a0_8))))) else (if (!(a0_5 == 0) || (!(a0_6 == 0) || (!(a0_7 == 0) || (!(a0_8 == 0))))) = true then (zt.j0 k bt348.1 true a0_0 a0_1 a0_2 a0_3 a0_4 a0_5 a0_6 a0_7 a0_8) else ((zr.f bt348.1 1).bind fun t355 => (if t355 = true then (zt.j0 k bt348.1 false a0_0 a0_1 a0_2 a0_3 a0_4 a0_5 a0_6 a0_7 a0_8) else ((zr.f bt348.1 2).bind fun t356 => (if t356 = true then (zt.j0 k bt348.1 false a0_0 a0_1 a0_2 a0_3 a0_4 a0_5 a0_6 a0_7 a0_8) else (zt.j0 k bt348.1 (a0_1 != 0) a0_0 a0_1 a0_2 a0_3 a0_4 a0_5 a0_6 a0_7 a0_8))))))))
theorem zt.calls (k : Nat) (a0_0 a0_1 a0_2 a0_3 : Int) (a0_4 : ByteArray) (a0_5 a0_6 a0_7 a0_8 : Int) (r : Bool) (w : World) (hG : GW w) (h : zt.f k a0_0 a0_1 a0_2 a0_3 a0_4 a0_5 a0_6 a0_7 a0_8 = some r) :
  Calls Tryd.prog 40 #[.agg #[.int .i64 a0_0, .int .i64 a0_1, .int .i64 a0_2, .int .i64 a0_3, .string a0_4, .int .u64 a0_5, .int .u64 a0_6, .int .u64 a0_7, .int .u64 a0_8]] w fun e w' => e = .returned (.bool r) ∧ Below w.heap.size w w' := by
 have hu34 := Tryd.underlying34
 have hu32 := Tryd.underlying32
 have HG := zb.mk hG
 clear hG
 have HB := zb.mk (Below.refl w.heap.size w)
 have H : ((zX.f a0_0).bind fun bt348 => ((zr.f bt348.1 16).bind fun t352 => (if t352 = true then ((zr.f bt348.1 1).bind fun t353 => (if t353 = true then (zt.j0 k bt348.1 false a0_0 a0_1 a0_2 a0_3 a0_4 a0_5 a0_6 a0_7 a0_8) else ((zr.f bt348.1 2).bind fun t354 => (if t354 = true then (zt.j0 k bt348.1 false a0_0 a0_1 a0_2 a0_3 a0_4 a0_5 a0_6 a0_7 a0_8) else (zt.j0 k bt348.1 (a0_1 != 0) a0_0 a0_1 a0_2 a0_3 a0_4 a0_5 a0_6 a0_7 a0_8))))) else (if (!(a0_5 == 0) || (!(a0_6 == 0) || (!(a0_7 == 0) || (!(a0_8 == 0))))) = true then (zt.j0 k bt348.1 true a0_0 a0_1 a0_2 a0_3 a0_4 a0_5 a0_6 a0_7 a0_8) else ((zr.f bt348.1 1).bind fun t355 => (if t355 = true then (zt.j0 k bt348.1 false a0_0 a0_1 a0_2 a0_3 a0_4 a0_5 a0_6 a0_7 a0_8) else ((zr.f bt348.1 2).bind fun t356 => (if t356 = true then (zt.j0 k bt348.1 false a0_0 a0_1 a0_2 a0_3 a0_4 a0_5 a0_6 a0_7 a0_8) else (zt.j0 k bt348.1 (a0_1 != 0) a0_0 a0_1 a0_2 a0_3 a0_4 a0_5 a0_6 a0_7 a0_8))))))))) = some r := h
 clear h
 replace H := zO H; obtain ⟨⟨t348, t349, t350⟩, A2, H⟩ := H; try dsimp only at H
 have HC3 := zb.mk H
 clear H
 go_enter Tryd.func40, Tryd.ntmps40
 go_upto_region 3 with (first | ((with_reducible refine z3 (N := 1) rfl ?_); refine qk ?hg (N := 1) ?hd (cs := #[.int .i64 a0_0, .int .i64 a0_1, .int .i64 a0_2, .int .i64 a0_3, .string a0_4, .int .u64 a0_5, .int .u64 a0_6, .int .u64 a0_7, .int .u64 a0_8]) (t := 34) ?hr ?_; (case hd => rfl); (case hg => rfl); (case hr => (go_simp; done)); intro gb347 hg w4 hbox hb; have BK347 := zb.mk (hbox); have GW347 := zb.mk ((by rw [hg]; exact (zj (bl HB.out)) : w.heap.size ≤ gb347)); have GE347 := zb.mk ((by rw [hg]; exact (zj (bl HB.out)) : w.heap.size ≤ gb347)); replace HB := bst HB hb; clear hb hbox hg; obtain ⟨hcz5_0, hcz5_1, hcz5_2, hcz5_3, hcz5_4, hcz5_5, hcz5_6, hcz5_7, hcz5_8⟩ := zS BK347.out; obtain ⟨hfz5_0, hfz5_1, hfz5_2, hfz5_3, hfz5_4, hfz5_5, hfz5_6, hfz5_7, hfz5_8⟩ := zR BK347.out) | ((with_reducible refine zc (f := 39) rfl ?_); refine zh (some 10) rfl rfl Tryd.func39 (by kernel_rfl) rfl #[.int .i64 a0_0] rfl hq ?_; (with_reducible refine (zX.calls a0_0 t348 t349 t350 _ ?side1 A2.out).mono ?_); (case side1 => exact GW.below HG.out bsq); rintro e w' ⟨rfl, ⟨nd, rfl⟩⟩; refine ⟨_, rfl, ?_⟩; (try (rw [xm w4]; generalize hq_ : World.drewN w4 _ = w4; replace BK347 : zb (w4.heap[gb347]? = some (.cells #[.int .i64 a0_0, .int .i64 a0_1, .int .i64 a0_2, .int .i64 a0_3, .string a0_4, .int .u64 a0_5, .int .u64 a0_6, .int .u64 a0_7, .int .u64 a0_8] 34 (0, 0))) := ⟨by rw [← hq_]; exact (bx BK347.out)⟩; replace HB : zb (Below w.heap.size w w4) := ⟨by rw [← hq_]; exact bsq⟩; clear hq_))) | ((with_reducible refine z3 (N := 6) rfl ?_); refine qk ?hg (N := 6) ?hd (cs := #[.int .u64 0, .int .u64 0, .int .u64 0, .int .u64 0]) (t := 32) ?hr ?_; (case hd => rfl); (case hg => rfl); (case hr => (go_simp; done)); intro gb351 hg w6 hbox hb; have BK351 := zb.mk (hbox); have GW351 := zb.mk ((by rw [hg]; exact (zj bsq) : w.heap.size ≤ gb351)); have GE351 := zb.mk ((by rw [hg]; exact (zj bsq) : w.heap.size ≤ gb351)); replace HB := zb.mk (z6 bsq hb); have NB347_351 := zb.mk ((by rw [hg]; exact Nat.ne_of_lt (xS (g := gb347) (o := .cells #[.int .i64 a0_0, .int .i64 a0_1, .int .i64 a0_2, .int .i64 a0_3, .string a0_4, .int .u64 a0_5, .int .u64 a0_6, .int .u64 a0_7, .int .u64 a0_8] 34 (0, 0)) (bx BK347.out)) : gb347 ≠ gb351)); have NB351_347 := zb.mk ((by rw [hg]; exact Nat.ne_of_gt (xS (g := gb347) (o := .cells #[.int .i64 a0_0, .int .i64 a0_1, .int .i64 a0_2, .int .i64 a0_3, .string a0_4, .int .u64 a0_5, .int .u64 a0_6, .int .u64 a0_7, .int .u64 a0_8] 34 (0, 0)) (bx BK347.out)) : gb351 ≠ gb347)); replace BK347 := zb.mk (qA (g := gb347) (o := .cells #[.int .i64 a0_0, .int .i64 a0_1, .int .i64 a0_2, .int .i64 a0_3, .string a0_4, .int .u64 a0_5, .int .u64 a0_6, .int .u64 a0_7, .int .u64 a0_8] 34 (0, 0)) (bx BK347.out) hb); clear hb hbox hg; have hnb7 := NB351_347.out; have hnc7 := NB347_351.out; obtain ⟨hcz8_0, hcz8_1, hcz8_2, hcz8_3⟩ := blk_c4 BK351.out; obtain ⟨hfz8_0, hfz8_1, hfz8_2, hfz8_3⟩ := blk_f4 BK351.out) | ((with_reducible refine zM (t := 32) (p := 6) rfl ?_); refine zB (t := 32) (p := 6) (v := ?vo_w9) (w1 := (xr w6 gb351 #[.int .u64 0, .int .u64 0, .int .u64 0, .int .u64 0])) ?hg ?ho ?hn ?hr ?_; (case ho => rfl); (case hg => rfl); (case hn => rfl); (case hr => (go_simp; rfl)); intro w9 hw; replace BK347 : zb (w9.heap[gb347]? = some (.cells #[.int .i64 a0_0, .int .i64 a0_1, .int .i64 a0_2, .int .i64 a0_3, .string a0_4, .int .u64 a0_5, .int .u64 a0_6, .int .u64 a0_7, .int .u64 a0_8] 34 (0, 0))) := ⟨(by rw [hw]; exact (by (with_reducible skip); refine blk_setsfar ?_ NB347_351.out _; (with_reducible skip); exact BK347.out))⟩; replace BK351 : zb (w9.heap[gb351]? = some (.cells #[.int .u64 0, .int .u64 0, .int .u64 0, .int .u64 0] 32 (0, 0))) := ⟨(by rw [hw]; exact (by (with_reducible skip); refine xd (cs := #[.int .u64 0, .int .u64 0, .int .u64 0, .int .u64 0]) ?_ _ rfl; (with_reducible skip); exact BK351.out))⟩; replace HB : zb (Below w.heap.size w w9) := ⟨(by rw [hw]; exact bsq)⟩; clear hw))
 (try simp only [Act.put, List.setIfInBounds_toArray, List.set_cons_zero, List.set_cons_succ])
 go_cut [38] (fun v38 wc => ∃ (kq : Nat) (x38_2 : Bool), v38 = .bool x38_2 ∧ zb (zt.j0 kq t348 x38_2 a0_0 a0_1 a0_2 a0_3 a0_4 a0_5 a0_6 a0_7 a0_8 = some r) ∧ zb (kq ≤ k) ∧ zb (wc.heap[gb347]? = some (.cells #[.int .i64 a0_0, .int .i64 a0_1, .int .i64 a0_2, .int .i64 a0_3, .string a0_4, .int .u64 a0_5, .int .u64 a0_6, .int .u64 a0_7, .int .u64 a0_8] 34 (0, 0))) ∧ zb (wc.heap[gb351]? = some (.cells #[.int .u64 0, .int .u64 0, .int .u64 0, .int .u64 0] 32 (0, 0))) ∧ zb (Below w.heap.size w wc))
 case first =>
  have H := HC3.out
  clear HC3
  replace H := zO H; obtain ⟨t352, A10, H⟩ := H
  by_cases c11 : t352 = true
  ·subst c11
   replace H := ifT H
   replace H := zO H; obtain ⟨t353, A12, H⟩ := H
   by_cases c13 : t353 = true
   ·subst c13
    replace H := ifT H
    have H' := zb.mk H
    clear H
    go_wp2_with (first | ((with_reducible refine zc (f := 41) rfl ?_); refine zh (some 16) rfl rfl Tryd.func41 (by kernel_rfl) rfl #[.int .i64 t348, .int .i64 16] rfl hq ?_; (with_reducible refine (zr.calls t348 16 true _ ?side1 A10.out).mono ?_); (case side1 => exact GW.below HG.out bsq); rintro e w' ⟨rfl, ⟨nd, rfl⟩⟩; refine ⟨_, rfl, ?_⟩) | (go_at_call 41; (with_reducible refine (zr.calls t348 1 true _ ?side1 A12.out).mono ?_); (case side1 => exact GW.below HG.out bsq); rintro e w' ⟨rfl, ⟨nd, rfl⟩⟩))
    go_meet
    case rel => exact ⟨_, (false), eq0, H', ⟨by omega⟩, ⟨by (with_reducible repeat (refine qy ?_ _)); exact BK347.out⟩, ⟨by (with_reducible repeat (refine qy ?_ _)); exact BK351.out⟩, ⟨bsq⟩⟩
   ·replace c13 := Bool.eq_false_iff.mpr c13
    subst c13
    replace H := ifF H
    replace H := zO H; obtain ⟨t354, A14, H⟩ := H
    by_cases c15 : t354 = true
    ·subst c15
     replace H := ifT H
     have H' := zb.mk H
     clear H
     go_wp2_with (first | ((with_reducible refine zc (f := 41) rfl ?_); refine zh (some 16) rfl rfl Tryd.func41 (by kernel_rfl) rfl #[.int .i64 t348, .int .i64 16] rfl hq ?_; (with_reducible refine (zr.calls t348 16 true _ ?side1 A10.out).mono ?_); (case side1 => exact GW.below HG.out bsq); rintro e w' ⟨rfl, ⟨nd, rfl⟩⟩; refine ⟨_, rfl, ?_⟩) | (go_at_call 41; (with_reducible refine (zr.calls t348 1 false _ ?side1 A12.out).mono ?_); (case side1 => exact GW.below HG.out bsq); rintro e w' ⟨rfl, ⟨nd, rfl⟩⟩) | (go_at_call 41; (with_reducible refine (zr.calls t348 2 true _ ?side1 A14.out).mono ?_); (case side1 => exact GW.below HG.out bsq); rintro e w' ⟨rfl, ⟨nd, rfl⟩⟩))
     go_meet
     case rel => exact ⟨_, (false), eq0, H', ⟨by omega⟩, ⟨by (with_reducible repeat (refine qy ?_ _)); exact BK347.out⟩, ⟨by (with_reducible repeat (refine qy ?_ _)); exact BK351.out⟩, ⟨bsq⟩⟩
    ·replace c15 := Bool.eq_false_iff.mpr c15
     subst c15
     replace H := ifF H
     have H' := zb.mk H
     clear H
     go_wp2_with (first | ((with_reducible refine zc (f := 41) rfl ?_); refine zh (some 16) rfl rfl Tryd.func41 (by kernel_rfl) rfl #[.int .i64 t348, .int .i64 16] rfl hq ?_; (with_reducible refine (zr.calls t348 16 true _ ?side1 A10.out).mono ?_); (case side1 => exact GW.below HG.out bsq); rintro e w' ⟨rfl, ⟨nd, rfl⟩⟩; refine ⟨_, rfl, ?_⟩) | (go_at_call 41; (with_reducible refine (zr.calls t348 1 false _ ?side1 A12.out).mono ?_); (case side1 => exact GW.below HG.out bsq); rintro e w' ⟨rfl, ⟨nd, rfl⟩⟩) | (go_at_call 41; (with_reducible refine (zr.calls t348 2 false _ ?side1 A14.out).mono ?_); (case side1 => exact GW.below HG.out bsq); rintro e w' ⟨rfl, ⟨nd, rfl⟩⟩; have hnb16 := NB347_351.out; have hnc16 := NB351_347.out; obtain ⟨hcz17_0, hcz17_1, hcz17_2, hcz17_3, hcz17_4, hcz17_5, hcz17_6, hcz17_7, hcz17_8⟩ := zS BK347.out; obtain ⟨hfz17_0, hfz17_1, hfz17_2, hfz17_3, hfz17_4, hfz17_5, hfz17_6, hfz17_7, hfz17_8⟩ := zR BK347.out))
     go_meet
     case rel => exact ⟨_, ((a0_1 != 0)), eq0, H', ⟨by omega⟩, ⟨by (with_reducible repeat (refine qy ?_ _)); exact BK347.out⟩, ⟨by (with_reducible repeat (refine qy ?_ _)); exact BK351.out⟩, ⟨bsq⟩⟩
  ·replace c11 := Bool.eq_false_iff.mpr c11
   subst c11
   replace H := ifF H
   by_cases c18 : (!(a0_5 == 0) || (!(a0_6 == 0) || (!(a0_7 == 0) || (!(a0_8 == 0))))) = true
   ·rw [if_pos c18] at H
    have c18b0 : (!(a0_5 == 0) || (!(a0_6 == 0) || (!(a0_7 == 0) || (!(a0_8 == 0))))) = true := c18
    clear c18
    (skip)
    have H' := zb.mk H
    clear H
    go_wp2_with (((with_reducible refine zc (f := 41) rfl ?_); refine zh (some 16) rfl rfl Tryd.func41 (by kernel_rfl) rfl #[.int .i64 t348, .int .i64 16] rfl hq ?_; (with_reducible refine (zr.calls t348 16 false _ ?side1 A10.out).mono ?_); (case side1 => exact GW.below HG.out bsq); rintro e w' ⟨rfl, ⟨nd, rfl⟩⟩; refine ⟨_, rfl, ?_⟩; have hnb19 := NB347_351.out; have hnc19 := NB351_347.out; obtain ⟨hcz20_0, hcz20_1, hcz20_2, hcz20_3, hcz20_4, hcz20_5, hcz20_6, hcz20_7, hcz20_8⟩ := zS BK347.out; obtain ⟨hfz20_0, hfz20_1, hfz20_2, hfz20_3, hfz20_4, hfz20_5, hfz20_6, hfz20_7, hfz20_8⟩ := zR BK347.out; obtain ⟨hcz21_0, hcz21_1, hcz21_2, hcz21_3⟩ := blk_c4 BK351.out; obtain ⟨hfz21_0, hfz21_1, hfz21_2, hfz21_3⟩ := blk_f4 BK351.out))
    go_meet
    case rel => exact ⟨_, (true), eq0, H', ⟨by omega⟩, ⟨by (with_reducible repeat (refine qy ?_ _)); exact BK347.out⟩, ⟨by (with_reducible repeat (refine qy ?_ _)); exact BK351.out⟩, ⟨bsq⟩⟩
   ·rw [if_neg c18] at H
    have c18b0 : (!(a0_5 == 0) || (!(a0_6 == 0) || (!(a0_7 == 0) || (!(a0_8 == 0))))) = false := by simpa using c18
    clear c18
    (skip)
    replace H := zO H; obtain ⟨t355, A22, H⟩ := H
    by_cases c23 : t355 = true
    ·subst c23
     replace H := ifT H
     have H' := zb.mk H
     clear H
     go_wp2_with (first | ((with_reducible refine zc (f := 41) rfl ?_); refine zh (some 16) rfl rfl Tryd.func41 (by kernel_rfl) rfl #[.int .i64 t348, .int .i64 16] rfl hq ?_; (with_reducible refine (zr.calls t348 16 false _ ?side1 A10.out).mono ?_); (case side1 => exact GW.below HG.out bsq); rintro e w' ⟨rfl, ⟨nd, rfl⟩⟩; refine ⟨_, rfl, ?_⟩; have hnb24 := NB347_351.out; have hnc24 := NB351_347.out; obtain ⟨hcz25_0, hcz25_1, hcz25_2, hcz25_3, hcz25_4, hcz25_5, hcz25_6, hcz25_7, hcz25_8⟩ := zS BK347.out; obtain ⟨hfz25_0, hfz25_1, hfz25_2, hfz25_3, hfz25_4, hfz25_5, hfz25_6, hfz25_7, hfz25_8⟩ := zR BK347.out; obtain ⟨hcz26_0, hcz26_1, hcz26_2, hcz26_3⟩ := blk_c4 BK351.out; obtain ⟨hfz26_0, hfz26_1, hfz26_2, hfz26_3⟩ := blk_f4 BK351.out) | (go_at_call 41; (with_reducible refine (zr.calls t348 1 true _ ?side1 A22.out).mono ?_); (case side1 => exact GW.below HG.out bsq); rintro e w' ⟨rfl, ⟨nd, rfl⟩⟩))
     go_meet
     case rel => exact ⟨_, (false), eq0, H', ⟨by omega⟩, ⟨by (with_reducible repeat (refine qy ?_ _)); exact BK347.out⟩, ⟨by (with_reducible repeat (refine qy ?_ _)); exact BK351.out⟩, ⟨bsq⟩⟩
    ·replace c23 := Bool.eq_false_iff.mpr c23
     subst c23
     replace H := ifF H
     replace H := zO H; obtain ⟨t356, A27, H⟩ := H
     by_cases c28 : t356 = true
     ·subst c28
      replace H := ifT H
      have H' := zb.mk H
      clear H
      go_wp2_with (first | ((with_reducible refine zc (f := 41) rfl ?_); refine zh (some 16) rfl rfl Tryd.func41 (by kernel_rfl) rfl #[.int .i64 t348, .int .i64 16] rfl hq ?_; (with_reducible refine (zr.calls t348 16 false _ ?side1 A10.out).mono ?_); (case side1 => exact GW.below HG.out bsq); rintro e w' ⟨rfl, ⟨nd, rfl⟩⟩; refine ⟨_, rfl, ?_⟩; have hnb29 := NB347_351.out; have hnc29 := NB351_347.out; obtain ⟨hcz30_0, hcz30_1, hcz30_2, hcz30_3, hcz30_4, hcz30_5, hcz30_6, hcz30_7, hcz30_8⟩ := zS BK347.out; obtain ⟨hfz30_0, hfz30_1, hfz30_2, hfz30_3, hfz30_4, hfz30_5, hfz30_6, hfz30_7, hfz30_8⟩ := zR BK347.out; obtain ⟨hcz31_0, hcz31_1, hcz31_2, hcz31_3⟩ := blk_c4 BK351.out; obtain ⟨hfz31_0, hfz31_1, hfz31_2, hfz31_3⟩ := blk_f4 BK351.out) | (go_at_call 41; (with_reducible refine (zr.calls t348 1 false _ ?side1 A22.out).mono ?_); (case side1 => exact GW.below HG.out bsq); rintro e w' ⟨rfl, ⟨nd, rfl⟩⟩) | (go_at_call 41; (with_reducible refine (zr.calls t348 2 true _ ?side1 A27.out).mono ?_); (case side1 => exact GW.below HG.out bsq); rintro e w' ⟨rfl, ⟨nd, rfl⟩⟩))
      go_meet
      case rel => exact ⟨_, (false), eq0, H', ⟨by omega⟩, ⟨by (with_reducible repeat (refine qy ?_ _)); exact BK347.out⟩, ⟨by (with_reducible repeat (refine qy ?_ _)); exact BK351.out⟩, ⟨bsq⟩⟩
     ·replace c28 := Bool.eq_false_iff.mpr c28
      subst c28
      replace H := ifF H
      have H' := zb.mk H
      clear H
      go_wp2_with (first | ((with_reducible refine zc (f := 41) rfl ?_); refine zh (some 16) rfl rfl Tryd.func41 (by kernel_rfl) rfl #[.int .i64 t348, .int .i64 16] rfl hq ?_; (with_reducible refine (zr.calls t348 16 false _ ?side1 A10.out).mono ?_); (case side1 => exact GW.below HG.out bsq); rintro e w' ⟨rfl, ⟨nd, rfl⟩⟩; refine ⟨_, rfl, ?_⟩; have hnb32 := NB347_351.out; have hnc32 := NB351_347.out; obtain ⟨hcz33_0, hcz33_1, hcz33_2, hcz33_3, hcz33_4, hcz33_5, hcz33_6, hcz33_7, hcz33_8⟩ := zS BK347.out; obtain ⟨hfz33_0, hfz33_1, hfz33_2, hfz33_3, hfz33_4, hfz33_5, hfz33_6, hfz33_7, hfz33_8⟩ := zR BK347.out; obtain ⟨hcz34_0, hcz34_1, hcz34_2, hcz34_3⟩ := blk_c4 BK351.out; obtain ⟨hfz34_0, hfz34_1, hfz34_2, hfz34_3⟩ := blk_f4 BK351.out) | (go_at_call 41; (with_reducible refine (zr.calls t348 1 false _ ?side1 A22.out).mono ?_); (case side1 => exact GW.below HG.out bsq); rintro e w' ⟨rfl, ⟨nd, rfl⟩⟩) | (go_at_call 41; (with_reducible refine (zr.calls t348 2 false _ ?side1 A27.out).mono ?_); (case side1 => exact GW.below HG.out bsq); rintro e w' ⟨rfl, ⟨nd, rfl⟩⟩))
      go_meet
      case rel => exact ⟨_, ((a0_1 != 0)), eq0, H', ⟨by omega⟩, ⟨by (with_reducible repeat (refine qy ?_ _)); exact BK347.out⟩, ⟨by (with_reducible repeat (refine qy ?_ _)); exact BK351.out⟩, ⟨bsq⟩⟩
 case rest =>
  clear HC3
  (try clear hcz5_0); (try clear hcz5_1); (try clear hcz5_2); (try clear hcz5_3); (try clear hcz5_4); (try clear hcz5_5); (try clear hcz5_6); (try clear hcz5_7); (try clear hcz5_8); (try clear hcz8_0); (try clear hcz8_1); (try clear hcz8_2); (try clear hcz8_3); (try clear hfz5_0); (try clear hfz5_1); (try clear hfz5_2); (try clear hfz5_3); (try clear hfz5_4); (try clear hfz5_5); (try clear hfz5_6); (try clear hfz5_7); (try clear hfz5_8); (try clear hfz8_0); (try clear hfz8_1); (try clear hfz8_2); (try clear hfz8_3)
  obtain ⟨kq, x38_2, rfl, HA, HJ2, BK347, BK351, HB⟩ := hcut
  cases kq with
  | zero => exact absurd HA.out (by simp [zt.j0])
  | succ kj2 =>
   have H := HA.out
   clear HA
   simp only [zt.j0] at H
   by_cases c35 : x38_2 = true
   ·subst c35
    replace H := ifT H
    obtain rfl := Option.some.inj H
    go_wp2
    go_ret
    exact ⟨eq1, bsq⟩
   ·replace c35 := Bool.eq_false_iff.mpr c35
    subst c35
    replace H := ifF H
    have HC36 := zb.mk H
    clear H
    go_upto_region 5 with (fail)
    go_cut [60] (fun v60 wc => ∃ (kq : Nat) (x60_35 : Bool), v60 = .bool x60_35 ∧ zb (zt.j1 kq t348 x60_35 a0_0 a0_1 a0_2 a0_3 a0_4 a0_5 a0_6 a0_7 a0_8 = some r) ∧ zb (kq ≤ kj2) ∧ zb (wc.heap[gb347]? = some (.cells #[.int .i64 a0_0, .int .i64 a0_1, .int .i64 a0_2, .int .i64 a0_3, .string a0_4, .int .u64 a0_5, .int .u64 a0_6, .int .u64 a0_7, .int .u64 a0_8] 34 (0, 0))) ∧ zb (wc.heap[gb351]? = some (.cells #[.int .u64 0, .int .u64 0, .int .u64 0, .int .u64 0] 32 (0, 0))) ∧ zb (Below w.heap.size w wc))
    case first =>
     have H := HC36.out
     clear HC36
     replace H := zO H; obtain ⟨t357, A37, H⟩ := H
     by_cases c38 : t357 = true
     ·subst c38
      replace H := ifT H
      by_cases c39 : a0_1 < 0
      ·rw [if_pos c39] at H
       have c39b0 := decide_eq_true c39
       clear c39
       (skip)
       have H' := zb.mk H
       clear H
       go_wp2_with (((with_reducible refine zc (f := 41) rfl ?_); refine zh (some 40) rfl rfl Tryd.func41 (by kernel_rfl) rfl #[.int .i64 t348, .int .i64 2] rfl hq ?_; (with_reducible refine (zr.calls t348 2 true _ ?side1 A37.out).mono ?_); (case side1 => exact GW.below HG.out bsq); rintro e w' ⟨rfl, ⟨nd, rfl⟩⟩; refine ⟨_, rfl, ?_⟩; have hnb40 := NB347_351.out; have hnc40 := NB351_347.out; obtain ⟨hcz41_0, hcz41_1, hcz41_2, hcz41_3, hcz41_4, hcz41_5, hcz41_6, hcz41_7, hcz41_8⟩ := zS BK347.out; obtain ⟨hfz41_0, hfz41_1, hfz41_2, hfz41_3, hfz41_4, hfz41_5, hfz41_6, hfz41_7, hfz41_8⟩ := zR BK347.out))
       go_meet
       case rel => exact ⟨_, (true), eq0, H', ⟨by have := HJ2.out; omega⟩, ⟨by (with_reducible repeat (refine qy ?_ _)); exact BK347.out⟩, ⟨by (with_reducible repeat (refine qy ?_ _)); exact BK351.out⟩, ⟨bsq⟩⟩
      ·rw [if_neg c39] at H
       have c39b0 := decide_eq_false c39
       clear c39
       (skip)
       by_cases c42 : a0_1 > 255
       ·rw [if_pos c42] at H
        have c42b0 := decide_eq_true c42
        clear c42
        have H' := zb.mk H
        clear H
        go_wp2_with (((with_reducible refine zc (f := 41) rfl ?_); refine zh (some 40) rfl rfl Tryd.func41 (by kernel_rfl) rfl #[.int .i64 t348, .int .i64 2] rfl hq ?_; (with_reducible refine (zr.calls t348 2 true _ ?side1 A37.out).mono ?_); (case side1 => exact GW.below HG.out bsq); rintro e w' ⟨rfl, ⟨nd, rfl⟩⟩; refine ⟨_, rfl, ?_⟩; have hnb43 := NB347_351.out; have hnc43 := NB351_347.out; obtain ⟨hcz44_0, hcz44_1, hcz44_2, hcz44_3, hcz44_4, hcz44_5, hcz44_6, hcz44_7, hcz44_8⟩ := zS BK347.out; obtain ⟨hfz44_0, hfz44_1, hfz44_2, hfz44_3, hfz44_4, hfz44_5, hfz44_6, hfz44_7, hfz44_8⟩ := zR BK347.out))
        go_meet
        case rel => exact ⟨_, (true), eq0, H', ⟨by have := HJ2.out; omega⟩, ⟨by (with_reducible repeat (refine qy ?_ _)); exact BK347.out⟩, ⟨by (with_reducible repeat (refine qy ?_ _)); exact BK351.out⟩, ⟨bsq⟩⟩
       ·rw [if_neg c42] at H
        have c42b0 := decide_eq_false c42
        clear c42
        by_cases c45 : a0_2 = 1
        ·rw [if_pos c45] at H
         have c45b0 := beq_iff_eq.mpr c45
         have c45b1 := bne_eq_false_iff_eq.mpr c45
         clear c45
         have H' := zb.mk H
         clear H
         go_wp2_with (((with_reducible refine zc (f := 41) rfl ?_); refine zh (some 40) rfl rfl Tryd.func41 (by kernel_rfl) rfl #[.int .i64 t348, .int .i64 2] rfl hq ?_; (with_reducible refine (zr.calls t348 2 true _ ?side1 A37.out).mono ?_); (case side1 => exact GW.below HG.out bsq); rintro e w' ⟨rfl, ⟨nd, rfl⟩⟩; refine ⟨_, rfl, ?_⟩; have hnb46 := NB347_351.out; have hnc46 := NB351_347.out; obtain ⟨hcz47_0, hcz47_1, hcz47_2, hcz47_3, hcz47_4, hcz47_5, hcz47_6, hcz47_7, hcz47_8⟩ := zS BK347.out; obtain ⟨hfz47_0, hfz47_1, hfz47_2, hfz47_3, hfz47_4, hfz47_5, hfz47_6, hfz47_7, hfz47_8⟩ := zR BK347.out))
         go_meet
         case rel => exact ⟨_, ((a0_1 != 0)), eq0, H', ⟨by have := HJ2.out; omega⟩, ⟨by (with_reducible repeat (refine qy ?_ _)); exact BK347.out⟩, ⟨by (with_reducible repeat (refine qy ?_ _)); exact BK351.out⟩, ⟨bsq⟩⟩
        ·rw [if_neg c45] at H
         have c45b0 := beq_eq_false_iff_ne.mpr c45
         have c45b1 := bne_iff_ne.mpr c45
         have H' := zb.mk H
         clear H
         go_wp2_with (((with_reducible refine zc (f := 41) rfl ?_); refine zh (some 40) rfl rfl Tryd.func41 (by kernel_rfl) rfl #[.int .i64 t348, .int .i64 2] rfl hq ?_; (with_reducible refine (zr.calls t348 2 true _ ?side1 A37.out).mono ?_); (case side1 => exact GW.below HG.out bsq); rintro e w' ⟨rfl, ⟨nd, rfl⟩⟩; refine ⟨_, rfl, ?_⟩; have hnb48 := NB347_351.out; have hnc48 := NB351_347.out; obtain ⟨hcz49_0, hcz49_1, hcz49_2, hcz49_3, hcz49_4, hcz49_5, hcz49_6, hcz49_7, hcz49_8⟩ := zS BK347.out; obtain ⟨hfz49_0, hfz49_1, hfz49_2, hfz49_3, hfz49_4, hfz49_5, hfz49_6, hfz49_7, hfz49_8⟩ := zR BK347.out))
         go_meet
         case rel => exact ⟨_, (false), eq0, H', ⟨by have := HJ2.out; omega⟩, ⟨by (with_reducible repeat (refine qy ?_ _)); exact BK347.out⟩, ⟨by (with_reducible repeat (refine qy ?_ _)); exact BK351.out⟩, ⟨bsq⟩⟩
     ·replace c38 := Bool.eq_false_iff.mpr c38
      subst c38
      replace H := ifF H
      have H' := zb.mk H
      clear H
      go_wp2_with (((with_reducible refine zc (f := 41) rfl ?_); refine zh (some 40) rfl rfl Tryd.func41 (by kernel_rfl) rfl #[.int .i64 t348, .int .i64 2] rfl hq ?_; (with_reducible refine (zr.calls t348 2 false _ ?side1 A37.out).mono ?_); (case side1 => exact GW.below HG.out bsq); rintro e w' ⟨rfl, ⟨nd, rfl⟩⟩; refine ⟨_, rfl, ?_⟩))
      go_meet
      case rel => exact ⟨_, (false), eq0, H', ⟨by have := HJ2.out; omega⟩, ⟨by (with_reducible repeat (refine qy ?_ _)); exact BK347.out⟩, ⟨by (with_reducible repeat (refine qy ?_ _)); exact BK351.out⟩, ⟨bsq⟩⟩
    case rest =>
     clear HC36
     obtain ⟨kq, x60_35, rfl, HA, HJ35, BK347, BK351, HB⟩ := hcut
     cases kq with
     | zero => exact absurd HA.out (by simp [zt.j1])
     | succ kj35 =>
      have H := HA.out
      clear HA
      simp only [zt.j1] at H
      by_cases c50 : x60_35 = true
      ·subst c50
       replace H := ifT H
       obtain rfl := Option.some.inj H
       go_wp2
       go_ret
       exact ⟨eq1, bsq⟩
      ·replace c50 := Bool.eq_false_iff.mpr c50
       subst c50
       replace H := ifF H
       replace H := zO H; obtain ⟨t358, A51, H⟩ := H
       by_cases c52 : t358 = true
       ·subst c52
        replace H := ifT H
        replace H := zO H; obtain ⟨t359, A53, H⟩ := H
        obtain rfl := Option.some.inj H
        go_wp2_with (first | ((with_reducible refine zc (f := 41) rfl ?_); refine zh (some 62) rfl rfl Tryd.func41 (by kernel_rfl) rfl #[.int .i64 t348, .int .i64 8] rfl hq ?_; (with_reducible refine (zr.calls t348 8 true _ ?side1 A51.out).mono ?_); (case side1 => exact GW.below HG.out bsq); rintro e w' ⟨rfl, ⟨nd, rfl⟩⟩; refine ⟨_, rfl, ?_⟩; have hnb54 := NB347_351.out; have hnc54 := NB351_347.out; obtain ⟨hcz55_0, hcz55_1, hcz55_2, hcz55_3, hcz55_4, hcz55_5, hcz55_6, hcz55_7, hcz55_8⟩ := zS BK347.out; obtain ⟨hfz55_0, hfz55_1, hfz55_2, hfz55_3, hfz55_4, hfz55_5, hfz55_6, hfz55_7, hfz55_8⟩ := zR BK347.out) | ((with_reducible refine zc (f := 57) rfl ?_); refine zh (some 64) rfl rfl Tryd.func57 (by kernel_rfl) rfl #[.agg #[.int .i64 a0_0, .int .i64 a0_1, .int .i64 a0_2, .int .i64 a0_3, .string a0_4, .int .u64 a0_5, .int .u64 a0_6, .int .u64 a0_7, .int .u64 a0_8]] rfl hq ?_; (with_reducible refine (zD.calls kj35 a0_0 a0_1 a0_2 a0_3 a0_4 a0_5 a0_6 a0_7 a0_8 t359 _ ?side1 A53.out).mono ?_); (case side1 => exact GW.below HG.out bsq); rintro e w56 ⟨rfl, hb⟩; refine ⟨_, rfl, ?_⟩; replace BK347 := zb.mk (qA (g := gb347) (o := .cells #[.int .i64 a0_0, .int .i64 a0_1, .int .i64 a0_2, .int .i64 a0_3, .string a0_4, .int .u64 a0_5, .int .u64 a0_6, .int .u64 a0_7, .int .u64 a0_8] 34 (0, 0)) (bx BK347.out) hb); replace BK351 := zb.mk (qA (g := gb351) (o := .cells #[.int .u64 0, .int .u64 0, .int .u64 0, .int .u64 0] 32 (0, 0)) (bx BK351.out) hb); replace HB := zb.mk (z6 bsq hb); (try clear hb)))
        go_ret
        exact ⟨eq1, bsq⟩
       ·replace c52 := Bool.eq_false_iff.mpr c52
        subst c52
        replace H := ifF H
        by_cases c57 : a0_3 = 0
        ·rw [if_pos c57] at H
         have c57b0 := beq_iff_eq.mpr c57
         have c57b1 := bne_eq_false_iff_eq.mpr c57
         clear c57
         by_cases c58 : a0_4.toList = ([] : List UInt8)
         ·rw [if_pos c58] at H
          have c58b0 := beq_iff_eq.mpr c58
          have c58b1 := bne_eq_false_iff_eq.mpr c58
          clear c58
          replace H := zO H; obtain ⟨t360, A59, H⟩ := H
          by_cases c60 : t360 = true
          ·subst c60
           replace H := ifT H
           by_cases c61 : a0_2 ≥ 0
           ·rw [if_pos c61] at H
            have c61b0 := decide_eq_true c61
            clear c61
            by_cases c62 : a0_2 ≤ 255
            ·rw [if_pos c62] at H
             have c62b0 := decide_eq_true c62
             clear c62
             obtain rfl := Option.some.inj H
             go_wp2_with (first | ((with_reducible refine zc (f := 41) rfl ?_); refine zh (some 62) rfl rfl Tryd.func41 (by kernel_rfl) rfl #[.int .i64 t348, .int .i64 8] rfl hq ?_; (with_reducible refine (zr.calls t348 8 false _ ?side1 A51.out).mono ?_); (case side1 => exact GW.below HG.out bsq); rintro e w' ⟨rfl, ⟨nd, rfl⟩⟩; refine ⟨_, rfl, ?_⟩; have hnb63 := NB347_351.out; have hnc63 := NB351_347.out; obtain ⟨hcz64_0, hcz64_1, hcz64_2, hcz64_3, hcz64_4, hcz64_5, hcz64_6, hcz64_7, hcz64_8⟩ := zS BK347.out; obtain ⟨hfz64_0, hfz64_1, hfz64_2, hfz64_3, hfz64_4, hfz64_5, hfz64_6, hfz64_7, hfz64_8⟩ := zR BK347.out) | (go_at_call 41; (with_reducible refine (zr.calls t348 4 true _ ?side1 A59.out).mono ?_); (case side1 => exact GW.below HG.out bsq); rintro e w' ⟨rfl, ⟨nd, rfl⟩⟩))
             go_ret
             exact ⟨eq1, bsq⟩
            ·rw [if_neg c62] at H
             have c62b0 := decide_eq_false c62
             clear c62
             obtain rfl := Option.some.inj H
             go_wp2_with (first | ((with_reducible refine zc (f := 41) rfl ?_); refine zh (some 62) rfl rfl Tryd.func41 (by kernel_rfl) rfl #[.int .i64 t348, .int .i64 8] rfl hq ?_; (with_reducible refine (zr.calls t348 8 false _ ?side1 A51.out).mono ?_); (case side1 => exact GW.below HG.out bsq); rintro e w' ⟨rfl, ⟨nd, rfl⟩⟩; refine ⟨_, rfl, ?_⟩; have hnb65 := NB347_351.out; have hnc65 := NB351_347.out; obtain ⟨hcz66_0, hcz66_1, hcz66_2, hcz66_3, hcz66_4, hcz66_5, hcz66_6, hcz66_7, hcz66_8⟩ := zS BK347.out; obtain ⟨hfz66_0, hfz66_1, hfz66_2, hfz66_3, hfz66_4, hfz66_5, hfz66_6, hfz66_7, hfz66_8⟩ := zR BK347.out) | (go_at_call 41; (with_reducible refine (zr.calls t348 4 true _ ?side1 A59.out).mono ?_); (case side1 => exact GW.below HG.out bsq); rintro e w' ⟨rfl, ⟨nd, rfl⟩⟩))
             go_ret
             exact ⟨eq1, bsq⟩
           ·rw [if_neg c61] at H
            have c61b0 := decide_eq_false c61
            clear c61
            obtain rfl := Option.some.inj H
            go_wp2_with (first | ((with_reducible refine zc (f := 41) rfl ?_); refine zh (some 62) rfl rfl Tryd.func41 (by kernel_rfl) rfl #[.int .i64 t348, .int .i64 8] rfl hq ?_; (with_reducible refine (zr.calls t348 8 false _ ?side1 A51.out).mono ?_); (case side1 => exact GW.below HG.out bsq); rintro e w' ⟨rfl, ⟨nd, rfl⟩⟩; refine ⟨_, rfl, ?_⟩; have hnb67 := NB347_351.out; have hnc67 := NB351_347.out; obtain ⟨hcz68_0, hcz68_1, hcz68_2, hcz68_3, hcz68_4, hcz68_5, hcz68_6, hcz68_7, hcz68_8⟩ := zS BK347.out; obtain ⟨hfz68_0, hfz68_1, hfz68_2, hfz68_3, hfz68_4, hfz68_5, hfz68_6, hfz68_7, hfz68_8⟩ := zR BK347.out) | (go_at_call 41; (with_reducible refine (zr.calls t348 4 true _ ?side1 A59.out).mono ?_); (case side1 => exact GW.below HG.out bsq); rintro e w' ⟨rfl, ⟨nd, rfl⟩⟩))
            go_ret
            exact ⟨eq1, bsq⟩
          ·replace c60 := Bool.eq_false_iff.mpr c60
           subst c60
           replace H := ifF H
           obtain rfl := Option.some.inj H
           go_wp2_with (first | ((with_reducible refine zc (f := 41) rfl ?_); refine zh (some 62) rfl rfl Tryd.func41 (by kernel_rfl) rfl #[.int .i64 t348, .int .i64 8] rfl hq ?_; (with_reducible refine (zr.calls t348 8 false _ ?side1 A51.out).mono ?_); (case side1 => exact GW.below HG.out bsq); rintro e w' ⟨rfl, ⟨nd, rfl⟩⟩; refine ⟨_, rfl, ?_⟩; have hnb69 := NB347_351.out; have hnc69 := NB351_347.out; obtain ⟨hcz70_0, hcz70_1, hcz70_2, hcz70_3, hcz70_4, hcz70_5, hcz70_6, hcz70_7, hcz70_8⟩ := zS BK347.out; obtain ⟨hfz70_0, hfz70_1, hfz70_2, hfz70_3, hfz70_4, hfz70_5, hfz70_6, hfz70_7, hfz70_8⟩ := zR BK347.out) | (go_at_call 41; (with_reducible refine (zr.calls t348 4 false _ ?side1 A59.out).mono ?_); (case side1 => exact GW.below HG.out bsq); rintro e w' ⟨rfl, ⟨nd, rfl⟩⟩))
           go_ret
           exact ⟨eq1, bsq⟩
         ·rw [if_neg c58] at H
          have c58b0 := beq_eq_false_iff_ne.mpr c58
          have c58b1 := bne_iff_ne.mpr c58
          obtain rfl := Option.some.inj H
          go_wp2_with (((with_reducible refine zc (f := 41) rfl ?_); refine zh (some 62) rfl rfl Tryd.func41 (by kernel_rfl) rfl #[.int .i64 t348, .int .i64 8] rfl hq ?_; (with_reducible refine (zr.calls t348 8 false _ ?side1 A51.out).mono ?_); (case side1 => exact GW.below HG.out bsq); rintro e w' ⟨rfl, ⟨nd, rfl⟩⟩; refine ⟨_, rfl, ?_⟩; have hnb71 := NB347_351.out; have hnc71 := NB351_347.out; obtain ⟨hcz72_0, hcz72_1, hcz72_2, hcz72_3, hcz72_4, hcz72_5, hcz72_6, hcz72_7, hcz72_8⟩ := zS BK347.out; obtain ⟨hfz72_0, hfz72_1, hfz72_2, hfz72_3, hfz72_4, hfz72_5, hfz72_6, hfz72_7, hfz72_8⟩ := zR BK347.out))
          go_ret
          exact ⟨eq1, bsq⟩
        ·rw [if_neg c57] at H
         have c57b0 := beq_eq_false_iff_ne.mpr c57
         have c57b1 := bne_iff_ne.mpr c57
         obtain rfl := Option.some.inj H
         go_wp2_with (((with_reducible refine zc (f := 41) rfl ?_); refine zh (some 62) rfl rfl Tryd.func41 (by kernel_rfl) rfl #[.int .i64 t348, .int .i64 8] rfl hq ?_; (with_reducible refine (zr.calls t348 8 false _ ?side1 A51.out).mono ?_); (case side1 => exact GW.below HG.out bsq); rintro e w' ⟨rfl, ⟨nd, rfl⟩⟩; refine ⟨_, rfl, ?_⟩; have hnb73 := NB347_351.out; have hnc73 := NB351_347.out; obtain ⟨hcz74_0, hcz74_1, hcz74_2, hcz74_3, hcz74_4, hcz74_5, hcz74_6, hcz74_7, hcz74_8⟩ := zS BK347.out; obtain ⟨hfz74_0, hfz74_1, hfz74_2, hfz74_3, hfz74_4, hfz74_5, hfz74_6, hfz74_7, hfz74_8⟩ := zR BK347.out))
         go_ret
         exact ⟨eq1, bsq⟩
end Go.Proofs.YtnpeabmlcakegaaDoor.PAll
namespace Go.Proofs.YtnpeabmlcakegaaDoor.PAll
open Go.RowKit Go.Proofs.YtnpeabmlcakegaaDoorW.PrintWords Go.Proofs.YtnpeabmlcakegaaDoorW.PrintLast Go.Proofs.YtnpeabmlcakegaaDoorW.PrintMore
attribute [local go_sem] z9 qe ql xb xa xp xn qL qK qZ qY
set_option linter.unusedVariables false
set_option linter.unusedSimpArgs false
def zo.l0 : Nat → List (S34) → Int → Option (Int × Int)
 | 0, _, _ => none
 | k + 1, x0, x4 => if x4 < (x0.length : Int) then (if 0 ≤ x4 then ((zX.f ((za x0 x4).f0)).bind fun bt366 => (if bt366.2.1.toList = ([] : List UInt8) then (some (x4, 160)) else ((zt.f k ((za x0 x4).f0) ((za x0 x4).f1) ((za x0 x4).f2) ((za x0 x4).f3) ((za x0 x4).f4) ((za x0 x4).f5.f0) ((za x0 x4).f5.f1) ((za x0 x4).f5.f2) ((za x0 x4).f5.f3)).bind fun t370 => (if t370 = true then ((zv.f ((za x0 x4).f0)).bind fun t372 => (if t372 = true then (if ((za x0 x4).f1) < (wrap64 (-x4)) then (some (x4, 162)) else (if ((za x0 x4).f1) ≥ (wrap64 ((x0.length : Int) - x4)) then (some (x4, 162)) else (zo.l0 k x0 (wrap64 (x4 + 1))))) else (zo.l0 k x0 (wrap64 (x4 + 1))))) else (some (x4, 161)))))) else (none)) else (if 0 ≤ (wrap64 ((x0.length : Int) - 1)) then (if (wrap64 ((x0.length : Int) - 1)) < (x0.length : Int) then ((zX.f ((za x0 (wrap64 ((x0.length : Int) - 1))).f0)).bind fun bt362 => (if bt362.2.2 = true then (some (wrap64 ((x0.length : Int) - 1), 163)) else (some (0, 0)))) else (none)) else (none))
def zo.f (k : Nat) (l0 : List (S34)) : Option (Int × Int) := if (l0.length : Int) > 8192 then (some (0, 2)) else (if (l0.length : Int) = 0 then (some (0, 3)) else (zo.l0 k l0 0))
theorem zo.calls (k : Nat) (A0 : Option Addr) (c0 : Nat) (l0 : List (S34)) (r1 r2 : Int) (w : World) (hG : GW w) (hr0 : Kd.C k34 w A0 l0.length l0) (hc0 : l0.length ≤ c0) (h : zo.f k l0 = some (r1, r2)) :
  Calls Tryd.prog 18 #[.slice A0 l0.length c0] w fun e w' => e = .returned (.tuple #[.int .i64 r1, .int .i64 r2]) ∧ Below w.heap.size w w' := by
 have hu34 := Tryd.underlying34
 have HR0 := zb.mk hr0
 have HC0 := zb.mk hc0
 clear hr0 hc0
 have HG := zb.mk hG
 clear hG
 have HB := zb.mk (Below.refl w.heap.size w)
 have H : (if (l0.length : Int) > 8192 then (some (0, 2)) else (if (l0.length : Int) = 0 then (some (0, 3)) else (zo.l0 k l0 0))) = some (r1, r2) := h
 clear h
 by_cases c2 : (l0.length : Int) > 8192
 ·rw [if_pos c2] at H
  have c2b0 := decide_eq_true c2
  have c2b1 : decide (8192 < l0.length) = true := decide_eq_true (by omega)
  clear c2
  simp only [Option.some.injEq, Prod.mk.injEq] at H
  obtain ⟨rfl, rfl⟩ := H
  go_enter Tryd.func18, Tryd.ntmps18
  go_wp2
  go_ret2
  exact ⟨eq1, bl HB.out⟩
 ·rw [if_neg c2] at H
  have c2b0 := decide_eq_false c2
  have c2b1 : decide (8192 < l0.length) = false := decide_eq_false (by omega)
  clear c2
  by_cases c3 : (l0.length : Int) = 0
  ·rw [if_pos c3] at H
   have c3b0 := beq_iff_eq.mpr c3
   have c3b1 := bne_eq_false_iff_eq.mpr c3
   clear c3
   simp only [Option.some.injEq, Prod.mk.injEq] at H
   obtain ⟨rfl, rfl⟩ := H
   go_enter Tryd.func18, Tryd.ntmps18
   go_wp2
   go_ret2
   exact ⟨eq1, bl HB.out⟩
  ·rw [if_neg c3] at H
   have c3b0 := beq_eq_false_iff_ne.mpr c3
   have c3b1 := bne_iff_ne.mpr c3
   have c3b2 : ¬ (l0 = []) := fun h_ => c3 (by rw [h_]; rfl)
   have H' := zb.mk H
   clear H
   go_enter Tryd.func18, Tryd.ntmps18
   go_wp2
   go_loopg [4] k (fun kq v4 w' => ∃ (x4_1 : Int), v4 = .int .i64 x4_1 ∧ zb (zo.l0 kq l0 x4_1 = some (r1, r2)) ∧ zb (kq ≤ k) ∧ zb (Below w.heap.size w w'))
   case atStart => exact ⟨(0), eq0, H', ⟨Nat.le_refl _⟩, ⟨bl HB.out⟩⟩
   case round =>
    clear H'
    (try clear c2b0); (try clear c2b1); (try clear c3); (try clear c3b0); (try clear c3b1); (try clear c3b2)
    obtain ⟨x4_1, rfl, HA, HK1, HB⟩ := hrel
    cases gk with
    | zero => exact absurd HA.out (by simp [zo.l0])
    | succ k1 =>
     have H := HA.out
     clear HA
     simp only [zo.l0] at H
     by_cases c4 : x4_1 < (l0.length : Int)
     ·rw [if_pos c4] at H
      have c4b0 := decide_eq_true c4
      clear c4
      replace H := qh H; obtain ⟨c5, H⟩ := H
      have c5b0 := decide_eq_true c5
      clear c5
      replace H := zO H; obtain ⟨⟨t366, t367, t368⟩, A6, H⟩ := H; try dsimp only at H
      by_cases c7 : t367.toList = ([] : List UInt8)
      ·rw [if_pos c7] at H
       have c7b0 := beq_iff_eq.mpr c7
       have c7b1 := bne_eq_false_iff_eq.mpr c7
       clear c7
       simp only [Option.some.injEq, Prod.mk.injEq] at H
       obtain ⟨rfl, rfl⟩ := H
       have p365 : 0 ≤ (x4_1 : Int) := dq
       have q365 : x4_1 < (l0.length : Int) := dq
       obtain ⟨ad365, e365, hx365_0, hx365_1, hx365_2, hx365_3, hx365_4, hx365_5, hx365_6, hx365_7, hx365_8⟩ := zU HR0.out x4_1 p365 q365
       cases e365
       replace hx365_0 := cb HB.out hx365_0
       replace hx365_1 := cb HB.out hx365_1
       replace hx365_2 := cb HB.out hx365_2
       replace hx365_3 := cb HB.out hx365_3
       replace hx365_4 := cb HB.out hx365_4
       replace hx365_5 := cb HB.out hx365_5
       replace hx365_6 := cb HB.out hx365_6
       replace hx365_7 := cb HB.out hx365_7
       replace hx365_8 := cb HB.out hx365_8
       replace p365 := eq_true p365
       replace q365 := eq_true q365
       go_wp2_with (((with_reducible refine zc (f := 39) rfl ?_); refine zh (some 29) rfl rfl Tryd.func39 (by kernel_rfl) rfl #[.int .i64 ((za l0 x4_1).f0)] rfl hq ?_; (with_reducible refine (zX.calls ((za l0 x4_1).f0) t366 t367 t368 _ ?side1 A6.out).mono ?_); (case side1 => exact gb HG HB); rintro e w' ⟨rfl, ⟨nd, rfl⟩⟩; refine ⟨_, rfl, ?_⟩))
       go_ret2
       exact ⟨eq1, bl HB.out⟩
      ·rw [if_neg c7] at H
       have c7b0 := beq_eq_false_iff_ne.mpr c7
       have c7b1 := bne_iff_ne.mpr c7
       replace H := zO H; obtain ⟨t370, A8, H⟩ := H
       by_cases c9 : t370 = true
       ·subst c9
        replace H := ifT H
        replace H := zO H; obtain ⟨t372, A10, H⟩ := H
        by_cases c11 : t372 = true
        ·subst c11
         replace H := ifT H
         by_cases c12 : ((za l0 x4_1).f1) < (wrap64 (-x4_1))
         ·rw [if_pos c12] at H
          have c12b0 := decide_eq_true c12
          clear c12
          simp only [Option.some.injEq, Prod.mk.injEq] at H
          obtain ⟨rfl, rfl⟩ := H
          have p365 : 0 ≤ (x4_1 : Int) := dq
          have q365 : x4_1 < (l0.length : Int) := dq
          obtain ⟨ad365, e365, hx365_0, hx365_1, hx365_2, hx365_3, hx365_4, hx365_5, hx365_6, hx365_7, hx365_8⟩ := zU HR0.out x4_1 p365 q365
          cases e365
          replace hx365_0 := cb HB.out hx365_0
          replace hx365_1 := cb HB.out hx365_1
          replace hx365_2 := cb HB.out hx365_2
          replace hx365_3 := cb HB.out hx365_3
          replace hx365_4 := cb HB.out hx365_4
          replace hx365_5 := cb HB.out hx365_5
          replace hx365_6 := cb HB.out hx365_6
          replace hx365_7 := cb HB.out hx365_7
          replace hx365_8 := cb HB.out hx365_8
          replace p365 := eq_true p365
          replace q365 := eq_true q365
          go_wp2_with (first | ((with_reducible refine zc (f := 39) rfl ?_); refine zh (some 29) rfl rfl Tryd.func39 (by kernel_rfl) rfl #[.int .i64 ((za l0 x4_1).f0)] rfl hq ?_; (with_reducible refine (zX.calls ((za l0 x4_1).f0) t366 t367 t368 _ ?side1 A6.out).mono ?_); (case side1 => exact gb HG HB); rintro e w' ⟨rfl, ⟨nd, rfl⟩⟩; refine ⟨_, rfl, ?_⟩; have p369 : 0 ≤ (x4_1 : Int) := dq; have q369 : x4_1 < (l0.length : Int) := dq; obtain ⟨ad369, e369, hx369_0, hx369_1, hx369_2, hx369_3, hx369_4, hx369_5, hx369_6, hx369_7, hx369_8⟩ := zU (Kd.zF HR0.out HB.out) x4_1 p369 q369; obtain rfl : ad365 = ad369 := (by injection e369); replace p369 := eq_true p369; replace q369 := eq_true q369) | ((with_reducible refine zc (f := 40) rfl ?_); refine zh (some 40) rfl rfl Tryd.func40 (by kernel_rfl) rfl #[.agg #[.int .i64 ((za l0 x4_1).f0), .int .i64 ((za l0 x4_1).f1), .int .i64 ((za l0 x4_1).f2), .int .i64 ((za l0 x4_1).f3), .string ((za l0 x4_1).f4), .int .u64 ((za l0 x4_1).f5.f0), .int .u64 ((za l0 x4_1).f5.f1), .int .u64 ((za l0 x4_1).f5.f2), .int .u64 ((za l0 x4_1).f5.f3)]] rfl hq ?_; (with_reducible refine (zt.calls k1 ((za l0 x4_1).f0) ((za l0 x4_1).f1) ((za l0 x4_1).f2) ((za l0 x4_1).f3) ((za l0 x4_1).f4) ((za l0 x4_1).f5.f0) ((za l0 x4_1).f5.f1) ((za l0 x4_1).f5.f2) ((za l0 x4_1).f5.f3) true _ ?side1 A8.out).mono ?_); (case side1 => exact gb HG HB); rintro e w13 ⟨rfl, hb⟩; refine ⟨_, rfl, ?_⟩; replace HB := bst HB hb; (try clear hb); have p371 : 0 ≤ (x4_1 : Int) := dq; have q371 : x4_1 < (l0.length : Int) := dq; obtain ⟨ad371, e371, hx371_0, hx371_1, hx371_2, hx371_3, hx371_4, hx371_5, hx371_6, hx371_7, hx371_8⟩ := zU (Kd.zF HR0.out HB.out) x4_1 p371 q371; obtain rfl : ad365 = ad371 := (by injection e371); replace p371 := eq_true p371; replace q371 := eq_true q371) | ((with_reducible refine zc (f := 19) rfl ?_); refine zh (some 48) rfl rfl Tryd.func19 (by kernel_rfl) rfl #[.int .i64 ((za l0 x4_1).f0)] rfl hq ?_; (with_reducible refine (zv.calls ((za l0 x4_1).f0) true _ ?side1 A10.out).mono ?_); (case side1 => exact gb HG HB); rintro e w' ⟨rfl, ⟨nd, rfl⟩⟩; refine ⟨_, rfl, ?_⟩; have p373 : 0 ≤ (x4_1 : Int) := dq; have q373 : x4_1 < (l0.length : Int) := dq; obtain ⟨ad373, e373, hx373_0, hx373_1, hx373_2, hx373_3, hx373_4, hx373_5, hx373_6, hx373_7, hx373_8⟩ := zU (Kd.zF HR0.out HB.out) x4_1 p373 q373; obtain rfl : ad365 = ad373 := (by injection e373); replace p373 := eq_true p373; replace q373 := eq_true q373))
          go_ret2
          exact ⟨eq1, bl HB.out⟩
         ·rw [if_neg c12] at H
          have c12b0 := decide_eq_false c12
          clear c12
          by_cases c14 : ((za l0 x4_1).f1) ≥ (wrap64 ((l0.length : Int) - x4_1))
          ·rw [if_pos c14] at H
           have c14b0 := decide_eq_true c14
           clear c14
           simp only [Option.some.injEq, Prod.mk.injEq] at H
           obtain ⟨rfl, rfl⟩ := H
           have p365 : 0 ≤ (x4_1 : Int) := dq
           have q365 : x4_1 < (l0.length : Int) := dq
           obtain ⟨ad365, e365, hx365_0, hx365_1, hx365_2, hx365_3, hx365_4, hx365_5, hx365_6, hx365_7, hx365_8⟩ := zU HR0.out x4_1 p365 q365
           cases e365
           replace hx365_0 := cb HB.out hx365_0
           replace hx365_1 := cb HB.out hx365_1
           replace hx365_2 := cb HB.out hx365_2
           replace hx365_3 := cb HB.out hx365_3
           replace hx365_4 := cb HB.out hx365_4
           replace hx365_5 := cb HB.out hx365_5
           replace hx365_6 := cb HB.out hx365_6
           replace hx365_7 := cb HB.out hx365_7
           replace hx365_8 := cb HB.out hx365_8
           replace p365 := eq_true p365
           replace q365 := eq_true q365
           go_wp2_with (first | ((with_reducible refine zc (f := 39) rfl ?_); refine zh (some 29) rfl rfl Tryd.func39 (by kernel_rfl) rfl #[.int .i64 ((za l0 x4_1).f0)] rfl hq ?_; (with_reducible refine (zX.calls ((za l0 x4_1).f0) t366 t367 t368 _ ?side1 A6.out).mono ?_); (case side1 => exact gb HG HB); rintro e w' ⟨rfl, ⟨nd, rfl⟩⟩; refine ⟨_, rfl, ?_⟩; have p369 : 0 ≤ (x4_1 : Int) := dq; have q369 : x4_1 < (l0.length : Int) := dq; obtain ⟨ad369, e369, hx369_0, hx369_1, hx369_2, hx369_3, hx369_4, hx369_5, hx369_6, hx369_7, hx369_8⟩ := zU (Kd.zF HR0.out HB.out) x4_1 p369 q369; obtain rfl : ad365 = ad369 := (by injection e369); replace p369 := eq_true p369; replace q369 := eq_true q369) | ((with_reducible refine zc (f := 40) rfl ?_); refine zh (some 40) rfl rfl Tryd.func40 (by kernel_rfl) rfl #[.agg #[.int .i64 ((za l0 x4_1).f0), .int .i64 ((za l0 x4_1).f1), .int .i64 ((za l0 x4_1).f2), .int .i64 ((za l0 x4_1).f3), .string ((za l0 x4_1).f4), .int .u64 ((za l0 x4_1).f5.f0), .int .u64 ((za l0 x4_1).f5.f1), .int .u64 ((za l0 x4_1).f5.f2), .int .u64 ((za l0 x4_1).f5.f3)]] rfl hq ?_; (with_reducible refine (zt.calls k1 ((za l0 x4_1).f0) ((za l0 x4_1).f1) ((za l0 x4_1).f2) ((za l0 x4_1).f3) ((za l0 x4_1).f4) ((za l0 x4_1).f5.f0) ((za l0 x4_1).f5.f1) ((za l0 x4_1).f5.f2) ((za l0 x4_1).f5.f3) true _ ?side1 A8.out).mono ?_); (case side1 => exact gb HG HB); rintro e w15 ⟨rfl, hb⟩; refine ⟨_, rfl, ?_⟩; replace HB := bst HB hb; (try clear hb); have p371 : 0 ≤ (x4_1 : Int) := dq; have q371 : x4_1 < (l0.length : Int) := dq; obtain ⟨ad371, e371, hx371_0, hx371_1, hx371_2, hx371_3, hx371_4, hx371_5, hx371_6, hx371_7, hx371_8⟩ := zU (Kd.zF HR0.out HB.out) x4_1 p371 q371; obtain rfl : ad365 = ad371 := (by injection e371); replace p371 := eq_true p371; replace q371 := eq_true q371) | ((with_reducible refine zc (f := 19) rfl ?_); refine zh (some 48) rfl rfl Tryd.func19 (by kernel_rfl) rfl #[.int .i64 ((za l0 x4_1).f0)] rfl hq ?_; (with_reducible refine (zv.calls ((za l0 x4_1).f0) true _ ?side1 A10.out).mono ?_); (case side1 => exact gb HG HB); rintro e w' ⟨rfl, ⟨nd, rfl⟩⟩; refine ⟨_, rfl, ?_⟩; have p373 : 0 ≤ (x4_1 : Int) := dq; have q373 : x4_1 < (l0.length : Int) := dq; obtain ⟨ad373, e373, hx373_0, hx373_1, hx373_2, hx373_3, hx373_4, hx373_5, hx373_6, hx373_7, hx373_8⟩ := zU (Kd.zF HR0.out HB.out) x4_1 p373 q373; obtain rfl : ad365 = ad373 := (by injection e373); replace p373 := eq_true p373; replace q373 := eq_true q373; have p374 : 0 ≤ (x4_1 : Int) := dq; have q374 : x4_1 < (l0.length : Int) := dq; obtain ⟨ad374, e374, hx374_0, hx374_1, hx374_2, hx374_3, hx374_4, hx374_5, hx374_6, hx374_7, hx374_8⟩ := zU (Kd.zF HR0.out HB.out) x4_1 p374 q374; obtain rfl : ad365 = ad374 := (by injection e374); replace p374 := eq_true p374; replace q374 := eq_true q374))
           go_ret2
           exact ⟨eq1, bl HB.out⟩
          ·rw [if_neg c14] at H
           have c14b0 := decide_eq_false c14
           clear c14
           have H' := zb.mk H
           clear H
           have p365 : 0 ≤ (x4_1 : Int) := dq
           have q365 : x4_1 < (l0.length : Int) := dq
           obtain ⟨ad365, e365, hx365_0, hx365_1, hx365_2, hx365_3, hx365_4, hx365_5, hx365_6, hx365_7, hx365_8⟩ := zU HR0.out x4_1 p365 q365
           cases e365
           replace hx365_0 := cb HB.out hx365_0
           replace hx365_1 := cb HB.out hx365_1
           replace hx365_2 := cb HB.out hx365_2
           replace hx365_3 := cb HB.out hx365_3
           replace hx365_4 := cb HB.out hx365_4
           replace hx365_5 := cb HB.out hx365_5
           replace hx365_6 := cb HB.out hx365_6
           replace hx365_7 := cb HB.out hx365_7
           replace hx365_8 := cb HB.out hx365_8
           replace p365 := eq_true p365
           replace q365 := eq_true q365
           go_wp2_with (first | ((with_reducible refine zc (f := 39) rfl ?_); refine zh (some 29) rfl rfl Tryd.func39 (by kernel_rfl) rfl #[.int .i64 ((za l0 x4_1).f0)] rfl hq ?_; (with_reducible refine (zX.calls ((za l0 x4_1).f0) t366 t367 t368 _ ?side1 A6.out).mono ?_); (case side1 => exact gb HG HB); rintro e w' ⟨rfl, ⟨nd, rfl⟩⟩; refine ⟨_, rfl, ?_⟩; have p369 : 0 ≤ (x4_1 : Int) := dq; have q369 : x4_1 < (l0.length : Int) := dq; obtain ⟨ad369, e369, hx369_0, hx369_1, hx369_2, hx369_3, hx369_4, hx369_5, hx369_6, hx369_7, hx369_8⟩ := zU (Kd.zF HR0.out HB.out) x4_1 p369 q369; obtain rfl : ad365 = ad369 := (by injection e369); replace p369 := eq_true p369; replace q369 := eq_true q369) | ((with_reducible refine zc (f := 40) rfl ?_); refine zh (some 40) rfl rfl Tryd.func40 (by kernel_rfl) rfl #[.agg #[.int .i64 ((za l0 x4_1).f0), .int .i64 ((za l0 x4_1).f1), .int .i64 ((za l0 x4_1).f2), .int .i64 ((za l0 x4_1).f3), .string ((za l0 x4_1).f4), .int .u64 ((za l0 x4_1).f5.f0), .int .u64 ((za l0 x4_1).f5.f1), .int .u64 ((za l0 x4_1).f5.f2), .int .u64 ((za l0 x4_1).f5.f3)]] rfl hq ?_; (with_reducible refine (zt.calls k1 ((za l0 x4_1).f0) ((za l0 x4_1).f1) ((za l0 x4_1).f2) ((za l0 x4_1).f3) ((za l0 x4_1).f4) ((za l0 x4_1).f5.f0) ((za l0 x4_1).f5.f1) ((za l0 x4_1).f5.f2) ((za l0 x4_1).f5.f3) true _ ?side1 A8.out).mono ?_); (case side1 => exact gb HG HB); rintro e w16 ⟨rfl, hb⟩; refine ⟨_, rfl, ?_⟩; replace HB := bst HB hb; (try clear hb); have p371 : 0 ≤ (x4_1 : Int) := dq; have q371 : x4_1 < (l0.length : Int) := dq; obtain ⟨ad371, e371, hx371_0, hx371_1, hx371_2, hx371_3, hx371_4, hx371_5, hx371_6, hx371_7, hx371_8⟩ := zU (Kd.zF HR0.out HB.out) x4_1 p371 q371; obtain rfl : ad365 = ad371 := (by injection e371); replace p371 := eq_true p371; replace q371 := eq_true q371) | ((with_reducible refine zc (f := 19) rfl ?_); refine zh (some 48) rfl rfl Tryd.func19 (by kernel_rfl) rfl #[.int .i64 ((za l0 x4_1).f0)] rfl hq ?_; (with_reducible refine (zv.calls ((za l0 x4_1).f0) true _ ?side1 A10.out).mono ?_); (case side1 => exact gb HG HB); rintro e w' ⟨rfl, ⟨nd, rfl⟩⟩; refine ⟨_, rfl, ?_⟩; have p373 : 0 ≤ (x4_1 : Int) := dq; have q373 : x4_1 < (l0.length : Int) := dq; obtain ⟨ad373, e373, hx373_0, hx373_1, hx373_2, hx373_3, hx373_4, hx373_5, hx373_6, hx373_7, hx373_8⟩ := zU (Kd.zF HR0.out HB.out) x4_1 p373 q373; obtain rfl : ad365 = ad373 := (by injection e373); replace p373 := eq_true p373; replace q373 := eq_true q373; have p374 : 0 ≤ (x4_1 : Int) := dq; have q374 : x4_1 < (l0.length : Int) := dq; obtain ⟨ad374, e374, hx374_0, hx374_1, hx374_2, hx374_3, hx374_4, hx374_5, hx374_6, hx374_7, hx374_8⟩ := zU (Kd.zF HR0.out HB.out) x4_1 p374 q374; obtain rfl : ad365 = ad374 := (by injection e374); replace p374 := eq_true p374; replace q374 := eq_true q374))
           go_roundg k1
           case measure => have := HK1.out; omega
           case rel => exact ⟨(wrap64 (x4_1 + 1)), eq0, H', ⟨by have := HK1.out; omega⟩, ⟨bl HB.out⟩⟩
        ·replace c11 := Bool.eq_false_iff.mpr c11
         subst c11
         replace H := ifF H
         have H' := zb.mk H
         clear H
         have p365 : 0 ≤ (x4_1 : Int) := dq
         have q365 : x4_1 < (l0.length : Int) := dq
         obtain ⟨ad365, e365, hx365_0, hx365_1, hx365_2, hx365_3, hx365_4, hx365_5, hx365_6, hx365_7, hx365_8⟩ := zU HR0.out x4_1 p365 q365
         cases e365
         replace hx365_0 := cb HB.out hx365_0
         replace hx365_1 := cb HB.out hx365_1
         replace hx365_2 := cb HB.out hx365_2
         replace hx365_3 := cb HB.out hx365_3
         replace hx365_4 := cb HB.out hx365_4
         replace hx365_5 := cb HB.out hx365_5
         replace hx365_6 := cb HB.out hx365_6
         replace hx365_7 := cb HB.out hx365_7
         replace hx365_8 := cb HB.out hx365_8
         replace p365 := eq_true p365
         replace q365 := eq_true q365
         go_wp2_with (first | ((with_reducible refine zc (f := 39) rfl ?_); refine zh (some 29) rfl rfl Tryd.func39 (by kernel_rfl) rfl #[.int .i64 ((za l0 x4_1).f0)] rfl hq ?_; (with_reducible refine (zX.calls ((za l0 x4_1).f0) t366 t367 t368 _ ?side1 A6.out).mono ?_); (case side1 => exact gb HG HB); rintro e w' ⟨rfl, ⟨nd, rfl⟩⟩; refine ⟨_, rfl, ?_⟩; have p369 : 0 ≤ (x4_1 : Int) := dq; have q369 : x4_1 < (l0.length : Int) := dq; obtain ⟨ad369, e369, hx369_0, hx369_1, hx369_2, hx369_3, hx369_4, hx369_5, hx369_6, hx369_7, hx369_8⟩ := zU (Kd.zF HR0.out HB.out) x4_1 p369 q369; obtain rfl : ad365 = ad369 := (by injection e369); replace p369 := eq_true p369; replace q369 := eq_true q369) | ((with_reducible refine zc (f := 40) rfl ?_); refine zh (some 40) rfl rfl Tryd.func40 (by kernel_rfl) rfl #[.agg #[.int .i64 ((za l0 x4_1).f0), .int .i64 ((za l0 x4_1).f1), .int .i64 ((za l0 x4_1).f2), .int .i64 ((za l0 x4_1).f3), .string ((za l0 x4_1).f4), .int .u64 ((za l0 x4_1).f5.f0), .int .u64 ((za l0 x4_1).f5.f1), .int .u64 ((za l0 x4_1).f5.f2), .int .u64 ((za l0 x4_1).f5.f3)]] rfl hq ?_; (with_reducible refine (zt.calls k1 ((za l0 x4_1).f0) ((za l0 x4_1).f1) ((za l0 x4_1).f2) ((za l0 x4_1).f3) ((za l0 x4_1).f4) ((za l0 x4_1).f5.f0) ((za l0 x4_1).f5.f1) ((za l0 x4_1).f5.f2) ((za l0 x4_1).f5.f3) true _ ?side1 A8.out).mono ?_); (case side1 => exact gb HG HB); rintro e w17 ⟨rfl, hb⟩; refine ⟨_, rfl, ?_⟩; replace HB := bst HB hb; (try clear hb); have p371 : 0 ≤ (x4_1 : Int) := dq; have q371 : x4_1 < (l0.length : Int) := dq; obtain ⟨ad371, e371, hx371_0, hx371_1, hx371_2, hx371_3, hx371_4, hx371_5, hx371_6, hx371_7, hx371_8⟩ := zU (Kd.zF HR0.out HB.out) x4_1 p371 q371; obtain rfl : ad365 = ad371 := (by injection e371); replace p371 := eq_true p371; replace q371 := eq_true q371) | ((with_reducible refine zc (f := 19) rfl ?_); refine zh (some 48) rfl rfl Tryd.func19 (by kernel_rfl) rfl #[.int .i64 ((za l0 x4_1).f0)] rfl hq ?_; (with_reducible refine (zv.calls ((za l0 x4_1).f0) false _ ?side1 A10.out).mono ?_); (case side1 => exact gb HG HB); rintro e w' ⟨rfl, ⟨nd, rfl⟩⟩; refine ⟨_, rfl, ?_⟩))
         go_roundg k1
         case measure => have := HK1.out; omega
         case rel => exact ⟨(wrap64 (x4_1 + 1)), eq0, H', ⟨by have := HK1.out; omega⟩, ⟨bl HB.out⟩⟩
       ·replace c9 := Bool.eq_false_iff.mpr c9
        subst c9
        replace H := ifF H
        simp only [Option.some.injEq, Prod.mk.injEq] at H
        obtain ⟨rfl, rfl⟩ := H
        have p365 : 0 ≤ (x4_1 : Int) := dq
        have q365 : x4_1 < (l0.length : Int) := dq
        obtain ⟨ad365, e365, hx365_0, hx365_1, hx365_2, hx365_3, hx365_4, hx365_5, hx365_6, hx365_7, hx365_8⟩ := zU HR0.out x4_1 p365 q365
        cases e365
        replace hx365_0 := cb HB.out hx365_0
        replace hx365_1 := cb HB.out hx365_1
        replace hx365_2 := cb HB.out hx365_2
        replace hx365_3 := cb HB.out hx365_3
        replace hx365_4 := cb HB.out hx365_4
        replace hx365_5 := cb HB.out hx365_5
        replace hx365_6 := cb HB.out hx365_6
        replace hx365_7 := cb HB.out hx365_7
        replace hx365_8 := cb HB.out hx365_8
        replace p365 := eq_true p365
        replace q365 := eq_true q365
        go_wp2_with (first | ((with_reducible refine zc (f := 39) rfl ?_); refine zh (some 29) rfl rfl Tryd.func39 (by kernel_rfl) rfl #[.int .i64 ((za l0 x4_1).f0)] rfl hq ?_; (with_reducible refine (zX.calls ((za l0 x4_1).f0) t366 t367 t368 _ ?side1 A6.out).mono ?_); (case side1 => exact gb HG HB); rintro e w' ⟨rfl, ⟨nd, rfl⟩⟩; refine ⟨_, rfl, ?_⟩; have p369 : 0 ≤ (x4_1 : Int) := dq; have q369 : x4_1 < (l0.length : Int) := dq; obtain ⟨ad369, e369, hx369_0, hx369_1, hx369_2, hx369_3, hx369_4, hx369_5, hx369_6, hx369_7, hx369_8⟩ := zU (Kd.zF HR0.out HB.out) x4_1 p369 q369; obtain rfl : ad365 = ad369 := (by injection e369); replace p369 := eq_true p369; replace q369 := eq_true q369) | ((with_reducible refine zc (f := 40) rfl ?_); refine zh (some 40) rfl rfl Tryd.func40 (by kernel_rfl) rfl #[.agg #[.int .i64 ((za l0 x4_1).f0), .int .i64 ((za l0 x4_1).f1), .int .i64 ((za l0 x4_1).f2), .int .i64 ((za l0 x4_1).f3), .string ((za l0 x4_1).f4), .int .u64 ((za l0 x4_1).f5.f0), .int .u64 ((za l0 x4_1).f5.f1), .int .u64 ((za l0 x4_1).f5.f2), .int .u64 ((za l0 x4_1).f5.f3)]] rfl hq ?_; (with_reducible refine (zt.calls k1 ((za l0 x4_1).f0) ((za l0 x4_1).f1) ((za l0 x4_1).f2) ((za l0 x4_1).f3) ((za l0 x4_1).f4) ((za l0 x4_1).f5.f0) ((za l0 x4_1).f5.f1) ((za l0 x4_1).f5.f2) ((za l0 x4_1).f5.f3) false _ ?side1 A8.out).mono ?_); (case side1 => exact gb HG HB); rintro e w18 ⟨rfl, hb⟩; refine ⟨_, rfl, ?_⟩; replace HB := bst HB hb; (try clear hb)))
        go_ret2
        exact ⟨eq1, bl HB.out⟩
     ·rw [if_neg c4] at H
      have c4b0 := decide_eq_false c4
      clear c4
      obtain ⟨ji19, hji19⟩ : ∃ j_ : Int, (wrap64 ((l0.length : Int) - 1)) = j_ := ⟨_, rfl⟩
      rw [hji19] at H
      have hji19w : (IntKind.i64.wrap ((l0.length : Int) - 1)) = ji19 := (qd _).trans hji19
      by_cases c20 : 0 ≤ (ji19)
      ·rw [if_pos c20] at H
       have c20b0 := decide_eq_true c20
       clear c20
       replace H := qh H; obtain ⟨c21, H⟩ := H
       have c21b0 := decide_eq_true c21
       clear c21
       replace H := zO H; obtain ⟨⟨t362, t363, t364⟩, A22, H⟩ := H; try dsimp only at H
       by_cases c23 : t364 = true
       ·subst c23
        replace H := ifT H
        simp only [Option.some.injEq, Prod.mk.injEq] at H
        obtain ⟨rfl, rfl⟩ := H
        have p361 : 0 ≤ ((ji19) : Int) := dq
        have q361 : (ji19) < (l0.length : Int) := dq
        obtain ⟨ad361, e361, hx361_0, hx361_1, hx361_2, hx361_3, hx361_4, hx361_5, hx361_6, hx361_7, hx361_8⟩ := zU HR0.out (ji19) p361 q361
        cases e361
        replace hx361_0 := cb HB.out hx361_0
        replace hx361_1 := cb HB.out hx361_1
        replace hx361_2 := cb HB.out hx361_2
        replace hx361_3 := cb HB.out hx361_3
        replace hx361_4 := cb HB.out hx361_4
        replace hx361_5 := cb HB.out hx361_5
        replace hx361_6 := cb HB.out hx361_6
        replace hx361_7 := cb HB.out hx361_7
        replace hx361_8 := cb HB.out hx361_8
        replace p361 := eq_true p361
        replace q361 := eq_true q361
        go_wp2_with (((with_reducible refine zc (f := 39) rfl ?_); refine zh (some 80) rfl rfl Tryd.func39 (by kernel_rfl) rfl #[.int .i64 ((za l0 (ji19)).f0)] rfl (by (try simp only [List.map_toArray, List.map_cons, List.map_nil]); rfl) ?_; (with_reducible refine (zX.calls ((za l0 (ji19)).f0) t362 t363 true _ ?side1 A22.out).mono ?_); (case side1 => exact gb HG HB); rintro e w' ⟨rfl, ⟨nd, rfl⟩⟩; refine ⟨_, rfl, ?_⟩))
        go_ret2
        exact ⟨by rfl, bl HB.out⟩
       ·replace c23 := Bool.eq_false_iff.mpr c23
        subst c23
        replace H := ifF H
        simp only [Option.some.injEq, Prod.mk.injEq] at H
        obtain ⟨rfl, rfl⟩ := H
        have p361 : 0 ≤ ((ji19) : Int) := dq
        have q361 : (ji19) < (l0.length : Int) := dq
        obtain ⟨ad361, e361, hx361_0, hx361_1, hx361_2, hx361_3, hx361_4, hx361_5, hx361_6, hx361_7, hx361_8⟩ := zU HR0.out (ji19) p361 q361
        cases e361
        replace hx361_0 := cb HB.out hx361_0
        replace hx361_1 := cb HB.out hx361_1
        replace hx361_2 := cb HB.out hx361_2
        replace hx361_3 := cb HB.out hx361_3
        replace hx361_4 := cb HB.out hx361_4
        replace hx361_5 := cb HB.out hx361_5
        replace hx361_6 := cb HB.out hx361_6
        replace hx361_7 := cb HB.out hx361_7
        replace hx361_8 := cb HB.out hx361_8
        replace p361 := eq_true p361
        replace q361 := eq_true q361
        go_wp2_with (((with_reducible refine zc (f := 39) rfl ?_); refine zh (some 80) rfl rfl Tryd.func39 (by kernel_rfl) rfl #[.int .i64 ((za l0 (ji19)).f0)] rfl (by (try simp only [List.map_toArray, List.map_cons, List.map_nil]); rfl) ?_; (with_reducible refine (zX.calls ((za l0 (ji19)).f0) t362 t363 false _ ?side1 A22.out).mono ?_); (case side1 => exact gb HG HB); rintro e w' ⟨rfl, ⟨nd, rfl⟩⟩; refine ⟨_, rfl, ?_⟩))
        go_ret2
        exact ⟨by rfl, bl HB.out⟩
      ·rw [if_neg c20] at H
       exact absurd H (by simp)
def harrowlaw20_round.l0 : Nat → List (S34) → Int → Int → Option (Bool)
 | 0, _, _, _ => none
 | k + 1, x0, x1, x5 => if x5 ≤ (x0.length : Int) then (if 0 ≤ x1 then (if x1 < (x0.length : Int) then (if ((za x0 x1).f0) = 14 then (harrowlaw20_round.l0 k x0 (wrap64 (x1 + ((za x0 x1).f1))) (wrap64 (x5 + 1))) else (some false)) else (none)) else (none)) else (some true)
def harrowlaw20_round.f (k : Nat) (l0 : List (S34)) (a1 : Int) : Option (Bool) := harrowlaw20_round.l0 k l0 a1 0
def sentS : S34 := (⟨-77, 0, 0, 0, ⟨#[]⟩, ⟨0, 0, 0, 0⟩⟩ : S34)
@[reducible] def moreOf : Value → Value
 | .slice a n c => .slice a (n + 1) c
 | v => v
def zG.f (l0 : List (S34)) : Option ((List (S34))) := (some (([] : List (S34)) : List (S34))).bind fun y406 => (if y406.length + l0.length < 1759218604441 then ((some (y406 ++ l0 : List (S34))).bind fun y409 => (if y409.length < 1759218604441 then ((some (y409 ++ [(⟨(-77), 0, 0, 0, (⟨#[]⟩ : ByteArray), (⟨0, 0, 0, 0⟩ : S32)⟩ : S34)] : List (S34))).bind fun y412 => (if 0 ≤ (l0.length : Int) then (if (l0.length : Int) ≤ (y412.length : Int) then (some (y412.take ((l0.length : Int) : Int).toNat)) else (none)) else (none))) else (none))) else (none))
theorem zG.calls (A0 : Option Addr) (c0 : Nat) (l0 r : List (S34)) (w : World) (hG : GW w) (hr0 : Kd.C k34 w A0 l0.length l0) (hc0 : l0.length ≤ c0) (h : zG.f l0 = some r) :
  Calls Tryd.prog 13 #[.slice A0 l0.length c0] w fun e w' => ∃ v0_ : Value, e = .returned (v0_) ∧ Kd.R k34 34 w' w.heap.size (fun _ => True) v0_ r ∧ Kd.R k34 34 w' w.heap.size (fun _ => True) (moreOf v0_) (r ++ [sentS]) ∧ Below w.heap.size w w' := by
 have hu34 := Tryd.underlying34
 have HR0 := zb.mk hr0
 have HC0 := zb.mk hc0
 clear hr0 hc0
 have HG := zb.mk hG
 clear hG
 have HB := zb.mk (Below.refl w.heap.size w)
 have H : ((some (([] : List (S34)) : List (S34))).bind fun y406 => (if y406.length + l0.length < 1759218604441 then ((some (y406 ++ l0 : List (S34))).bind fun y409 => (if y409.length < 1759218604441 then ((some (y409 ++ [(⟨(-77), 0, 0, 0, (⟨#[]⟩ : ByteArray), (⟨0, 0, 0, 0⟩ : S32)⟩ : S34)] : List (S34))).bind fun y412 => (if 0 ≤ (l0.length : Int) then (if (l0.length : Int) ≤ (y412.length : Int) then (some (y412.take ((l0.length : Int) : Int).toNat)) else (none)) else (none))) else (none))) else (none))) = some r := h
 clear h
 obtain ⟨y406, Ny406, H⟩ := bindY H; try dsimp only at H
 by_cases c2 : y406.length + l0.length < 1759218604441
 ·rw [if_pos c2] at H
  have LMc2 := zb.mk c2
  clear c2
  obtain ⟨y409, Ny409, H⟩ := bindY H; try dsimp only at H
  replace H := qh H; obtain ⟨c3, H⟩ := H
  have LMc3 := zb.mk c3
  clear c3
  obtain ⟨y412, Ny412, H⟩ := bindY H; try dsimp only at H
  replace H := qh H; obtain ⟨c4, H⟩ := H
  have c4b0 := eq_true c4
  have c4b1 := decide_eq_true c4
  clear c4
  replace H := qh H; obtain ⟨c5, H⟩ := H
  have c5b0 := eq_true c5
  have c5b1 := decide_eq_true c5
  clear c5
  obtain ⟨y415, hy415⟩ : ∃ y_ : List (S34), y_ = (y412.take ((l0.length : Int) : Int).toNat) := ⟨_, rfl⟩
  replace H : (some y415) = some r := by (rw [hy415]; with_reducible exact H)
  have Ny415 := zb.mk hy415
  clear hy415
  obtain rfl := Option.some.inj H
  go_enter Tryd.func13, Tryd.ntmps13
  go_wp2_with (first | ((with_reducible refine z3 (N := 3) rfl ?_); refine Kd.R_lit k34 _ 34 ?hg (N := 3) ?hd (xs := ([] : List (S34))) (inner := []) (ok := fun _ => True) (okp := fun _ => True) ?hr ?hp (fun _ hk => hk) trivial (Below.refl _ _) (Nat.le_refl _) (by simp) ?_; (case hd => rfl); (case hg => rfl); (case hr => (go_simp; done)); (case hp => exact (qU.none _ _)); intro v407 w6 ho7 hb hg_ hnew_; clear hg_ hnew_; (rw [← Ny406.out] at ho7); have HO408 := zb.mk (Kd.rlo ho7 HB); replace HB := bst HB hb; clear hb ho7) | ((with_reducible refine qu (b := .append) (xs := #[.tmp 3, .tmp 4]) rfl ?_); at_builtin; refine Kd.jI k34 (w0 := w) w.heap.size rfl (.tmp 3) (.tmp 4) 22 34 (.agg #[(.int .i64 0), (.int .i64 0), (.int .i64 0), (.int .i64 0), (.string ⟨#[]⟩), (.int .u64 0), (.int .u64 0), (.int .u64 0), (.int .u64 0)]) 80 rfl Tryd.underlying22 info34 rfl (by decide) (by omega) v407 y406 l0 _ _ _ (fun _ => True) (fun _ => False) rfl rfl ?aO ?aR (fun _ _ h => h) (fun _ h => h.elim) ?aF ?aB ?aS ?aL ?_; (case aR => exact Kd.cx (Kd.zF HR0.out HB.out)); (case aB => exact (bl HB.out)); (case aF => exact (fun _ _ => trivial)); (case aO => exact (Kd.rx HO408.out)); (case aS => exact (zj (bl HB.out))); (case aL => have := LMc2.out; omega); intro v410 w8 ho hb hg hat; rw [← Ny409.out] at ho; replace HB := zb.mk (hb); have HO411 := zb.mk (ho); clear HO408; clear ho hb hg hat) | ((with_reducible refine qu (b := .append) (xs := #[.tmp 5, .tmp 7]) rfl ?_); at_builtin; refine Kd.xE k34 (w0 := w) w.heap.size rfl (.tmp 5) (.tmp 7) 22 34 (.agg #[(.int .i64 0), (.int .i64 0), (.int .i64 0), (.int .i64 0), (.string ⟨#[]⟩), (.int .u64 0), (.int .u64 0), (.int .u64 0), (.int .u64 0)]) 80 rfl Tryd.underlying22 info34 rfl (by decide) (by omega) v410 y409 (⟨(-77), 0, 0, 0, (⟨#[]⟩ : ByteArray), (⟨0, 0, 0, 0⟩ : S32)⟩ : S34) [.int .i64 (-77), .int .i64 0, .int .i64 0, .int .i64 0, .string (⟨#[]⟩ : ByteArray), .int .u64 0, .int .u64 0, .int .u64 0, .int .u64 0] (fun _ => True) (fun _ => False) rfl rfl ?aP (fun _ hk => hk.elim) ?aF ?aO ?aB ?aS ?aL ?_; (case aP => exact xq _ _ _ (⟨(-77), 0, 0, 0, (⟨#[]⟩ : ByteArray), (⟨0, 0, 0, 0⟩ : S32)⟩ : S34)); (case aB => exact (bl HB.out)); (case aF => exact (fun _ _ => trivial)); (case aO => exact (Kd.rx HO411.out)); (case aS => exact (zj (bl HB.out))); (case aL => have := LMc3.out; omega); intro v413 w9 ho hb hg hat; rw [← Ny412.out] at ho; replace HB := zb.mk (hb); have HO414 := zb.mk (ho); clear HO411; clear ho hb hg hat; obtain ⟨Ao10, co10, eo10⟩ := Kd.zw HO414.out; subst eo10; have q11 : ((l0.length : Int) : Int) ≤ ((y412.length : Int) : Int) := dq; obtain ⟨i011, hi011, _, hsz11, _⟩ := info_parts info34; have hcut11 := cut_to (P := Tryd.prog) 22 34 .i64 Tryd.underlying22 hi011 Ao10 y412.length co10 (l0.length : Int) (dq) q11 (Kd.zf HO414.out).2.1; have hr11 := Kd.R_take (m := ((l0.length : Int) : Int).toNat) HO414.out (by omega); have hy11 : y415.length = ((l0.length : Int) : Int).toNat := (by rw [Ny415.out, List.length_take]; omega); rw [← Ny415.out] at hr11; rw [← hy11] at hr11 hcut11; have HX := HO414; clear hy11 hi011 hsz11 HO414; have HO417 := zb.mk hr11; clear hr11; replace q11 := eq_true q11))
  go_ret
  have ey : y412 = y415 ++ [sentS] := by rw [Ny415.out, Ny412.out, Ny409.out, Ny406.out]; simp [sentS]
  have el : y412.length = y415.length + 1 := by rw [Ny415.out, Ny412.out, Ny409.out, Ny406.out, List.length_take]; simp
  exact ⟨_, eq1, Kd.rx HO417.out, by rw [← ey]; show Kd.R _ _ _ _ _ (.slice _ (y415.length + 1) _) _; rw [← el]; (with_reducible skip); exact HX.out, bl HB.out⟩
 ·rw [if_neg c2] at H
  exact absurd H (by simp)
def qM.f (l0 : List (S34)) : Option ((List (S34))) := (some (([] : List (S34)) : List (S34))).bind fun y418 => (if y418.length + l0.length < 1759218604441 then (some (y418 ++ l0)) else (none))
theorem qM.calls (A0 : Option Addr) (c0 : Nat) (l0 r : List (S34)) (w : World) (hG : GW w) (hr0 : Kd.C k34 w A0 l0.length l0) (hc0 : l0.length ≤ c0) (h : qM.f l0 = some r) :
  Calls Tryd.prog 33 #[.slice A0 l0.length c0] w fun e w' => ∃ v0_ : Value, e = .returned (v0_) ∧ Kd.R k34 34 w' w.heap.size (fun _ => True) v0_ r ∧ Below w.heap.size w w' := by
 have HR0 := zb.mk hr0
 have HC0 := zb.mk hc0
 clear hr0 hc0
 have HG := zb.mk hG
 clear hG
 have HB := zb.mk (Below.refl w.heap.size w)
 have H : ((some (([] : List (S34)) : List (S34))).bind fun y418 => (if y418.length + l0.length < 1759218604441 then (some (y418 ++ l0)) else (none))) = some r := h
 clear h
 obtain ⟨y418, Ny418, H⟩ := bindY H; try dsimp only at H
 by_cases c2 : y418.length + l0.length < 1759218604441
 ·rw [if_pos c2] at H
  have LMc2 := zb.mk c2
  clear c2
  obtain ⟨y421, hy421⟩ : ∃ y_ : List (S34), y_ = (y418 ++ l0) := ⟨_, rfl⟩
  replace H : (some y421) = some r := by (rw [hy421]; with_reducible exact H)
  have Ny421 := zb.mk hy421
  clear hy421
  obtain rfl := Option.some.inj H
  go_enter Tryd.func33, Tryd.ntmps33
  go_wp2_with (first | ((with_reducible refine z3 (N := 3) rfl ?_); refine Kd.R_lit k34 _ 34 ?hg (N := 3) ?hd (xs := ([] : List (S34))) (inner := []) (ok := fun _ => True) (okp := fun _ => True) ?hr ?hp (fun _ hk => hk) trivial (Below.refl _ _) (Nat.le_refl _) (by simp) ?_; (case hd => rfl); (case hg => rfl); (case hr => (go_simp; done)); (case hp => exact (qU.none _ _)); intro v419 w3 ho4 hb hg_ hnew_; clear hg_ hnew_; (rw [← Ny418.out] at ho4); have HO420 := zb.mk (Kd.rlo ho4 HB); replace HB := bst HB hb; clear hb ho4) | ((with_reducible refine qu (b := .append) (xs := #[.tmp 3, .tmp 4]) rfl ?_); at_builtin; refine Kd.jI k34 (w0 := w) w.heap.size rfl (.tmp 3) (.tmp 4) 22 34 (.agg #[(.int .i64 0), (.int .i64 0), (.int .i64 0), (.int .i64 0), (.string ⟨#[]⟩), (.int .u64 0), (.int .u64 0), (.int .u64 0), (.int .u64 0)]) 80 rfl Tryd.underlying22 info34 rfl (by decide) (by omega) v419 y418 l0 _ _ _ (fun _ => True) (fun _ => False) rfl rfl ?aO ?aR (fun _ _ h => h) (fun _ h => h.elim) ?aF ?aB ?aS ?aL ?_; (case aR => exact Kd.cx (Kd.zF HR0.out HB.out)); (case aB => exact (bl HB.out)); (case aF => exact (fun _ _ => trivial)); (case aO => exact (Kd.rx HO420.out)); (case aS => exact (zj (bl HB.out))); (case aL => have := LMc2.out; omega); intro v422 w5 ho hb hg hat; rw [← Ny421.out] at ho; replace HB := zb.mk (hb); have HO423 := zb.mk (ho); clear HO420; clear ho hb hg hat))
  go_ret
  exact ⟨_, eq1, Kd.rx HO423.out, bl HB.out⟩
 ·rw [if_neg c2] at H
  exact absurd H (by simp)
def qa.l0 : Nat → List (S34) → List (S34) → Int → Option ((List (S34)))
 | 0, _, _, _ => none
 | k + 1, x0, x3, x4 => if (wrap64 (x4 + 1)) < (x0.length : Int) then (if 0 ≤ x4 then (if x4 < (x0.length : Int) then (if ((za x0 x4).f0) = 15 then (if 0 ≤ (wrap64 (x4 + 1)) then (if ((za x0 (wrap64 (x4 + 1))).f0) = 16 then (if x4 < (x3.length : Int) then (qa.l0 k x0 (x3.set (x4 : Int).toNat (⟨14, (za x3 x4).f1, (za x3 x4).f2, (za x3 x4).f3, (za x3 x4).f4, (⟨(za x3 x4).f5.f0, (za x3 x4).f5.f1, (za x3 x4).f5.f2, (za x3 x4).f5.f3⟩ : S32)⟩ : S34)) (wrap64 (x4 + 1))) else (none)) else (qa.l0 k x0 x3 (wrap64 (x4 + 1)))) else (none)) else (qa.l0 k x0 x3 (wrap64 (x4 + 1)))) else (none)) else (none)) else (some x3)
def qa.f (k : Nat) (l0 : List (S34)) : Option ((List (S34))) := (qM.f l0).bind fun t424 => (qa.l0 k l0 t424 0)
theorem qa.calls (k : Nat) (A0 : Option Addr) (c0 : Nat) (l0 r : List (S34)) (w : World) (hG : GW w) (hr0 : Kd.C k34 w A0 l0.length l0) (hc0 : l0.length ≤ c0) (h : qa.f k l0 = some r) :
  Calls Tryd.prog 34 #[.slice A0 l0.length c0] w fun e w' => ∃ v0_ : Value, e = .returned (v0_) ∧ Kd.R k34 34 w' w.heap.size (fun _ => True) v0_ r ∧ Below w.heap.size w w' := by
 have HR0 := zb.mk hr0
 have HC0 := zb.mk hc0
 clear hr0 hc0
 have HG := zb.mk hG
 clear hG
 have HB := zb.mk (Below.refl w.heap.size w)
 have H : ((qM.f l0).bind fun t424 => (qa.l0 k l0 t424 0)) = some r := h
 clear h
 replace H := zO H; obtain ⟨t424, A2, H⟩ := H
 have H' := zb.mk H
 clear H
 go_enter Tryd.func34, Tryd.ntmps34
 go_wp2_with (((with_reducible refine zc (f := 33) rfl ?_); refine zh (some 6) rfl rfl Tryd.func33 (by kernel_rfl) rfl #[.slice A0 l0.length c0] rfl hq ?_; (with_reducible refine (qM.calls _ _ l0 t424 _ ?side3 ?side1 ?side2 A2.out).mono ?_); (case side1 => exact Kd.cx HR0.out); (case side2 => exact HC0.out); (case side3 => exact gb HG HB); rintro e w3 ⟨v425, rfl, ho0, hb⟩; refine ⟨_, rfl, ?_⟩; have HO426 := zb.mk (Kd.rlo ho0 HB); replace HB := bst HB hb; (try clear hb); (try clear ho0)))
 go_loopg [4] k (fun kq v4 w' => ∃ (x3_1 : List (S34)) (x4_1 : Int), v4 = .int .i64 x4_1 ∧ zb (qa.l0 kq l0 x3_1 x4_1 = some r) ∧ zb (kq ≤ k) ∧ zb (Kd.R k34 34 w' w.heap.size (fun _ => True) v425 x3_1) ∧ zb (Below w.heap.size w w'))
 case atStart => exact ⟨(t424), (0), eq0, H', ⟨Nat.le_refl _⟩, ⟨Kd.rx HO426.out⟩, ⟨bl HB.out⟩⟩
 case round =>
  clear H'
  obtain ⟨x3_1, x4_1, rfl, HA, HK1, HO_3, HB⟩ := hrel
  cases gk with
  | zero => exact absurd HA.out (by simp [qa.l0])
  | succ k1 =>
   have H := HA.out
   clear HA
   simp only [qa.l0] at H
   by_cases c4 : (wrap64 (x4_1 + 1)) < (l0.length : Int)
   ·rw [if_pos c4] at H
    have c4b0 := decide_eq_true c4
    clear c4
    replace H := qh H; obtain ⟨c5, H⟩ := H
    have c5b0 := decide_eq_true c5
    clear c5
    replace H := qh H; obtain ⟨c6, H⟩ := H
    have c6b0 := decide_eq_true c6
    clear c6
    by_cases c7 : ((za l0 x4_1).f0) = 15
    ·rw [if_pos c7] at H
     have c7b0 := beq_iff_eq.mpr c7
     have c7b1 := bne_eq_false_iff_eq.mpr c7
     clear c7
     obtain ⟨ji8, hji8⟩ : ∃ j_ : Int, (wrap64 (x4_1 + 1)) = j_ := ⟨_, rfl⟩
     rw [hji8] at H
     (try rw [hji8] at c4b0)
     have hji8w : (IntKind.i64.wrap (x4_1 + 1)) = ji8 := (qd _).trans hji8
     replace H := qh H; obtain ⟨c9, H⟩ := H
     have c9b0 := decide_eq_true c9
     clear c9
     by_cases c10 : ((za l0 (ji8)).f0) = 16
     ·rw [if_pos c10] at H
      have c10b0 := beq_iff_eq.mpr c10
      have c10b1 := bne_eq_false_iff_eq.mpr c10
      clear c10
      replace H := qh H; obtain ⟨c11, H⟩ := H
      have c11b0 := decide_eq_true c11
      clear c11
      obtain ⟨y429, hy429⟩ : ∃ y_ : List (S34), y_ = (x3_1.set (x4_1 : Int).toNat (⟨14, (za x3_1 x4_1).f1, (za x3_1 x4_1).f2, (za x3_1 x4_1).f3, (za x3_1 x4_1).f4, (⟨(za x3_1 x4_1).f5.f0, (za x3_1 x4_1).f5.f1, (za x3_1 x4_1).f5.f2, (za x3_1 x4_1).f5.f3⟩ : S32)⟩ : S34)) := ⟨_, rfl⟩
      replace H : (qa.l0 k1 l0 y429 ji8) = some r := by (rw [hy429]; with_reducible exact H)
      have Ny429 := zb.mk hy429
      clear hy429
      have H' := zb.mk H
      clear H
      have p427 : 0 ≤ (x4_1 : Int) := dq
      have q427 : x4_1 < (l0.length : Int) := dq
      obtain ⟨ad427, e427, hx427_0, hx427_1, hx427_2, hx427_3, hx427_4, hx427_5, hx427_6, hx427_7, hx427_8⟩ := zU HR0.out x4_1 p427 q427
      cases e427
      replace hx427_0 := cb HB.out hx427_0
      replace hx427_1 := cb HB.out hx427_1
      replace hx427_2 := cb HB.out hx427_2
      replace hx427_3 := cb HB.out hx427_3
      replace hx427_4 := cb HB.out hx427_4
      replace hx427_5 := cb HB.out hx427_5
      replace hx427_6 := cb HB.out hx427_6
      replace hx427_7 := cb HB.out hx427_7
      replace hx427_8 := cb HB.out hx427_8
      replace p427 := eq_true p427
      replace q427 := eq_true q427
      have p428 : 0 ≤ ((ji8) : Int) := dq
      have q428 : (ji8) < (l0.length : Int) := dq
      obtain ⟨ad428, e428, hx428_0, hx428_1, hx428_2, hx428_3, hx428_4, hx428_5, hx428_6, hx428_7, hx428_8⟩ := zU HR0.out (ji8) p428 q428
      obtain rfl : ad427 = ad428 := (by injection e428)
      replace hx428_0 := cb HB.out hx428_0
      replace hx428_1 := cb HB.out hx428_1
      replace hx428_2 := cb HB.out hx428_2
      replace hx428_3 := cb HB.out hx428_3
      replace hx428_4 := cb HB.out hx428_4
      replace hx428_5 := cb HB.out hx428_5
      replace hx428_6 := cb HB.out hx428_6
      replace hx428_7 := cb HB.out hx428_7
      replace hx428_8 := cb HB.out hx428_8
      replace p428 := eq_true p428
      replace q428 := eq_true q428
      have p12 : 0 ≤ (x4_1 : Int) := dq
      have q12 : (x4_1 : Int) < ((x3_1.length : Int) : Int) := dq
      obtain ⟨go12, co12, eo12, gb12, gl12, cl12, HG12⟩ := Kd.xR HO_3.out (by omega)
      (cases eo12)
      have GB12 := zb.mk gb12
      have GG12 := zb.mk HG12
      clear gb12 gl12 HG12
      obtain ⟨ce12, hcl12, hM12, hcc12, hfr12⟩ := Kd.xA HO_3.out z34 (x4_1 : Int) p12 q12
      obtain rfl := qG hM12
      have hx12_0 : wr.cell? ⟨go12, (x4_1 : Int).toNat * 9, none⟩ = some (.int .i64 ((za x3_1 x4_1).f0)) := hcc12 0 _ rfl
      have hx12_1 : wr.cell? ⟨go12, (x4_1 : Int).toNat * 9 + 1, none⟩ = some (.int .i64 ((za x3_1 x4_1).f1)) := hcc12 1 _ rfl
      have hx12_2 : wr.cell? ⟨go12, (x4_1 : Int).toNat * 9 + 2, none⟩ = some (.int .i64 ((za x3_1 x4_1).f2)) := hcc12 2 _ rfl
      have hx12_3 : wr.cell? ⟨go12, (x4_1 : Int).toNat * 9 + 3, none⟩ = some (.int .i64 ((za x3_1 x4_1).f3)) := hcc12 3 _ rfl
      have hx12_4 : wr.cell? ⟨go12, (x4_1 : Int).toNat * 9 + 4, none⟩ = some (.string ((za x3_1 x4_1).f4)) := hcc12 4 _ rfl
      have hx12_5 : wr.cell? ⟨go12, (x4_1 : Int).toNat * 9 + 5, none⟩ = some (.int .u64 ((za x3_1 x4_1).f5.f0)) := hcc12 5 _ rfl
      have hx12_6 : wr.cell? ⟨go12, (x4_1 : Int).toNat * 9 + 6, none⟩ = some (.int .u64 ((za x3_1 x4_1).f5.f1)) := hcc12 6 _ rfl
      have hx12_7 : wr.cell? ⟨go12, (x4_1 : Int).toNat * 9 + 7, none⟩ = some (.int .u64 ((za x3_1 x4_1).f5.f2)) := hcc12 7 _ rfl
      have hx12_8 : wr.cell? ⟨go12, (x4_1 : Int).toNat * 9 + 8, none⟩ = some (.int .u64 ((za x3_1 x4_1).f5.f3)) := hcc12 8 _ rfl
      have hf12_0 : wr.frozen? ⟨go12, (x4_1 : Int).toNat * 9, none⟩ = false := hfr12 0
      have hf12_1 : wr.frozen? ⟨go12, (x4_1 : Int).toNat * 9 + 1, none⟩ = false := hfr12 1
      have hf12_2 : wr.frozen? ⟨go12, (x4_1 : Int).toNat * 9 + 2, none⟩ = false := hfr12 2
      have hf12_3 : wr.frozen? ⟨go12, (x4_1 : Int).toNat * 9 + 3, none⟩ = false := hfr12 3
      have hf12_4 : wr.frozen? ⟨go12, (x4_1 : Int).toNat * 9 + 4, none⟩ = false := hfr12 4
      have hf12_5 : wr.frozen? ⟨go12, (x4_1 : Int).toNat * 9 + 5, none⟩ = false := hfr12 5
      have hf12_6 : wr.frozen? ⟨go12, (x4_1 : Int).toNat * 9 + 6, none⟩ = false := hfr12 6
      have hf12_7 : wr.frozen? ⟨go12, (x4_1 : Int).toNat * 9 + 7, none⟩ = false := hfr12 7
      have hf12_8 : wr.frozen? ⟨go12, (x4_1 : Int).toNat * 9 + 8, none⟩ = false := hfr12 8
      clear hcl12 hcc12 hfr12 hM12
      replace p12 := eq_true p12
      replace q12 := eq_true q12
      have HX13 := zb.mk (show Kd.R k34 34 wr w.heap.size (fun _ => True) (.slice (some ⟨go12, 0, none⟩) x3_1.length co12) x3_1 from (Kd.rx HO_3.out))
      obtain ⟨ce13, hcl13, hM13, hcc13, hfr13⟩ := Kd.xA HX13.out z34 (x4_1 : Int) (dq) (by have h_ : (x4_1 : Int) < ((x3_1.length : Int) : Int) := dq; exact h_)
      obtain rfl := qG hM13
      have HP13 := Kd.R_seg HX13.out (x4_1 : Int) (dq) (by have h_ : (x4_1 : Int) < ((x3_1.length : Int) : Int) := dq; exact h_) (seg := [.int .i64 14]) (j := 0) hcl13 hcc13 (show 1 ≤ 9 from by decide) (x' := (⟨14, (za x3_1 x4_1).f1, (za x3_1 x4_1).f2, (za x3_1 x4_1).f3, (za x3_1 x4_1).f4, (⟨(za x3_1 x4_1).f5.f0, (za x3_1 x4_1).f5.f1, (za x3_1 x4_1).f5.f2, (za x3_1 x4_1).f5.f3⟩ : S32)⟩ : S34)) (xq _ _ _ (⟨14, (za x3_1 x4_1).f1, (za x3_1 x4_1).f2, (za x3_1 x4_1).f3, (za x3_1 x4_1).f4, (⟨(za x3_1 x4_1).f5.f0, (za x3_1 x4_1).f5.f1, (za x3_1 x4_1).f5.f2, (za x3_1 x4_1).f5.f3⟩ : S32)⟩ : S34) ) (fun _ hk => hk)
      have hx13_0 := hcc13 0 _ rfl
      (try simp only [show (k34).sz = 9 from rfl, Nat.mul_one, Nat.add_zero] at hx13_0)
      have hf13_0 := hfr13 0
      (try simp only [show (k34).sz = 9 from rfl, Nat.mul_one, Nat.add_zero] at hf13_0)
      clear hcl13 hcc13 hfr13 hM13
      go_wp2_with (((with_reducible refine zM (t := 3) (p := 32) rfl ?_); refine zB (t := 3) (p := 32) (v := ?vo_w14) (w1 := (wr.setCell ⟨go12, (x4_1 : Int).toNat * 9, none⟩ (.int .i64 14))) ?hg ?ho ?hn ?hr ?_; (case ho => rfl); (case hg => rfl); (case hn => rfl); (case hr => (go_simp; done)); intro w14 hw; have hg : wr.grownBy w14 (some go12) := (by rw [hw]; exact HP13.2); have hp_ : Kd.R k34 34 w14 w.heap.size (fun _ => True) (.slice (some ⟨go12, 0, none⟩) x3_1.length co12) y429 := (by rw [hw, Ny429.out]; exact HP13.1); clear HP13; replace HO_3 := zb.mk (hp_); replace HB := zb.mk ((by rw [hw]; exact zz (HB.out) GB12.out : Below w.heap.size w w14)); clear hg hw hp_))
      go_roundg k1
      case measure => have := HK1.out; omega
      case rel => exact ⟨(y429), (ji8), (by rfl), H', ⟨by have := HK1.out; omega⟩, ⟨Kd.rx HO_3.out⟩, ⟨bl HB.out⟩⟩
     ·rw [if_neg c10] at H
      have c10b0 := beq_eq_false_iff_ne.mpr c10
      have c10b1 := bne_iff_ne.mpr c10
      have H' := zb.mk H
      clear H
      have p427 : 0 ≤ (x4_1 : Int) := dq
      have q427 : x4_1 < (l0.length : Int) := dq
      obtain ⟨ad427, e427, hx427_0, hx427_1, hx427_2, hx427_3, hx427_4, hx427_5, hx427_6, hx427_7, hx427_8⟩ := zU HR0.out x4_1 p427 q427
      cases e427
      replace hx427_0 := cb HB.out hx427_0
      replace hx427_1 := cb HB.out hx427_1
      replace hx427_2 := cb HB.out hx427_2
      replace hx427_3 := cb HB.out hx427_3
      replace hx427_4 := cb HB.out hx427_4
      replace hx427_5 := cb HB.out hx427_5
      replace hx427_6 := cb HB.out hx427_6
      replace hx427_7 := cb HB.out hx427_7
      replace hx427_8 := cb HB.out hx427_8
      replace p427 := eq_true p427
      replace q427 := eq_true q427
      have p428 : 0 ≤ ((ji8) : Int) := dq
      have q428 : (ji8) < (l0.length : Int) := dq
      obtain ⟨ad428, e428, hx428_0, hx428_1, hx428_2, hx428_3, hx428_4, hx428_5, hx428_6, hx428_7, hx428_8⟩ := zU HR0.out (ji8) p428 q428
      obtain rfl : ad427 = ad428 := (by injection e428)
      replace hx428_0 := cb HB.out hx428_0
      replace hx428_1 := cb HB.out hx428_1
      replace hx428_2 := cb HB.out hx428_2
      replace hx428_3 := cb HB.out hx428_3
      replace hx428_4 := cb HB.out hx428_4
      replace hx428_5 := cb HB.out hx428_5
      replace hx428_6 := cb HB.out hx428_6
      replace hx428_7 := cb HB.out hx428_7
      replace hx428_8 := cb HB.out hx428_8
      replace p428 := eq_true p428
      replace q428 := eq_true q428
      go_wp2
      go_roundg k1
      case measure => have := HK1.out; omega
      case rel => exact ⟨(x3_1), (ji8), (by rfl), H', ⟨by have := HK1.out; omega⟩, ⟨Kd.rx HO_3.out⟩, ⟨bl HB.out⟩⟩
    ·rw [if_neg c7] at H
     have c7b0 := beq_eq_false_iff_ne.mpr c7
     have c7b1 := bne_iff_ne.mpr c7
     have H' := zb.mk H
     clear H
     have p427 : 0 ≤ (x4_1 : Int) := dq
     have q427 : x4_1 < (l0.length : Int) := dq
     obtain ⟨ad427, e427, hx427_0, hx427_1, hx427_2, hx427_3, hx427_4, hx427_5, hx427_6, hx427_7, hx427_8⟩ := zU HR0.out x4_1 p427 q427
     cases e427
     replace hx427_0 := cb HB.out hx427_0
     replace hx427_1 := cb HB.out hx427_1
     replace hx427_2 := cb HB.out hx427_2
     replace hx427_3 := cb HB.out hx427_3
     replace hx427_4 := cb HB.out hx427_4
     replace hx427_5 := cb HB.out hx427_5
     replace hx427_6 := cb HB.out hx427_6
     replace hx427_7 := cb HB.out hx427_7
     replace hx427_8 := cb HB.out hx427_8
     replace p427 := eq_true p427
     replace q427 := eq_true q427
     go_wp2
     go_roundg k1
     case measure => have := HK1.out; omega
     case rel => exact ⟨(x3_1), (wrap64 (x4_1 + 1)), eq0, H', ⟨by have := HK1.out; omega⟩, ⟨Kd.rx HO_3.out⟩, ⟨bl HB.out⟩⟩
   ·rw [if_neg c4] at H
    have c4b0 := decide_eq_false c4
    clear c4
    obtain rfl := Option.some.inj H
    go_wp2
    go_ret
    exact ⟨_, eq1, Kd.rx HO_3.out, bl HB.out⟩
mutual
def zp.l0 : Nat → List (S34) → List Bool → List Int → Int → Option ((List (S34)))
 | 0, _, _, _, _ => none
 | k + 1, x0, x1, x5, x6 => if x6 < (x0.length : Int) then (if 0 ≤ x6 then (if x6 < (x5.length : Int) then (if 0 ≤ (wrap64 (x6 + 1)) then (if (wrap64 (x6 + 1)) < (x5.length : Int) then ((some (x5.set ((wrap64 (x6 + 1)) : Int).toNat (rd x5 x6) : List Int)).bind fun y434 => (if x6 < (x1.length : Int) then (if rdOf false x1 x6 = true then (zp.l0 k x0 x1 y434 (wrap64 (x6 + 1))) else (zp.l0 k x0 x1 (y434.set ((wrap64 (x6 + 1)) : Int).toNat (wrap64 ((rd y434 (wrap64 (x6 + 1))) + 1))) (wrap64 (x6 + 1)))) else (none))) else (none)) else (none)) else (none)) else (none)) else (zp.l1 k x0 x1 x5 ([] : List (S34)) 0)
def zp.l1 : Nat → List (S34) → List Bool → List Int → List (S34) → Int → Option ((List (S34)))
 | 0, _, _, _, _, _ => none
 | k + 1, x0, x1, x5, x7, x8 => if x8 < (x0.length : Int) then (if 0 ≤ x8 then (if x8 < (x1.length : Int) then (if rdOf false x1 x8 = true then (zp.l1 k x0 x1 x5 x7 (wrap64 (x8 + 1))) else ((zv.f ((za x0 x8).f0)).bind fun t441 => (if t441 = true then (if 0 ≤ (wrap64 (x8 + ((za x0 x8).f1))) then (if (wrap64 (x8 + ((za x0 x8).f1))) < (x5.length : Int) then (if x8 < (x5.length : Int) then (if x7.length < 1759218604441 then (zp.l1 k x0 x1 x5 (x7 ++ [(⟨(za x0 x8).f0, wrap64 ((rd x5 (wrap64 (x8 + ((za x0 x8).f1)))) - (rd x5 x8)), (za x0 x8).f2, (za x0 x8).f3, (za x0 x8).f4, (⟨(za x0 x8).f5.f0, (za x0 x8).f5.f1, (za x0 x8).f5.f2, (za x0 x8).f5.f3⟩ : S32)⟩ : S34)]) (wrap64 (x8 + 1))) else (none)) else (none)) else (none)) else (none)) else (if x7.length < 1759218604441 then (zp.l1 k x0 x1 x5 (x7 ++ [(⟨(za x0 x8).f0, (za x0 x8).f1, (za x0 x8).f2, (za x0 x8).f3, (za x0 x8).f4, (⟨(za x0 x8).f5.f0, (za x0 x8).f5.f1, (za x0 x8).f5.f2, (za x0 x8).f5.f3⟩ : S32)⟩ : S34)]) (wrap64 (x8 + 1))) else (none))))) else (none)) else (none)) else (some x7)
end
def zp.f (k : Nat) (l0 : List (S34)) (l1 : List Bool) : Option ((List (S34))) := if 0 ≤ (wrap64 ((l0.length : Int) + 1)) then (if (wrap64 ((l0.length : Int) + 1) : Int).toNat ≤ 35184372088832 then (zp.l0 k l0 l1 (List.replicate (wrap64 ((l0.length : Int) + 1) : Int).toNat 0) 0) else (none)) else (none)
def zp.T15 : Bool × List (List Nat × List Nat) := (true, [([], []), ([], []), ([], []), ([2], [2]), ([1, 3], [1, 3]), ([0, 4], [0, 4]), ([5], [5]), ([], []), ([], []), ([7, 8], [7, 8]), ([9], [9]), ([6, 10], [6, 10]), ([0, 1, 2, 3, 4, 5, 6, 7, 8, 9, 10, 11], []), ([12, 11, 0, 1, 2, 3, 4, 5, 6, 7, 8, 9, 10, 11], [11, 12])])
def zp.B15 : List Nat := [0, 0, 0, 4, 14, 31, 63, 0, 0, 384, 896, 2047, 4095, 8191]
theorem zp.tab15 : rtab .any (opsOf Tryd.f54 15) = zp.T15 := by kernel_rfl
theorem zp.bits15 : waitsOk zp.T15.2 zp.B15 = true := by kernel_rfl
theorem zp.calls (k : Nat) (A0 : Option Addr) (c0 : Nat) (l0 : List (S34)) (A1 : Option Addr) (c1 : Nat) (l1 : List Bool) (r : List (S34)) (w : World) (hG : GW w) (hr0 : Kd.C k34 w A0 l0.length l0) (hc0 : l0.length ≤ c0) (hr1 : Kd.C Kd.bool w A1 l1.length l1) (hc1 : l1.length ≤ c1) (h : zp.f k l0 l1 = some r) :
  Calls Tryd.prog 54 #[.slice A0 l0.length c0, .slice A1 l1.length c1] w fun e w' => ∃ v0_ : Value, e = .returned (v0_) ∧ Kd.R k34 34 w' w.heap.size (fun _ => True) v0_ r ∧ Below w.heap.size w w' := by
 have hu34 := Tryd.underlying34
 have HR0 := zb.mk hr0
 have HC0 := zb.mk hc0
 clear hr0 hc0
 have HR1 := zb.mk hr1
 have HC1 := zb.mk hc1
 clear hr1 hc1
 have HG := zb.mk hG
 clear hG
 have HB := zb.mk (Below.refl w.heap.size w)
 have H : (if 0 ≤ (wrap64 ((l0.length : Int) + 1)) then (if (wrap64 ((l0.length : Int) + 1) : Int).toNat ≤ 35184372088832 then (zp.l0 k l0 l1 (List.replicate (wrap64 ((l0.length : Int) + 1) : Int).toNat 0) 0) else (none)) else (none)) = some r := h
 clear h
 obtain ⟨ji3, hji3⟩ : ∃ j_ : Int, (wrap64 ((l0.length : Int) + 1)) = j_ := ⟨_, rfl⟩
 rw [hji3] at H
 have hji3w : (IntKind.i64.wrap ((l0.length : Int) + 1)) = ji3 := (qd _).trans hji3
 by_cases c4 : 0 ≤ (ji3)
 ·rw [if_pos c4] at H
  have c4b0 := eq_true c4
  have c4b1 := decide_eq_true c4
  clear c4
  replace H := qh H; obtain ⟨c5, H⟩ := H
  have c5b0 := eq_true c5
  have c5b1 := decide_eq_true c5
  clear c5
  obtain ⟨y430, hy430⟩ : ∃ y_ : List Int, y_ = (List.replicate (ji3 : Int).toNat 0) := ⟨_, rfl⟩
  replace H : (zp.l0 k l0 l1 y430 0) = some r := by (rw [hy430]; with_reducible exact H)
  have Ny430 := zb.mk hy430
  clear hy430
  have H' := zb.mk H
  clear H
  go_enter Tryd.func54, Tryd.ntmps54
  go_wp2_with (((with_reducible refine z3 (N := 13) rfl ?_); refine Kd.R_make (Kd.int .i64) _ 3 rfl (N := 13) rfl 45 _ _ rfl ji3 rfl rfl Tryd.underlying45 (.int .i64 0) 8 info3 rfl (by decide) (by omega) 0 (ok := fun _ => True) (okp := fun _ => True) rfl (fun _ hk => hk) trivial (dq) (Nat.le_trans (Nat.mul_le_mul_right _ (dq : ji3.toNat ≤ 35184372088832)) (by omega)) (Below.refl _ _) (Nat.le_refl _) ?_; intro v431 w6 ho7 hb hg_ hnew_; clear hg_ hnew_; (rw [← Ny430.out] at ho7); have HO432 := zb.mk (Kd.rlo ho7 HB); replace HB := bst HB hb; clear hb ho7))
  go_loopg [6] k (fun kq v6 w' => ∃ (x5_1 : List Int) (x6_1 : Int), v6 = .int .i64 x6_1 ∧ zb (zp.l0 kq l0 l1 x5_1 x6_1 = some r) ∧ zb (kq ≤ k) ∧ zb (Kd.R (Kd.int .i64) 3 w' w.heap.size (fun _ => True) v431 x5_1) ∧ zb (Below w.heap.size w w'))
  case atStart => exact ⟨(y430), (0), eq0, H', ⟨Nat.le_refl _⟩, ⟨Kd.rx HO432.out⟩, ⟨bl HB.out⟩⟩
  case round =>
   clear H'
   (try clear c4b0); (try clear c4b1); (try clear c5b0); (try clear c5b1); (try clear hji3w); (try clear hji3)
   obtain ⟨x5_1, x6_1, rfl, HA, HK1, HO_5, HB⟩ := hrel
   cases gk with
   | zero => exact absurd HA.out (by simp [zp.l0])
   | succ k1 =>
    have H := HA.out
    clear HA
    simp only [zp.l0] at H
    by_cases c8 : x6_1 < (l0.length : Int)
    ·rw [if_pos c8] at H
     have c8b0 := decide_eq_true c8
     clear c8
     replace H := qh H; obtain ⟨c9, H⟩ := H
     have c9b0 := decide_eq_true c9
     clear c9
     replace H := qh H; obtain ⟨c10, H⟩ := H
     have c10b0 := decide_eq_true c10
     clear c10
     obtain ⟨ji11, hji11⟩ : ∃ j_ : Int, (wrap64 (x6_1 + 1)) = j_ := ⟨_, rfl⟩
     rw [hji11] at H
     have hji11w : (IntKind.i64.wrap (x6_1 + 1)) = ji11 := (qd _).trans hji11
     replace H := qh H; obtain ⟨c12, H⟩ := H
     have c12b0 := decide_eq_true c12
     clear c12
     replace H := qh H; obtain ⟨c13, H⟩ := H
     have c13b0 := decide_eq_true c13
     clear c13
     obtain ⟨y434, Ny434, H⟩ := bindY H; try dsimp only at H
     replace H := qh H; obtain ⟨c15, H⟩ := H
     have c15b0 := decide_eq_true c15
     clear c15
     obtain ⟨bq16, hbq16⟩ : ∃ b_ : Bool, b_ = (rdOf false l1 x6_1) := ⟨_, rfl⟩
     rw [← hbq16] at H
     have Nbq16 := zb.mk hbq16
     clear hbq16
     by_cases c17 : bq16 = true
     ·subst c17
      replace H := ifT H
      have H' := zb.mk H
      clear H
      obtain ⟨Ao18, co18, eo18⟩ := Kd.zw HO_5.out
      subst eo18
      have p433 : 0 ≤ (x6_1 : Int) := dq
      have q433 : x6_1 < (x5_1.length : Int) := dq
      obtain ⟨ad433, e433, hx433_0⟩ := Kd.xO (Kd.zf HO_5.out).2.2 x6_1 p433 q433
      cases e433
      replace p433 := eq_true p433
      replace q433 := eq_true q433
      have p14 : 0 ≤ ((ji11) : Int) := dq
      have q14 : ((ji11) : Int) < ((x5_1.length : Int) : Int) := dq
      obtain ⟨go14, co14, eo14, gb14, gl14, cl14, HG14⟩ := Kd.xR HO_5.out (by omega)
      (cases eo14)
      have GB14 := zb.mk gb14
      have GG14 := zb.mk HG14
      clear gb14 gl14 HG14
      (simp only [add_plain] at hx433_0)
      obtain ⟨hx14_0, hf14_0⟩ := Kd.xG 0 HO_5.out ((ji11) : Int) p14 q14
      replace p14 := eq_true p14
      replace q14 := eq_true q14
      have HP19 := Kd.jL HO_5.out ((ji11) : Int) (rd x5_1 x6_1)
      go_wp2_with (((with_reducible refine zM (t := 3) (p := 27) rfl ?_); refine zB (t := 3) (p := 27) (v := ?vo_w20) (w1 := (wr.setCell ⟨go14, ((ji11) : Int).toNat, none⟩ (.int .i64 (rd x5_1 x6_1)))) ?hg ?ho ?hn ?hr ?_; (case ho => rfl); (case hg => rfl); (case hn => rfl); (case hr => (go_simp; done)); intro w20 hw; have hg : wr.grownBy w20 (some go14) := (by rw [hw]; exact HP19.2); have hp_ : Kd.R (Kd.int .i64) 3 w20 w.heap.size (fun _ => True) (.slice (some ⟨go14, 0, none⟩) x5_1.length co18) y434 := (by rw [hw, Ny434.out]; exact HP19.1); clear HP19; replace HO_5 := zb.mk (hp_); replace HB := zb.mk ((by rw [hw]; exact zz (HB.out) GB14.out : Below w.heap.size w w20)); clear hg hw hp_; have p435 : 0 ≤ (x6_1 : Int) := dq; have q435 : x6_1 < (l1.length : Int) := dq; obtain ⟨ad435, e435, hx435_0⟩ := Kd.je HR1.out x6_1 p435 q435; (try rw [← Nbq16.out] at hx435_0); cases e435; replace hx435_0 := cb HB.out hx435_0; replace p435 := eq_true p435; replace q435 := eq_true q435))
      go_roundg k1
      case measure => have := HK1.out; omega
      case rel => exact ⟨(y434), (ji11), (by rfl), H', ⟨by have := HK1.out; omega⟩, ⟨Kd.rx HO_5.out⟩, ⟨bl HB.out⟩⟩
     ·replace c17 := Bool.eq_false_iff.mpr c17
      subst c17
      replace H := ifF H
      obtain ⟨y437, hy437⟩ : ∃ y_ : List Int, y_ = (y434.set ((ji11) : Int).toNat (wrap64 ((rd y434 (ji11)) + 1))) := ⟨_, rfl⟩
      replace H : (zp.l0 k1 l0 l1 y437 ji11) = some r := by (rw [hy437]; with_reducible exact H)
      have Ny437 := zb.mk hy437
      clear hy437
      have H' := zb.mk H
      clear H
      obtain ⟨Ao22, co22, eo22⟩ := Kd.zw HO_5.out
      subst eo22
      have p433 : 0 ≤ (x6_1 : Int) := dq
      have q433 : x6_1 < (x5_1.length : Int) := dq
      obtain ⟨ad433, e433, hx433_0⟩ := Kd.xO (Kd.zf HO_5.out).2.2 x6_1 p433 q433
      cases e433
      replace p433 := eq_true p433
      replace q433 := eq_true q433
      have p14 : 0 ≤ ((ji11) : Int) := dq
      have q14 : ((ji11) : Int) < ((x5_1.length : Int) : Int) := dq
      obtain ⟨go14, co14, eo14, gb14, gl14, cl14, HG14⟩ := Kd.xR HO_5.out (by omega)
      (cases eo14)
      have GB14 := zb.mk gb14
      have GG14 := zb.mk HG14
      clear gb14 gl14 HG14
      (simp only [add_plain] at hx433_0)
      obtain ⟨hx14_0, hf14_0⟩ := Kd.xG 0 HO_5.out ((ji11) : Int) p14 q14
      replace p14 := eq_true p14
      replace q14 := eq_true q14
      have HP23 := Kd.jL HO_5.out ((ji11) : Int) (rd x5_1 x6_1)
      go_wp2_with (first | ((with_reducible refine zM (t := 3) (p := 27) rfl ?_); refine zB (t := 3) (p := 27) (v := ?vo_w24) (w1 := (wr.setCell ⟨go14, ((ji11) : Int).toNat, none⟩ (.int .i64 (rd x5_1 x6_1)))) ?hg ?ho ?hn ?hr ?_; (case ho => rfl); (case hg => rfl); (case hn => rfl); (case hr => (go_simp; done)); intro w24 hw; have hg : wr.grownBy w24 (some go14) := (by rw [hw]; exact HP23.2); have hp_ : Kd.R (Kd.int .i64) 3 w24 w.heap.size (fun _ => True) (.slice (some ⟨go14, 0, none⟩) x5_1.length co22) y434 := (by rw [hw, Ny434.out]; exact HP23.1); clear HP23; replace HO_5 := zb.mk (hp_); replace HB := zb.mk ((by rw [hw]; exact zz (HB.out) GB14.out : Below w.heap.size w w24)); clear hg hw hp_; have p435 : 0 ≤ (x6_1 : Int) := dq; have q435 : x6_1 < (l1.length : Int) := dq; obtain ⟨ad435, e435, hx435_0⟩ := Kd.je HR1.out x6_1 p435 q435; (try rw [← Nbq16.out] at hx435_0); cases e435; replace hx435_0 := cb HB.out hx435_0; replace p435 := eq_true p435; replace q435 := eq_true q435; have p436 : 0 ≤ ((ji11) : Int) := dq; have q436 : (ji11) < (y434.length : Int) := (by have h_ : ((ji11) : Int) < ((x5_1.length : Int) : Int) := dq; (have e_ := (Kd.zf HO_5.out).1; omega)); have ql436 : (((ji11) : Int) < ((x5_1.length : Int) : Int)) = True := eq_true (dq); obtain ⟨ad436, e436, hx436_0⟩ := Kd.xO (Kd.zf HO_5.out).2.2 (ji11) p436 q436; obtain rfl : (⟨go14, 0, none⟩ : Addr) = ad436 := (by injection e436); (simp only [add_plain] at hx436_0); replace p436 := eq_true p436; replace q436 := eq_true q436; have p21 : 0 ≤ ((ji11) : Int) := dq; have q21 : ((ji11) : Int) < ((x5_1.length : Int) : Int) := dq; obtain ⟨hx21_0, hf21_0⟩ := Kd.xG 0 HO_5.out ((ji11) : Int) p21 q21; replace p21 := eq_true p21; replace q21 := eq_true q21; obtain ⟨hy25_, hz25_⟩ := Kd.xG 0 HO_5.out ((ji11) : Int) (dq) (dq); have HP25 := Kd.jL HO_5.out ((ji11) : Int) (wrap64 ((rd y434 (ji11)) + 1))) | ((with_reducible refine zM (t := 3) (p := 39) rfl ?_); refine zB (t := 3) (p := 39) (v := ?vo_w26) (w1 := (w24.setCell ⟨go14, ((ji11) : Int).toNat, none⟩ (.int .i64 (wrap64 ((rd y434 (ji11)) + 1))))) ?hg ?ho ?hn ?hr ?_; (case ho => rfl); (case hg => rfl); (case hn => rfl); (case hr => (go_simp; done)); intro w26 hw; have hg : w24.grownBy w26 (some go14) := (by rw [hw]; exact HP25.2); have hp_ : Kd.R (Kd.int .i64) 3 w26 w.heap.size (fun _ => True) (.slice (some ⟨go14, 0, none⟩) x5_1.length co22) y437 := (by rw [hw, Ny437.out]; exact HP25.1); clear HP25; replace HO_5 := zb.mk (hp_); replace HB := zb.mk ((by rw [hw]; exact zz (HB.out) GB14.out : Below w.heap.size w w26)); clear hg hw hp_))
      go_roundg k1
      case measure => have := HK1.out; omega
      case rel => exact ⟨(y437), (ji11), (by rfl), H', ⟨by have := HK1.out; omega⟩, ⟨Kd.rx HO_5.out⟩, ⟨bl HB.out⟩⟩
    ·rw [if_neg c8] at H
     have c8b0 := decide_eq_false c8
     clear c8
     have H' := zb.mk H
     clear H
     go_wp2
     go_loopg [7, 8] k1 (fun kq v7 v8 w' => ∃ (x7_2 : List (S34)) (x8_2 : Int), v8 = .int .i64 x8_2 ∧ zb (zp.l1 kq l0 l1 x5_1 x7_2 x8_2 = some r) ∧ zb (kq ≤ k1) ∧ zb (Kd.R (Kd.int .i64) 3 w' w.heap.size (fun _ => True) v431 x5_1) ∧ zb (Kd.R k34 34 w' w.heap.size (fun _ => True) v7 x7_2) ∧ zb (Below w.heap.size w w'))
     case atStart => exact ⟨(([] : List (S34))), (0), eq0, H', ⟨Nat.le_refl _⟩, ⟨Kd.rx HO_5.out⟩, ⟨by exact Kd.ji _ _ _ _ _⟩, ⟨bl HB.out⟩⟩
     case round =>
      clear H'
      (try clear c8b0)
      obtain ⟨x7_2, x8_2, rfl, HA, HK2, HO_5, HO_7, HB⟩ := hrel
      cases gk with
      | zero => exact absurd HA.out (by simp [zp.l1])
      | succ k2 =>
       have H := HA.out
       clear HA
       simp only [zp.l1] at H
       by_cases c27 : x8_2 < (l0.length : Int)
       ·rw [if_pos c27] at H
        have c27b0 := decide_eq_true c27
        clear c27
        replace H := qh H; obtain ⟨c28, H⟩ := H
        have c28b0 := decide_eq_true c28
        clear c28
        replace H := qh H; obtain ⟨c29, H⟩ := H
        have c29b0 := decide_eq_true c29
        clear c29
        obtain ⟨bq30, hbq30⟩ : ∃ b_ : Bool, b_ = (rdOf false l1 x8_2) := ⟨_, rfl⟩
        rw [← hbq30] at H
        have Nbq30 := zb.mk hbq30
        clear hbq30
        by_cases c31 : bq30 = true
        ·subst c31
         replace H := ifT H
         have H' := zb.mk H
         clear H
         have p438 : 0 ≤ (x8_2 : Int) := dq
         have q438 : x8_2 < (l1.length : Int) := dq
         obtain ⟨ad438, e438, hx438_0⟩ := Kd.je HR1.out x8_2 p438 q438
         (try rw [← Nbq30.out] at hx438_0)
         cases e438
         replace hx438_0 := cb HB.out hx438_0
         replace p438 := eq_true p438
         replace q438 := eq_true q438
         go_wp2
         go_roundg k2
         case measure => have := HK1.out; have := HK2.out; omega
         case rel => exact ⟨(x7_2), (wrap64 (x8_2 + 1)), eq0, H', ⟨by have := HK1.out; have := HK2.out; omega⟩, ⟨Kd.rx HO_5.out⟩, ⟨Kd.rx HO_7.out⟩, ⟨bl HB.out⟩⟩
        ·replace c31 := Bool.eq_false_iff.mpr c31
         subst c31
         replace H := ifF H
         replace H := zO H; obtain ⟨t441, A32, H⟩ := H
         by_cases c33 : t441 = true
         ·subst c33
          replace H := ifT H
          obtain ⟨ji34, hji34⟩ : ∃ j_ : Int, (wrap64 (x8_2 + ((za l0 x8_2).f1))) = j_ := ⟨_, rfl⟩
          rw [hji34] at H
          have hji34w : (IntKind.i64.wrap (x8_2 + ((za l0 x8_2).f1))) = ji34 := (qd _).trans hji34
          replace H := qh H; obtain ⟨c35, H⟩ := H
          have c35b0 := decide_eq_true c35
          clear c35
          replace H := qh H; obtain ⟨c36, H⟩ := H
          have c36b0 := decide_eq_true c36
          clear c36
          replace H := qh H; obtain ⟨c37, H⟩ := H
          have c37b0 := decide_eq_true c37
          clear c37
          replace H := qh H; obtain ⟨c38, H⟩ := H
          have LMc38 := zb.mk c38
          clear c38
          obtain ⟨y444, hy444⟩ : ∃ y_ : List (S34), y_ = (x7_2 ++ [(⟨(za l0 x8_2).f0, wrap64 ((rd x5_1 (ji34)) - (rd x5_1 x8_2)), (za l0 x8_2).f2, (za l0 x8_2).f3, (za l0 x8_2).f4, (⟨(za l0 x8_2).f5.f0, (za l0 x8_2).f5.f1, (za l0 x8_2).f5.f2, (za l0 x8_2).f5.f3⟩ : S32)⟩ : S34)]) := ⟨_, rfl⟩
          replace H : (zp.l1 k2 l0 l1 x5_1 y444 (wrap64 (x8_2 + 1))) = some r := by (rw [hy444]; with_reducible exact H)
          have Ny444 := zb.mk hy444
          clear hy444
          have H' := zb.mk H
          clear H
          have p438 : 0 ≤ (x8_2 : Int) := dq
          have q438 : x8_2 < (l1.length : Int) := dq
          obtain ⟨ad438, e438, hx438_0⟩ := Kd.je HR1.out x8_2 p438 q438
          (try rw [← Nbq30.out] at hx438_0)
          cases e438
          replace hx438_0 := cb HB.out hx438_0
          replace p438 := eq_true p438
          replace q438 := eq_true q438
          have p439 : 0 ≤ (x8_2 : Int) := dq
          have q439 : x8_2 < (l0.length : Int) := dq
          obtain ⟨ad439, e439, hx439_0, hx439_1, hx439_2, hx439_3, hx439_4, hx439_5, hx439_6, hx439_7, hx439_8⟩ := zU HR0.out x8_2 p439 q439
          cases e439
          replace hx439_0 := cb HB.out hx439_0
          replace hx439_1 := cb HB.out hx439_1
          replace hx439_2 := cb HB.out hx439_2
          replace hx439_3 := cb HB.out hx439_3
          replace hx439_4 := cb HB.out hx439_4
          replace hx439_5 := cb HB.out hx439_5
          replace hx439_6 := cb HB.out hx439_6
          replace hx439_7 := cb HB.out hx439_7
          replace hx439_8 := cb HB.out hx439_8
          replace p439 := eq_true p439
          replace q439 := eq_true q439
          try go_wp2_with (first | ((with_reducible refine z3 (N := 9) rfl ?_); refine qk ?hg (N := 9) ?hd (cs := #[.int .i64 0, .int .i64 0, .int .i64 0, .int .i64 0, .string (⟨#[]⟩ : ByteArray), .int .u64 0, .int .u64 0, .int .u64 0, .int .u64 0]) (t := 34) ?hr ?_; (case hd => rfl); (case hg => rfl); (case hr => (go_simp; done)); intro gb440 hg w39 hbox hb; replace HO_5 := Kd.rbl HO_5 hb; replace HO_7 := zb.mk (Kd.xk (Kd.xT (Kd.rx HO_7.out) gb440 (Nat.le_of_eq hg.symm)) hb); have BK440 := zb.mk (hbox); have GW440 := zb.mk ((by rw [hg]; exact (zj (bl HB.out)) : w.heap.size ≤ gb440)); have GE440 := zb.mk ((by rw [hg]; exact (zj (bl HB.out)) : w.heap.size ≤ gb440)); replace HB := bst HB hb; clear hb hbox hg; obtain ⟨hcz40_0, hcz40_1, hcz40_2, hcz40_3, hcz40_4, hcz40_5, hcz40_6, hcz40_7, hcz40_8⟩ := zS BK440.out; obtain ⟨hfz40_0, hfz40_1, hfz40_2, hfz40_3, hfz40_4, hfz40_5, hfz40_6, hfz40_7, hfz40_8⟩ := zR BK440.out) | ((with_reducible refine zM (t := 34) (p := 9) rfl ?_); refine zB (t := 34) (p := 9) (v := ?vo_w41) (w1 := (xr w39 gb440 #[.int .i64 ((za l0 x8_2).f0), .int .i64 ((za l0 x8_2).f1), .int .i64 ((za l0 x8_2).f2), .int .i64 ((za l0 x8_2).f3), .string ((za l0 x8_2).f4), .int .u64 ((za l0 x8_2).f5.f0), .int .u64 ((za l0 x8_2).f5.f1), .int .u64 ((za l0 x8_2).f5.f2), .int .u64 ((za l0 x8_2).f5.f3)])) ?hg ?ho ?hn ?hr ?_; (case ho => rfl); (case hg => rfl); (case hn => rfl); (case hr => (go_simp; rfl)); intro w41 hw; replace HO_5 : zb (Kd.R (Kd.int .i64) 3 w41 w.heap.size (fun _ => True) v431 x5_1) := ⟨(by rw [hw]; exact (Kd.rx (Kd.zH (Kd.jc (g := gb440) (Kd.jK HO_5.out BK440.out (by decide)) (fun _ hk => hk.2) #[.int .i64 ((za l0 x8_2).f0), .int .i64 ((za l0 x8_2).f1), .int .i64 ((za l0 x8_2).f2), .int .i64 ((za l0 x8_2).f3), .string ((za l0 x8_2).f4), .int .u64 ((za l0 x8_2).f5.f0), .int .u64 ((za l0 x8_2).f5.f1), .int .u64 ((za l0 x8_2).f5.f2), .int .u64 ((za l0 x8_2).f5.f3)]) (fun _ hk => trivial))))⟩; replace HO_7 : zb (Kd.R k34 34 w41 w.heap.size (fun k_ => k_ ≠ gb440) u7 x7_2) := ⟨(by rw [hw]; exact (Kd.rx (Kd.zH (Kd.jc (g := gb440) (Kd.zH HO_7.out (fun k_ hk => (⟨hk, hk.2⟩ : _ ∧ k_ ≠ gb440))) (fun _ hk => hk.2) #[.int .i64 ((za l0 x8_2).f0), .int .i64 ((za l0 x8_2).f1), .int .i64 ((za l0 x8_2).f2), .int .i64 ((za l0 x8_2).f3), .string ((za l0 x8_2).f4), .int .u64 ((za l0 x8_2).f5.f0), .int .u64 ((za l0 x8_2).f5.f1), .int .u64 ((za l0 x8_2).f5.f2), .int .u64 ((za l0 x8_2).f5.f3)]) (fun _ hk => hk.1.2))))⟩; replace BK440 : zb (w41.heap[gb440]? = some (.cells #[.int .i64 ((za l0 x8_2).f0), .int .i64 ((za l0 x8_2).f1), .int .i64 ((za l0 x8_2).f2), .int .i64 ((za l0 x8_2).f3), .string ((za l0 x8_2).f4), .int .u64 ((za l0 x8_2).f5.f0), .int .u64 ((za l0 x8_2).f5.f1), .int .u64 ((za l0 x8_2).f5.f2), .int .u64 ((za l0 x8_2).f5.f3)] 34 (0, 0))) := ⟨(by rw [hw]; exact (by (with_reducible skip); refine xd (cs := #[.int .i64 0, .int .i64 0, .int .i64 0, .int .i64 0, .string (⟨#[]⟩ : ByteArray), .int .u64 0, .int .u64 0, .int .u64 0, .int .u64 0]) ?_ _ rfl; (with_reducible skip); exact BK440.out))⟩; replace HB : zb (Below w.heap.size w w41) := ⟨(by rw [hw]; exact bsq)⟩; clear hw; obtain ⟨hcz42_0, hcz42_1, hcz42_2, hcz42_3, hcz42_4, hcz42_5, hcz42_6, hcz42_7, hcz42_8⟩ := zS BK440.out; obtain ⟨hfz42_0, hfz42_1, hfz42_2, hfz42_3, hfz42_4, hfz42_5, hfz42_6, hfz42_7, hfz42_8⟩ := zR BK440.out) | ((with_reducible refine zc (f := 19) rfl ?_); refine zh (some 56) rfl rfl Tryd.func19 (by kernel_rfl) rfl #[.int .i64 ((za l0 x8_2).f0)] rfl hq ?_; (with_reducible refine (zv.calls ((za l0 x8_2).f0) true _ ?side1 A32.out).mono ?_); (case side1 => exact GW.below HG.out bsq); rintro e w' ⟨rfl, ⟨nd, rfl⟩⟩; refine ⟨_, rfl, ?_⟩; (try (rw [xm w41]; generalize hq_ : World.drewN w41 _ = w41; replace HO_5 : zb (Kd.R (Kd.int .i64) 3 w41 w.heap.size (fun _ => True) v431 x5_1) := ⟨by rw [← hq_]; exact (Kd.rx HO_5.out)⟩; replace HO_7 : zb (Kd.R k34 34 w41 w.heap.size (fun k_ => k_ ≠ gb440) u7 x7_2) := ⟨by rw [← hq_]; exact (Kd.rx HO_7.out)⟩; replace BK440 : zb (w41.heap[gb440]? = some (.cells #[.int .i64 ((za l0 x8_2).f0), .int .i64 ((za l0 x8_2).f1), .int .i64 ((za l0 x8_2).f2), .int .i64 ((za l0 x8_2).f3), .string ((za l0 x8_2).f4), .int .u64 ((za l0 x8_2).f5.f0), .int .u64 ((za l0 x8_2).f5.f1), .int .u64 ((za l0 x8_2).f5.f2), .int .u64 ((za l0 x8_2).f5.f3)] 34 (0, 0))) := ⟨by rw [← hq_]; exact (bx BK440.out)⟩; replace HB : zb (Below w.heap.size w w41) := ⟨by rw [← hq_]; exact bsq⟩; clear hq_))))
          have n0_ := zb.mk (Kd.R_drew HO_5.out)
          have n1_ := zb.mk (Kd.R_drew HO_7.out)
          have n2_ := zb.mk (blk_drew BK440.out)
          have n3_ := zb.mk (xY HB.out)
          clear HO_5
          clear HO_7
          clear BK440
          clear HB
          have HO_5 := n0_
          have HO_7 := n1_
          have BK440 := n2_
          have HB := n3_
          clear n0_ n1_ n2_ n3_
          obtain ⟨Ao44, co44, eo44⟩ := Kd.zw HO_5.out
          (subst eo44)
          have p442 : 0 ≤ ((ji34) : Int) := dq
          have q442 : (ji34) < (x5_1.length : Int) := dq
          obtain ⟨ad442, e442, hx442_0⟩ := Kd.xO (Kd.zf HO_5.out).2.2 (ji34) p442 q442
          cases e442
          replace p442 := eq_true p442
          replace q442 := eq_true q442
          have p443 : 0 ≤ (x8_2 : Int) := dq
          have q443 : x8_2 < (x5_1.length : Int) := dq
          obtain ⟨ad443, e443, hx443_0⟩ := Kd.xO (Kd.zf HO_5.out).2.2 x8_2 p443 q443
          obtain rfl : ad442 = ad443 := (by injection e443)
          replace p443 := eq_true p443
          replace q443 := eq_true q443
          refine start_ (n := 14) (S := fun w' => w'.cell? ⟨gb440, 0, none⟩ = some (.int .i64 ((za l0 x8_2).f0)) ∧ w'.cell? ⟨gb440, 1, none⟩ = some (.int .i64 ((za l0 x8_2).f1)) ∧ w'.cell? ⟨gb440, 2, none⟩ = some (.int .i64 ((za l0 x8_2).f2)) ∧ w'.cell? ⟨gb440, 3, none⟩ = some (.int .i64 ((za l0 x8_2).f3)) ∧ w'.cell? ⟨gb440, 4, none⟩ = some (.string ((za l0 x8_2).f4)) ∧ w'.cell? ⟨gb440, 5, none⟩ = some (.int .u64 ((za l0 x8_2).f5.f0)) ∧ w'.cell? ⟨gb440, 6, none⟩ = some (.int .u64 ((za l0 x8_2).f5.f1)) ∧ w'.cell? ⟨gb440, 7, none⟩ = some (.int .u64 ((za l0 x8_2).f5.f2)) ∧ w'.cell? ⟨gb440, 8, none⟩ = some (.int .u64 ((za l0 x8_2).f5.f3)) ∧ w'.cell? (ad442.add ((ji34)).toNat) = some (.int .i64 (rd x5_1 (ji34))) ∧ w'.cell? (ad442.add (x8_2).toNat) = some (.int .i64 (rd x5_1 x8_2))) (ds := [13]) #[false, false, false, false, false, false, false, false, false, false, false, false, false, false] (by kernel_rfl) rfl rfl ⟨(zL BK440.out 0).trans rfl, (zL BK440.out 1).trans rfl, (zL BK440.out 2).trans rfl, (zL BK440.out 3).trans rfl, (zL BK440.out 4).trans rfl, (zL BK440.out 5).trans rfl, (zL BK440.out 6).trans rfl, (zL BK440.out 7).trans rfl, (zL BK440.out 8).trans rfl, hx442_0, hx443_0⟩ (fun hHeld => ?_); refine with_tabW zp.tab15 zp.bits15 (fun HT_ HW_ => ?_)
          generalize w41.drew = w43 at HO_5 HO_7 BK440 HB hx442_0 hx443_0 hHeld ⊢
          refine qB (i := 0) (N := some 57) (v := ?_) (a' := ?_) #[true, false, false, false, false, false, false, false, false, false, false, false, false, false] rfl rfl (qn HT_.out (by kernel_rfl)) (fun _ _ _ h => h) (Or.inl ⟨by rfl, ?_⟩) ?_ ?_
          rotate_left
          ·intro w'
           go_simp
           with_reducible rfl
          rotate_left
          ·simp only [Act.put, List.setIfInBounds_toArray, List.set_cons_zero, List.set_cons_succ, qd, qo]
           rfl
          refine qB (i := 1) (N := some 58) (v := ?_) (a' := ?_) #[true, true, false, false, false, false, false, false, false, false, false, false, false, false] rfl rfl (qn HT_.out (by kernel_rfl)) (fun _ _ _ h => h) (Or.inl ⟨by rfl, ?_⟩) ?_ ?_
          rotate_left
          ·intro w'
           go_simp
           with_reducible rfl
          rotate_left
          ·simp only [Act.put, List.setIfInBounds_toArray, List.set_cons_zero, List.set_cons_succ, qd, qo]
           rfl
          refine qB (i := 2) (N := some 59) (v := ?_) (a' := ?_) #[true, true, true, false, false, false, false, false, false, false, false, false, false, false] rfl rfl (qn HT_.out (by kernel_rfl)) (fun _ _ _ h => h) (Or.inl ⟨by rfl, ?_⟩) ?_ ?_
          rotate_left
          ·intro w'
           go_simp
           with_reducible rfl
          rotate_left
          ·simp only [Act.put, List.setIfInBounds_toArray, List.set_cons_zero, List.set_cons_succ, qd, qo]
           rfl
          refine qB (i := 7) (N := some 64) (v := ?_) (a' := ?_) #[true, true, true, false, false, false, false, true, false, false, false, false, false, false] rfl rfl (qn HT_.out (by kernel_rfl)) (fun _ _ _ h => h) (Or.inl ⟨by rfl, ?_⟩) ?_ ?_
          rotate_left
          ·intro w'
           go_simp
           with_reducible rfl
          rotate_left
          ·simp only [Act.put, List.setIfInBounds_toArray, List.set_cons_zero, List.set_cons_succ, qd, qo]
           rfl
          refine qB (i := 8) (N := some 65) (v := ?_) (a' := ?_) #[true, true, true, false, false, false, false, true, true, false, false, false, false, false] rfl rfl (qn HT_.out (by kernel_rfl)) (fun _ _ _ h => h) (Or.inl ⟨by rfl, ?_⟩) ?_ ?_
          rotate_left
          ·intro w'
           go_simp
           with_reducible rfl
          rotate_left
          ·simp only [Act.put, List.setIfInBounds_toArray, List.set_cons_zero, List.set_cons_succ, qd, qo]
           rfl
          refine qB (i := 9) (N := some 66) (v := ?_) (a' := ?_) #[true, true, true, false, false, false, false, true, true, true, false, false, false, false] rfl rfl (qn HT_.out (by kernel_rfl)) (fun _ _ _ h => h) (Or.inl ⟨by rfl, ?_⟩) ?_ ?_
          rotate_left
          ·intro w'
           go_simp
           with_reducible rfl
          rotate_left
          ·simp only [Act.put, List.setIfInBounds_toArray, List.set_cons_zero, List.set_cons_succ, qd, qo]
           rfl
          refine take_ (i := 3) (N := some 60) (v := ?_) (a' := ?_) #[true, true, true, true, false, false, false, true, true, true, false, false, false, false] rfl rfl (jo HT_.out HW_.out (by kernel_rfl)) (fun _ _ _ h => h) (Or.inl ⟨by rfl, ?_⟩) hHeld ?_ ?_
          rotate_left
          ·rintro w' ⟨s0, s1, s2, s3, s4, s5, s6, s7, s8, s9, s10⟩
           go_simp
           with_reducible rfl
          rotate_left
          ·simp only [Act.put, List.setIfInBounds_toArray, List.set_cons_zero, List.set_cons_succ, qd, qo]
           rfl
          refine qB (i := 4) (N := some 61) (v := ?_) (a' := ?_) #[true, true, true, true, true, false, false, true, true, true, false, false, false, false] rfl rfl (qn HT_.out (by kernel_rfl)) (fun _ _ _ h => h) (Or.inl ⟨by rfl, ?_⟩) ?_ ?_
          rotate_left
          ·intro w'
           go_simp
           with_reducible rfl
          rotate_left
          ·simp only [Act.put, List.setIfInBounds_toArray, List.set_cons_zero, List.set_cons_succ, qd, qo]
           rfl
          refine qB (i := 5) (N := some 62) (v := ?_) (a' := ?_) #[true, true, true, true, true, true, false, true, true, true, false, false, false, false] rfl rfl (qn HT_.out (by kernel_rfl)) (fun _ _ _ h => h) (Or.inl ⟨by rfl, ?_⟩) ?_ ?_
          rotate_left
          ·intro w'
           go_simp
           with_reducible rfl
          rotate_left
          ·simp only [Act.put, List.setIfInBounds_toArray, List.set_cons_zero, List.set_cons_succ, qd, qo]
           rfl
          refine take_ (i := 6) (N := some 63) (v := ?_) (a' := ?_) #[true, true, true, true, true, true, true, true, true, true, false, false, false, false] rfl rfl (jo HT_.out HW_.out (by kernel_rfl)) (fun _ _ _ h => h) (Or.inl ⟨by rfl, ?_⟩) hHeld ?_ ?_
          rotate_left
          ·rintro w' ⟨s0, s1, s2, s3, s4, s5, s6, s7, s8, s9, s10⟩
           go_simp
           with_reducible rfl
          rotate_left
          ·simp only [Act.put, List.setIfInBounds_toArray, List.set_cons_zero, List.set_cons_succ, qd, qo]
           rfl
          refine take_ (i := 10) (N := some 67) (v := ?_) (a' := ?_) #[true, true, true, true, true, true, true, true, true, true, true, false, false, false] rfl rfl (jo HT_.out HW_.out (by kernel_rfl)) (fun _ _ _ h => h) (Or.inl ⟨by rfl, ?_⟩) hHeld ?_ ?_
          rotate_left
          ·rintro w' ⟨s0, s1, s2, s3, s4, s5, s6, s7, s8, s9, s10⟩
           go_simp
           with_reducible rfl
          rotate_left
          ·simp only [Act.put, List.setIfInBounds_toArray, List.set_cons_zero, List.set_cons_succ, qd, qo]
           rfl
          refine qB (i := 11) (N := some 68) (v := ?_) (a' := ?_) #[true, true, true, true, true, true, true, true, true, true, true, true, false, false] rfl rfl (qn HT_.out (by kernel_rfl)) (fun _ _ _ h => h) (Or.inl ⟨by rfl, ?_⟩) ?_ ?_
          rotate_left
          ·intro w'
           go_simp
           with_reducible rfl
          rotate_left
          ·simp only [Act.put, List.setIfInBounds_toArray, List.set_cons_zero, List.set_cons_succ, qd, qo]
           rfl
          refine qB (i := 12) (N := some 69) (v := ?_) (a' := ?_) #[true, true, true, true, true, true, true, true, true, true, true, true, true, false] rfl rfl (qn HT_.out (by kernel_rfl)) (fun _ _ _ h => h) (Or.inl ⟨by rfl, ?_⟩) ?_ ?_
          rotate_left
          ·intro w'
           go_simp
           with_reducible rfl
          rotate_left
          ·simp only [Act.put, List.setIfInBounds_toArray, List.set_cons_zero, List.set_cons_succ, qd, qo]
           rfl
          refine last_ (i := 13) (N := none) #[true, true, true, true, true, true, true, true, true, true, true, true, true, true] rfl rfl (one_of HT_.out (by kernel_rfl)) (by decide) (fun K hK => ?_)
          have hs45 : w43.cell? ⟨gb440, 1, none⟩ = some (.int .i64 ((za l0 x8_2).f1)) := (zL BK440.out 1).trans rfl
          have hfs45 := qI BK440.out 1
          refine skip_ (w1 := ?_) (by rfl) rfl ?_ ?_
          rotate_left
          ·go_simp
           rfl
          refine hK.out _ _ ?_
          clear hK K
          refine done_ (done_of HT_.out (by kernel_rfl)) ?_
          obtain ⟨hcz46_0, hcz46_1, hcz46_2, hcz46_3, hcz46_4, hcz46_5, hcz46_6, hcz46_7, hcz46_8⟩ := zS BK440.out
          obtain ⟨hfz46_0, hfz46_1, hfz46_2, hfz46_3, hfz46_4, hfz46_5, hfz46_6, hfz46_7, hfz46_8⟩ := zR BK440.out
          try go_wp2_with (((with_reducible refine qu (b := .append) (xs := #[.tmp 70, .tmp 72]) rfl ?_); at_builtin; refine Kd.xE k34 (w0 := w) w.heap.size rfl (.tmp 70) (.tmp 72) 22 34 (.agg #[(.int .i64 0), (.int .i64 0), (.int .i64 0), (.int .i64 0), (.string ⟨#[]⟩), (.int .u64 0), (.int .u64 0), (.int .u64 0), (.int .u64 0)]) 80 rfl Tryd.underlying22 info34 rfl (by decide) (by omega) u7 x7_2 (⟨(za l0 x8_2).f0, wrap64 ((rd x5_1 (ji34)) - (rd x5_1 x8_2)), (za l0 x8_2).f2, (za l0 x8_2).f3, (za l0 x8_2).f4, (⟨(za l0 x8_2).f5.f0, (za l0 x8_2).f5.f1, (za l0 x8_2).f5.f2, (za l0 x8_2).f5.f3⟩ : S32)⟩ : S34) [.int .i64 ((za l0 x8_2).f0), .int .i64 (wrap64 ((rd x5_1 (ji34)) - (rd x5_1 x8_2))), .int .i64 ((za l0 x8_2).f2), .int .i64 ((za l0 x8_2).f3), .string ((za l0 x8_2).f4), .int .u64 ((za l0 x8_2).f5.f0), .int .u64 ((za l0 x8_2).f5.f1), .int .u64 ((za l0 x8_2).f5.f2), .int .u64 ((za l0 x8_2).f5.f3)] (fun k_ => k_ ≠ gb440) (fun _ => False) rfl (by (go_simp; done)) ?aP (fun _ hk => hk.elim) ?aF ?aO ?aB ?aS ?aL ?_; (case aP => exact xq _ _ _ (⟨(za l0 x8_2).f0, wrap64 ((rd x5_1 (ji34)) - (rd x5_1 x8_2)), (za l0 x8_2).f2, (za l0 x8_2).f3, (za l0 x8_2).f4, (⟨(za l0 x8_2).f5.f0, (za l0 x8_2).f5.f1, (za l0 x8_2).f5.f2, (za l0 x8_2).f5.f3⟩ : S32)⟩ : S34)); (case aB => exact bsq); (case aF => exact (fun k_ hk => Kd.freshB (g := gb440) (o := .cells #[.int .i64 ((za l0 x8_2).f0), .int .i64 (wrap64 ((rd x5_1 (ji34)) - (rd x5_1 x8_2))), .int .i64 ((za l0 x8_2).f2), .int .i64 ((za l0 x8_2).f3), .string ((za l0 x8_2).f4), .int .u64 ((za l0 x8_2).f5.f0), .int .u64 ((za l0 x8_2).f5.f1), .int .u64 ((za l0 x8_2).f5.f2), .int .u64 ((za l0 x8_2).f5.f3)] 34 (0, 0)) (by (with_reducible skip); refine jw (cs := #[.int .i64 ((za l0 x8_2).f0), .int .i64 ((za l0 x8_2).f1), .int .i64 ((za l0 x8_2).f2), .int .i64 ((za l0 x8_2).f3), .string ((za l0 x8_2).f4), .int .u64 ((za l0 x8_2).f5.f0), .int .u64 ((za l0 x8_2).f5.f1), .int .u64 ((za l0 x8_2).f5.f2), .int .u64 ((za l0 x8_2).f5.f3)]) ?_ 1 _ rfl; (with_reducible skip); exact BK440.out) k_ hk)); (case aO => exact (by (with_reducible skip); exact Kd.zH (Kd.jG (p := ⟨gb440, 1, none⟩) (Kd.zH HO_7.out (fun k_ hk => (⟨hk, hk⟩ : _ ∧ k_ ≠ gb440))) (fun _ hk => hk.2) (.int .i64 (wrap64 ((rd x5_1 (ji34)) - (rd x5_1 x8_2))))) (fun _ hk => hk.1))); (case aS => exact (zj bsq)); (case aL => have := LMc38.out; omega); intro v445 w47 ho hb hg hat; rw [← Ny444.out] at ho; replace HO_5 := zb.mk (Kd.R_over' (by (with_reducible skip); exact (Kd.zH (Kd.jG (p := ⟨gb440, 1, none⟩) (Kd.jK HO_5.out BK440.out (by decide)) (fun _ hk => hk.2) (.int .i64 (wrap64 ((rd x5_1 (ji34)) - (rd x5_1 x8_2))))) (fun _ h_ => h_.1))) (Kd.R_typed (by (with_reducible skip); exact (Kd.zH (Kd.jG (p := ⟨gb440, 1, none⟩) (Kd.zH HO_7.out (fun k_ hk => (⟨hk, hk⟩ : _ ∧ k_ ≠ gb440))) (fun _ hk => hk.2) (.int .i64 (wrap64 ((rd x5_1 (ji34)) - (rd x5_1 x8_2))))) (fun _ h_ => h_.1)))) (by decide) hg); replace BK440 := zb.mk (xc (g := gb440) (o := .cells #[.int .i64 ((za l0 x8_2).f0), .int .i64 (wrap64 ((rd x5_1 (ji34)) - (rd x5_1 x8_2))), .int .i64 ((za l0 x8_2).f2), .int .i64 ((za l0 x8_2).f3), .string ((za l0 x8_2).f4), .int .u64 ((za l0 x8_2).f5.f0), .int .u64 ((za l0 x8_2).f5.f1), .int .u64 ((za l0 x8_2).f5.f2), .int .u64 ((za l0 x8_2).f5.f3)] 34 (0, 0)) (by (with_reducible skip); refine jw (cs := #[.int .i64 ((za l0 x8_2).f0), .int .i64 ((za l0 x8_2).f1), .int .i64 ((za l0 x8_2).f2), .int .i64 ((za l0 x8_2).f3), .string ((za l0 x8_2).f4), .int .u64 ((za l0 x8_2).f5.f0), .int .u64 ((za l0 x8_2).f5.f1), .int .u64 ((za l0 x8_2).f5.f2), .int .u64 ((za l0 x8_2).f5.f3)]) ?_ 1 _ rfl; (with_reducible skip); exact BK440.out) hg (Kd.R_away HO_7.out (fun _ hk => hk))); replace HB := zb.mk (hb); have HO446 := zb.mk (ho); clear HO_7; clear ho hb hg hat))
          go_roundg k2
          case measure => have := HK1.out; have := HK2.out; omega
          case rel => exact ⟨(y444), (wrap64 (x8_2 + 1)), eq0, H', ⟨by have := HK1.out; have := HK2.out; omega⟩, ⟨Kd.rx HO_5.out⟩, ⟨Kd.rx (Kd.zH HO446.out (fun _ hk => trivial))⟩, ⟨bsq⟩⟩
         ·replace c33 := Bool.eq_false_iff.mpr c33
          subst c33
          replace H := ifF H
          replace H := qh H; obtain ⟨c48, H⟩ := H
          have LMc48 := zb.mk c48
          clear c48
          obtain ⟨y447, hy447⟩ : ∃ y_ : List (S34), y_ = (x7_2 ++ [(⟨(za l0 x8_2).f0, (za l0 x8_2).f1, (za l0 x8_2).f2, (za l0 x8_2).f3, (za l0 x8_2).f4, (⟨(za l0 x8_2).f5.f0, (za l0 x8_2).f5.f1, (za l0 x8_2).f5.f2, (za l0 x8_2).f5.f3⟩ : S32)⟩ : S34)]) := ⟨_, rfl⟩
          replace H : (zp.l1 k2 l0 l1 x5_1 y447 (wrap64 (x8_2 + 1))) = some r := by (rw [hy447]; with_reducible exact H)
          have Ny447 := zb.mk hy447
          clear hy447
          have H' := zb.mk H
          clear H
          have p438 : 0 ≤ (x8_2 : Int) := dq
          have q438 : x8_2 < (l1.length : Int) := dq
          obtain ⟨ad438, e438, hx438_0⟩ := Kd.je HR1.out x8_2 p438 q438
          (try rw [← Nbq30.out] at hx438_0)
          cases e438
          replace hx438_0 := cb HB.out hx438_0
          replace p438 := eq_true p438
          replace q438 := eq_true q438
          have p439 : 0 ≤ (x8_2 : Int) := dq
          have q439 : x8_2 < (l0.length : Int) := dq
          obtain ⟨ad439, e439, hx439_0, hx439_1, hx439_2, hx439_3, hx439_4, hx439_5, hx439_6, hx439_7, hx439_8⟩ := zU HR0.out x8_2 p439 q439
          cases e439
          replace hx439_0 := cb HB.out hx439_0
          replace hx439_1 := cb HB.out hx439_1
          replace hx439_2 := cb HB.out hx439_2
          replace hx439_3 := cb HB.out hx439_3
          replace hx439_4 := cb HB.out hx439_4
          replace hx439_5 := cb HB.out hx439_5
          replace hx439_6 := cb HB.out hx439_6
          replace hx439_7 := cb HB.out hx439_7
          replace hx439_8 := cb HB.out hx439_8
          replace p439 := eq_true p439
          replace q439 := eq_true q439
          go_wp2_with (first | ((with_reducible refine z3 (N := 9) rfl ?_); refine qk ?hg (N := 9) ?hd (cs := #[.int .i64 0, .int .i64 0, .int .i64 0, .int .i64 0, .string (⟨#[]⟩ : ByteArray), .int .u64 0, .int .u64 0, .int .u64 0, .int .u64 0]) (t := 34) ?hr ?_; (case hd => rfl); (case hg => rfl); (case hr => (go_simp; done)); intro gb440 hg w49 hbox hb; replace HO_5 := Kd.rbl HO_5 hb; replace HO_7 := zb.mk (Kd.xk (Kd.xT (Kd.rx HO_7.out) gb440 (Nat.le_of_eq hg.symm)) hb); have BK440 := zb.mk (hbox); have GW440 := zb.mk ((by rw [hg]; exact (zj (bl HB.out)) : w.heap.size ≤ gb440)); have GE440 := zb.mk ((by rw [hg]; exact (zj (bl HB.out)) : w.heap.size ≤ gb440)); replace HB := bst HB hb; clear hb hbox hg; obtain ⟨hcz50_0, hcz50_1, hcz50_2, hcz50_3, hcz50_4, hcz50_5, hcz50_6, hcz50_7, hcz50_8⟩ := zS BK440.out; obtain ⟨hfz50_0, hfz50_1, hfz50_2, hfz50_3, hfz50_4, hfz50_5, hfz50_6, hfz50_7, hfz50_8⟩ := zR BK440.out) | ((with_reducible refine zM (t := 34) (p := 9) rfl ?_); refine zB (t := 34) (p := 9) (v := ?vo_w51) (w1 := (xr w49 gb440 #[.int .i64 ((za l0 x8_2).f0), .int .i64 ((za l0 x8_2).f1), .int .i64 ((za l0 x8_2).f2), .int .i64 ((za l0 x8_2).f3), .string ((za l0 x8_2).f4), .int .u64 ((za l0 x8_2).f5.f0), .int .u64 ((za l0 x8_2).f5.f1), .int .u64 ((za l0 x8_2).f5.f2), .int .u64 ((za l0 x8_2).f5.f3)])) ?hg ?ho ?hn ?hr ?_; (case ho => rfl); (case hg => rfl); (case hn => rfl); (case hr => (go_simp; rfl)); intro w51 hw; replace HO_5 : zb (Kd.R (Kd.int .i64) 3 w51 w.heap.size (fun _ => True) v431 x5_1) := ⟨(by rw [hw]; exact (Kd.rx (Kd.zH (Kd.jc (g := gb440) (Kd.jK HO_5.out BK440.out (by decide)) (fun _ hk => hk.2) #[.int .i64 ((za l0 x8_2).f0), .int .i64 ((za l0 x8_2).f1), .int .i64 ((za l0 x8_2).f2), .int .i64 ((za l0 x8_2).f3), .string ((za l0 x8_2).f4), .int .u64 ((za l0 x8_2).f5.f0), .int .u64 ((za l0 x8_2).f5.f1), .int .u64 ((za l0 x8_2).f5.f2), .int .u64 ((za l0 x8_2).f5.f3)]) (fun _ hk => trivial))))⟩; replace HO_7 : zb (Kd.R k34 34 w51 w.heap.size (fun k_ => k_ ≠ gb440) u7 x7_2) := ⟨(by rw [hw]; exact (Kd.rx (Kd.zH (Kd.jc (g := gb440) (Kd.zH HO_7.out (fun k_ hk => (⟨hk, hk.2⟩ : _ ∧ k_ ≠ gb440))) (fun _ hk => hk.2) #[.int .i64 ((za l0 x8_2).f0), .int .i64 ((za l0 x8_2).f1), .int .i64 ((za l0 x8_2).f2), .int .i64 ((za l0 x8_2).f3), .string ((za l0 x8_2).f4), .int .u64 ((za l0 x8_2).f5.f0), .int .u64 ((za l0 x8_2).f5.f1), .int .u64 ((za l0 x8_2).f5.f2), .int .u64 ((za l0 x8_2).f5.f3)]) (fun _ hk => hk.1.2))))⟩; replace BK440 : zb (w51.heap[gb440]? = some (.cells #[.int .i64 ((za l0 x8_2).f0), .int .i64 ((za l0 x8_2).f1), .int .i64 ((za l0 x8_2).f2), .int .i64 ((za l0 x8_2).f3), .string ((za l0 x8_2).f4), .int .u64 ((za l0 x8_2).f5.f0), .int .u64 ((za l0 x8_2).f5.f1), .int .u64 ((za l0 x8_2).f5.f2), .int .u64 ((za l0 x8_2).f5.f3)] 34 (0, 0))) := ⟨(by rw [hw]; exact (by (with_reducible skip); refine xd (cs := #[.int .i64 0, .int .i64 0, .int .i64 0, .int .i64 0, .string (⟨#[]⟩ : ByteArray), .int .u64 0, .int .u64 0, .int .u64 0, .int .u64 0]) ?_ _ rfl; (with_reducible skip); exact BK440.out))⟩; replace HB : zb (Below w.heap.size w w51) := ⟨(by rw [hw]; exact bsq)⟩; clear hw; obtain ⟨hcz52_0, hcz52_1, hcz52_2, hcz52_3, hcz52_4, hcz52_5, hcz52_6, hcz52_7, hcz52_8⟩ := zS BK440.out; obtain ⟨hfz52_0, hfz52_1, hfz52_2, hfz52_3, hfz52_4, hfz52_5, hfz52_6, hfz52_7, hfz52_8⟩ := zR BK440.out) | ((with_reducible refine zc (f := 19) rfl ?_); refine zh (some 56) rfl rfl Tryd.func19 (by kernel_rfl) rfl #[.int .i64 ((za l0 x8_2).f0)] rfl hq ?_; (with_reducible refine (zv.calls ((za l0 x8_2).f0) false _ ?side1 A32.out).mono ?_); (case side1 => exact GW.below HG.out bsq); rintro e w' ⟨rfl, ⟨nd, rfl⟩⟩; refine ⟨_, rfl, ?_⟩) | ((with_reducible refine qu (b := .append) (xs := #[.tmp 70, .tmp 72]) rfl ?_); at_builtin; refine Kd.xE k34 (w0 := w) w.heap.size rfl (.tmp 70) (.tmp 72) 22 34 (.agg #[(.int .i64 0), (.int .i64 0), (.int .i64 0), (.int .i64 0), (.string ⟨#[]⟩), (.int .u64 0), (.int .u64 0), (.int .u64 0), (.int .u64 0)]) 80 rfl Tryd.underlying22 info34 rfl (by decide) (by omega) u7 x7_2 (⟨(za l0 x8_2).f0, (za l0 x8_2).f1, (za l0 x8_2).f2, (za l0 x8_2).f3, (za l0 x8_2).f4, (⟨(za l0 x8_2).f5.f0, (za l0 x8_2).f5.f1, (za l0 x8_2).f5.f2, (za l0 x8_2).f5.f3⟩ : S32)⟩ : S34) [.int .i64 ((za l0 x8_2).f0), .int .i64 ((za l0 x8_2).f1), .int .i64 ((za l0 x8_2).f2), .int .i64 ((za l0 x8_2).f3), .string ((za l0 x8_2).f4), .int .u64 ((za l0 x8_2).f5.f0), .int .u64 ((za l0 x8_2).f5.f1), .int .u64 ((za l0 x8_2).f5.f2), .int .u64 ((za l0 x8_2).f5.f3)] (fun k_ => k_ ≠ gb440) (fun _ => False) rfl rfl ?aP (fun _ hk => hk.elim) ?aF ?aO ?aB ?aS ?aL ?_; (case aP => exact xq _ _ _ (⟨(za l0 x8_2).f0, (za l0 x8_2).f1, (za l0 x8_2).f2, (za l0 x8_2).f3, (za l0 x8_2).f4, (⟨(za l0 x8_2).f5.f0, (za l0 x8_2).f5.f1, (za l0 x8_2).f5.f2, (za l0 x8_2).f5.f3⟩ : S32)⟩ : S34)); (case aB => exact bsq); (case aF => exact (fun k_ hk => Kd.freshB (g := gb440) (o := .cells #[.int .i64 ((za l0 x8_2).f0), .int .i64 ((za l0 x8_2).f1), .int .i64 ((za l0 x8_2).f2), .int .i64 ((za l0 x8_2).f3), .string ((za l0 x8_2).f4), .int .u64 ((za l0 x8_2).f5.f0), .int .u64 ((za l0 x8_2).f5.f1), .int .u64 ((za l0 x8_2).f5.f2), .int .u64 ((za l0 x8_2).f5.f3)] 34 (0, 0)) (bx BK440.out) k_ hk)); (case aO => exact (Kd.rx HO_7.out)); (case aS => exact (zj bsq)); (case aL => have := LMc48.out; omega); intro v448 w53 ho hb hg hat; rw [← Ny447.out] at ho; replace HO_5 := zb.mk (Kd.R_over' (Kd.rx HO_5.out) (Kd.R_typed (Kd.rx HO_7.out)) (by decide) hg); replace BK440 := zb.mk (xc (g := gb440) (o := .cells #[.int .i64 ((za l0 x8_2).f0), .int .i64 ((za l0 x8_2).f1), .int .i64 ((za l0 x8_2).f2), .int .i64 ((za l0 x8_2).f3), .string ((za l0 x8_2).f4), .int .u64 ((za l0 x8_2).f5.f0), .int .u64 ((za l0 x8_2).f5.f1), .int .u64 ((za l0 x8_2).f5.f2), .int .u64 ((za l0 x8_2).f5.f3)] 34 (0, 0)) (bx BK440.out) hg (Kd.R_away HO_7.out (fun _ hk => hk))); replace HB := zb.mk (hb); have HO449 := zb.mk (ho); clear HO_7; clear ho hb hg hat))
          go_roundg k2
          case measure => have := HK1.out; have := HK2.out; omega
          case rel => exact ⟨(y447), (wrap64 (x8_2 + 1)), eq0, H', ⟨by have := HK1.out; have := HK2.out; omega⟩, ⟨Kd.rx HO_5.out⟩, ⟨Kd.rx (Kd.zH HO449.out (fun _ hk => trivial))⟩, ⟨bsq⟩⟩
       ·rw [if_neg c27] at H
        have c27b0 := decide_eq_false c27
        clear c27
        obtain rfl := Option.some.inj H
        go_wp2
        go_ret
        exact ⟨_, by rfl, Kd.rx HO_7.out, bl HB.out⟩
 ·rw [if_neg c4] at H
  exact absurd H (by simp)
def zZ.l0 : Nat → List (S34) → List Bool → Int → Option ((List (S34)))
 | 0, _, _, _ => none
 | k + 1, x0, x3, x4 => if x4 < (x0.length : Int) then (if 0 ≤ x4 then (if ((za x0 x4).f0) = 14 then (if x4 < (x3.length : Int) then (zZ.l0 k x0 (x3.set (x4 : Int).toNat (((za x0 x4).f1) == 1)) (wrap64 (x4 + 1))) else (none)) else (if x4 < (x3.length : Int) then (zZ.l0 k x0 (x3.set (x4 : Int).toNat false) (wrap64 (x4 + 1))) else (none))) else (none)) else ((zp.f k x0 x3).bind fun t457 => (some t457))
def zZ.f (k : Nat) (l0 : List (S34)) : Option ((List (S34))) := if 0 ≤ (l0.length : Int) then (if ((l0.length : Int) : Int).toNat ≤ 281474976710656 then (zZ.l0 k l0 (List.replicate ((l0.length : Int) : Int).toNat false) 0) else (none)) else (none)
theorem zZ.calls (k : Nat) (A0 : Option Addr) (c0 : Nat) (l0 r : List (S34)) (w : World) (hG : GW w) (hr0 : Kd.C k34 w A0 l0.length l0) (hc0 : l0.length ≤ c0) (h : zZ.f k l0 = some r) :
  Calls Tryd.prog 35 #[.slice A0 l0.length c0] w fun e w' => ∃ v0_ : Value, e = .returned (v0_) ∧ Kd.R k34 34 w' w.heap.size (fun _ => True) v0_ r ∧ Below w.heap.size w w' := by
 have HR0 := zb.mk hr0
 have HC0 := zb.mk hc0
 clear hr0 hc0
 have HG := zb.mk hG
 clear hG
 have HB := zb.mk (Below.refl w.heap.size w)
 have H : (if 0 ≤ (l0.length : Int) then (if ((l0.length : Int) : Int).toNat ≤ 281474976710656 then (zZ.l0 k l0 (List.replicate ((l0.length : Int) : Int).toNat false) 0) else (none)) else (none)) = some r := h
 clear h
 by_cases c2 : 0 ≤ (l0.length : Int)
 ·rw [if_pos c2] at H
  have c2b0 := eq_true c2
  have c2b1 := decide_eq_true c2
  clear c2
  replace H := qh H; obtain ⟨c3, H⟩ := H
  have c3b0 := eq_true c3
  have c3b1 := decide_eq_true c3
  clear c3
  obtain ⟨y450, hy450⟩ : ∃ y_ : List Bool, y_ = (List.replicate ((l0.length : Int) : Int).toNat false) := ⟨_, rfl⟩
  replace H : (zZ.l0 k l0 y450 0) = some r := by (rw [hy450]; with_reducible exact H)
  have Ny450 := zb.mk hy450
  clear hy450
  have H' := zb.mk H
  clear H
  go_enter Tryd.func35, Tryd.ntmps35
  go_wp2_with (((with_reducible refine z3 (N := 7) rfl ?_); refine Kd.R_make Kd.bool _ 4 rfl (N := 7) rfl 27 _ _ rfl (l0.length : Int) rfl rfl Tryd.underlying27 (.bool false) 1 info4 rfl (by decide) (by omega) false (ok := fun _ => True) (okp := fun _ => True) rfl (fun _ hk => hk) trivial (dq) (Nat.le_trans (Nat.mul_le_mul_right _ (dq : (l0.length : Int).toNat ≤ 281474976710656)) (by omega)) (Below.refl _ _) (Nat.le_refl _) ?_; intro v451 w4 ho5 hb hg_ hnew_; clear hg_ hnew_; (rw [← Ny450.out] at ho5); have HO452 := zb.mk (Kd.rlo ho5 HB); replace HB := bst HB hb; clear hb ho5))
  go_loopg [4] k (fun kq v4 w' => ∃ (x3_1 : List Bool) (x4_1 : Int), v4 = .int .i64 x4_1 ∧ zb (zZ.l0 kq l0 x3_1 x4_1 = some r) ∧ zb (kq ≤ k) ∧ zb (Kd.R Kd.bool 4 w' w.heap.size (fun _ => True) v451 x3_1) ∧ zb (Below w.heap.size w w'))
  case atStart => exact ⟨(y450), (0), eq0, H', ⟨Nat.le_refl _⟩, ⟨Kd.rx HO452.out⟩, ⟨bl HB.out⟩⟩
  case round =>
   clear H'
   (try clear c2b0); (try clear c2b1); (try clear c3b0); (try clear c3b1)
   obtain ⟨x3_1, x4_1, rfl, HA, HK1, HO_3, HB⟩ := hrel
   cases gk with
   | zero => exact absurd HA.out (by simp [zZ.l0])
   | succ k1 =>
    have H := HA.out
    clear HA
    simp only [zZ.l0] at H
    by_cases c6 : x4_1 < (l0.length : Int)
    ·rw [if_pos c6] at H
     have c6b0 := decide_eq_true c6
     clear c6
     replace H := qh H; obtain ⟨c7, H⟩ := H
     have c7b0 := decide_eq_true c7
     clear c7
     by_cases c8 : ((za l0 x4_1).f0) = 14
     ·rw [if_pos c8] at H
      have c8b0 := beq_iff_eq.mpr c8
      have c8b1 := bne_eq_false_iff_eq.mpr c8
      clear c8
      replace H := qh H; obtain ⟨c9, H⟩ := H
      have c9b0 := decide_eq_true c9
      clear c9
      obtain ⟨y455, hy455⟩ : ∃ y_ : List Bool, y_ = (x3_1.set (x4_1 : Int).toNat (((za l0 x4_1).f1) == 1)) := ⟨_, rfl⟩
      replace H : (zZ.l0 k1 l0 y455 (wrap64 (x4_1 + 1))) = some r := by (rw [hy455]; with_reducible exact H)
      have Ny455 := zb.mk hy455
      clear hy455
      have H' := zb.mk H
      clear H
      have p453 : 0 ≤ (x4_1 : Int) := dq
      have q453 : x4_1 < (l0.length : Int) := dq
      obtain ⟨ad453, e453, hx453_0, hx453_1, hx453_2, hx453_3, hx453_4, hx453_5, hx453_6, hx453_7, hx453_8⟩ := zU HR0.out x4_1 p453 q453
      cases e453
      replace hx453_0 := cb HB.out hx453_0
      replace hx453_1 := cb HB.out hx453_1
      replace hx453_2 := cb HB.out hx453_2
      replace hx453_3 := cb HB.out hx453_3
      replace hx453_4 := cb HB.out hx453_4
      replace hx453_5 := cb HB.out hx453_5
      replace hx453_6 := cb HB.out hx453_6
      replace hx453_7 := cb HB.out hx453_7
      replace hx453_8 := cb HB.out hx453_8
      replace p453 := eq_true p453
      replace q453 := eq_true q453
      have p454 : 0 ≤ (x4_1 : Int) := dq
      have q454 : x4_1 < (l0.length : Int) := dq
      obtain ⟨ad454, e454, hx454_0, hx454_1, hx454_2, hx454_3, hx454_4, hx454_5, hx454_6, hx454_7, hx454_8⟩ := zU HR0.out x4_1 p454 q454
      obtain rfl : ad453 = ad454 := (by injection e454)
      replace hx454_0 := cb HB.out hx454_0
      replace hx454_1 := cb HB.out hx454_1
      replace hx454_2 := cb HB.out hx454_2
      replace hx454_3 := cb HB.out hx454_3
      replace hx454_4 := cb HB.out hx454_4
      replace hx454_5 := cb HB.out hx454_5
      replace hx454_6 := cb HB.out hx454_6
      replace hx454_7 := cb HB.out hx454_7
      replace hx454_8 := cb HB.out hx454_8
      replace p454 := eq_true p454
      replace q454 := eq_true q454
      have p10 : 0 ≤ (x4_1 : Int) := dq
      have q10 : (x4_1 : Int) < ((x3_1.length : Int) : Int) := dq
      obtain ⟨go10, co10, eo10, gb10, gl10, cl10, HG10⟩ := Kd.xR HO_3.out (by omega)
      (cases eo10)
      have GB10 := zb.mk gb10
      have GG10 := zb.mk HG10
      clear gb10 gl10 HG10
      obtain ⟨hx10_0, hf10_0⟩ := Kd.xG false HO_3.out (x4_1 : Int) p10 q10
      replace p10 := eq_true p10
      replace q10 := eq_true q10
      have HP11 := Kd.jL HO_3.out (x4_1 : Int) (((za l0 x4_1).f1) == 1)
      go_wp2_with (((with_reducible refine zM (t := 4) (p := 30) rfl ?_); refine zB (t := 4) (p := 30) (v := ?vo_w12) (w1 := (wr.setCell ⟨go10, (x4_1 : Int).toNat, none⟩ (.bool (((za l0 x4_1).f1) == 1)))) ?hg ?ho ?hn ?hr ?_; (case ho => rfl); (case hg => rfl); (case hn => rfl); (case hr => (go_simp; done)); intro w12 hw; have hg : wr.grownBy w12 (some go10) := (by rw [hw]; exact HP11.2); have hp_ : Kd.R Kd.bool 4 w12 w.heap.size (fun _ => True) (.slice (some ⟨go10, 0, none⟩) x3_1.length co10) y455 := (by rw [hw, Ny455.out]; exact HP11.1); clear HP11; replace HO_3 := zb.mk (hp_); replace HB := zb.mk ((by rw [hw]; exact zz (HB.out) GB10.out : Below w.heap.size w w12)); clear hg hw hp_))
      go_roundg k1
      case measure => have := HK1.out; omega
      case rel => exact ⟨(y455), (wrap64 (x4_1 + 1)), eq0, H', ⟨by have := HK1.out; omega⟩, ⟨Kd.rx HO_3.out⟩, ⟨bl HB.out⟩⟩
     ·rw [if_neg c8] at H
      have c8b0 := beq_eq_false_iff_ne.mpr c8
      have c8b1 := bne_iff_ne.mpr c8
      replace H := qh H; obtain ⟨c13, H⟩ := H
      have c13b0 := decide_eq_true c13
      clear c13
      obtain ⟨y456, hy456⟩ : ∃ y_ : List Bool, y_ = (x3_1.set (x4_1 : Int).toNat false) := ⟨_, rfl⟩
      replace H : (zZ.l0 k1 l0 y456 (wrap64 (x4_1 + 1))) = some r := by (rw [hy456]; with_reducible exact H)
      have Ny456 := zb.mk hy456
      clear hy456
      have H' := zb.mk H
      clear H
      have p453 : 0 ≤ (x4_1 : Int) := dq
      have q453 : x4_1 < (l0.length : Int) := dq
      obtain ⟨ad453, e453, hx453_0, hx453_1, hx453_2, hx453_3, hx453_4, hx453_5, hx453_6, hx453_7, hx453_8⟩ := zU HR0.out x4_1 p453 q453
      cases e453
      replace hx453_0 := cb HB.out hx453_0
      replace hx453_1 := cb HB.out hx453_1
      replace hx453_2 := cb HB.out hx453_2
      replace hx453_3 := cb HB.out hx453_3
      replace hx453_4 := cb HB.out hx453_4
      replace hx453_5 := cb HB.out hx453_5
      replace hx453_6 := cb HB.out hx453_6
      replace hx453_7 := cb HB.out hx453_7
      replace hx453_8 := cb HB.out hx453_8
      replace p453 := eq_true p453
      replace q453 := eq_true q453
      have p14 : 0 ≤ (x4_1 : Int) := dq
      have q14 : (x4_1 : Int) < ((x3_1.length : Int) : Int) := dq
      obtain ⟨go14, co14, eo14, gb14, gl14, cl14, HG14⟩ := Kd.xR HO_3.out (by omega)
      (cases eo14)
      have GB14 := zb.mk gb14
      have GG14 := zb.mk HG14
      clear gb14 gl14 HG14
      obtain ⟨hx14_0, hf14_0⟩ := Kd.xG false HO_3.out (x4_1 : Int) p14 q14
      replace p14 := eq_true p14
      replace q14 := eq_true q14
      have HP15 := Kd.jL HO_3.out (x4_1 : Int) false
      go_wp2_with (((with_reducible refine zM (t := 4) (p := 30) rfl ?_); refine zB (t := 4) (p := 30) (v := ?vo_w16) (w1 := (wr.setCell ⟨go14, (x4_1 : Int).toNat, none⟩ (.bool false))) ?hg ?ho ?hn ?hr ?_; (case ho => rfl); (case hg => rfl); (case hn => rfl); (case hr => (go_simp; done)); intro w16 hw; have hg : wr.grownBy w16 (some go14) := (by rw [hw]; exact HP15.2); have hp_ : Kd.R Kd.bool 4 w16 w.heap.size (fun _ => True) (.slice (some ⟨go14, 0, none⟩) x3_1.length co14) y456 := (by rw [hw, Ny456.out]; exact HP15.1); clear HP15; replace HO_3 := zb.mk (hp_); replace HB := zb.mk ((by rw [hw]; exact zz (HB.out) GB14.out : Below w.heap.size w w16)); clear hg hw hp_))
      go_roundg k1
      case measure => have := HK1.out; omega
      case rel => exact ⟨(y456), (wrap64 (x4_1 + 1)), eq0, H', ⟨by have := HK1.out; omega⟩, ⟨Kd.rx HO_3.out⟩, ⟨bl HB.out⟩⟩
    ·rw [if_neg c6] at H
     have c6b0 := decide_eq_false c6
     clear c6
     replace H := zO H; obtain ⟨t457, A17, H⟩ := H
     obtain rfl := Option.some.inj H
     obtain ⟨Ao18, co18, eo18⟩ := Kd.zw HO_3.out
     subst eo18
     go_wp2_with (((with_reducible refine zc (f := 54) rfl ?_); refine zh (some 33) rfl rfl Tryd.func54 (by kernel_rfl) rfl #[.slice A0 l0.length c0, .slice Ao18 x3_1.length co18] rfl hq ?_; (with_reducible refine (zp.calls k1 _ _ l0 _ _ x3_1 t457 _ ?side5 ?side1 ?side2 ?side3 ?side4 A17.out).mono ?_); (case side1 => exact Kd.cx (Kd.zF HR0.out HB.out)); (case side2 => exact HC0.out); (case side3 => repeat (exact (Kd.zf HO_3.out).2.2)); (case side4 => exact (Kd.zf HO_3.out).2.1); (case side5 => exact gb HG HB); rintro e w19 ⟨v458, rfl, ho0, hb⟩; refine ⟨_, rfl, ?_⟩; replace HO_3 := Kd.rbl HO_3 hb; have HO459 := zb.mk (Kd.rlo ho0 HB); replace HB := bst HB hb; (try clear hb); (try clear ho0)))
     go_ret
     exact ⟨_, eq1, Kd.rx HO459.out, bl HB.out⟩
 ·rw [if_neg c2] at H
  exact absurd H (by simp)
mutual
def zW.j0 : Nat → Int → List Int → Bool → Bool → Int → Int → Int → Int → ByteArray → Int → Int → Int → Int → Option (List Int)
 | 0, _, _, _, _, _, _, _, _, _, _, _, _, _ => none
 | k + 1, x1, x6, x9, x32, x462000, x462001, x462002, x462003, x462004, x462005, x462006, x462007, x462008 => if x32 = true then (if x6.length < 17592186044416 then (zW.j1 k x1 (x6 ++ [wrap64 (x1 + x462001)]) x9 x462000 x462001 x462002 x462003 x462004 x462005 x462006 x462007 x462008) else (none)) else (zW.j1 k x1 x6 x9 x462000 x462001 x462002 x462003 x462004 x462005 x462006 x462007 x462008)
def zW.j1 : Nat → Int → List Int → Bool → Int → Int → Int → Int → ByteArray → Int → Int → Int → Int → Option (List Int)
 | 0, _, _, _, _, _, _, _, _, _, _, _, _ => none
 | k + 1, x1, x6, x9, x462000, x462001, x462002, x462003, x462004, x462005, x462006, x462007, x462008 => if x9 = true then (if x6.length < 17592186044416 then ((some (x6 ++ [wrap64 (x1 + 1)] : List Int)).bind fun y469 => ((zv.f x462000).bind fun t472 => (if t472 = true then (if (wrap64 (x1 + x462001)) > (wrap64 (x1 + 1)) then (if y469.length < 17592186044416 then (some (y469 ++ [wrap64 (x1 + x462001)])) else (none)) else (if (wrap64 (x1 + x462001)) = (wrap64 (x1 + 1)) then (some y469) else (some y469))) else (some y469)))) else (none)) else ((zv.f x462000).bind fun t476 => (if t476 = true then (if (wrap64 (x1 + x462001)) > (wrap64 (x1 + 1)) then (if x6.length < 17592186044416 then (some (x6 ++ [wrap64 (x1 + x462001)])) else (none)) else (if (wrap64 (x1 + x462001)) = (wrap64 (x1 + 1)) then (if x6.length < 17592186044416 then (some (x6 ++ [wrap64 (x1 + x462001)])) else (none)) else (some x6))) else (some x6)))
end
def zW.f (k : Nat) (l0 : List (S34)) (a1 : Int) : Option (List Int) := if 0 ≤ a1 then (if a1 < (l0.length : Int) then ((zX.f ((za l0 a1).f0)).bind fun bt462 => ((zv.f ((za l0 a1).f0)).bind fun t465 => (if t465 = true then (zW.j0 k a1 ([] : List Int) bt462.2.2 (decide ((wrap64 (a1 + ((za l0 a1).f1))) < (wrap64 (a1 + 1)))) ((za l0 a1).f0) ((za l0 a1).f1) ((za l0 a1).f2) ((za l0 a1).f3) ((za l0 a1).f4) ((za l0 a1).f5.f0) ((za l0 a1).f5.f1) ((za l0 a1).f5.f2) ((za l0 a1).f5.f3)) else (zW.j0 k a1 ([] : List Int) bt462.2.2 false ((za l0 a1).f0) ((za l0 a1).f1) ((za l0 a1).f2) ((za l0 a1).f3) ((za l0 a1).f4) ((za l0 a1).f5.f0) ((za l0 a1).f5.f1) ((za l0 a1).f5.f2) ((za l0 a1).f5.f3))))) else (none)) else (none)
theorem zW.calls (k : Nat) (A0 : Option Addr) (c0 : Nat) (l0 : List (S34)) (a1 : Int) (r : List Int) (w : World) (hG : GW w) (hr0 : Kd.C k34 w A0 l0.length l0) (hc0 : l0.length ≤ c0) (h : zW.f k l0 a1 = some r) :
  Calls Tryd.prog 62 #[.slice A0 l0.length c0, .int .i64 a1] w fun e w' => ∃ v0_ : Value, e = .returned (v0_) ∧ Kd.R (Kd.int .i64) 3 w' w.heap.size (fun _ => True) v0_ r ∧ Below w.heap.size w w' := by
 have hu34 := Tryd.underlying34
 have HR0 := zb.mk hr0
 have HC0 := zb.mk hc0
 clear hr0 hc0
 have HG := zb.mk hG
 clear hG
 have HB := zb.mk (Below.refl w.heap.size w)
 have H : (if 0 ≤ a1 then (if a1 < (l0.length : Int) then ((zX.f ((za l0 a1).f0)).bind fun bt462 => ((zv.f ((za l0 a1).f0)).bind fun t465 => (if t465 = true then (zW.j0 k a1 ([] : List Int) bt462.2.2 (decide ((wrap64 (a1 + ((za l0 a1).f1))) < (wrap64 (a1 + 1)))) ((za l0 a1).f0) ((za l0 a1).f1) ((za l0 a1).f2) ((za l0 a1).f3) ((za l0 a1).f4) ((za l0 a1).f5.f0) ((za l0 a1).f5.f1) ((za l0 a1).f5.f2) ((za l0 a1).f5.f3)) else (zW.j0 k a1 ([] : List Int) bt462.2.2 false ((za l0 a1).f0) ((za l0 a1).f1) ((za l0 a1).f2) ((za l0 a1).f3) ((za l0 a1).f4) ((za l0 a1).f5.f0) ((za l0 a1).f5.f1) ((za l0 a1).f5.f2) ((za l0 a1).f5.f3))))) else (none)) else (none)) = some r := h
 clear h
 by_cases c3 : 0 ≤ a1
 ·rw [if_pos c3] at H
  have c3b0 := decide_eq_true c3
  clear c3
  replace H := qh H; obtain ⟨c4, H⟩ := H
  have c4b0 := decide_eq_true c4
  clear c4
  replace H := zO H; obtain ⟨⟨t462, t463, t464⟩, A5, H⟩ := H; try dsimp only at H
  have HC6 := zb.mk H
  clear H
  have p460 : 0 ≤ (a1 : Int) := dq
  have q460 : a1 < (l0.length : Int) := dq
  obtain ⟨ad460, e460, hx460_0, hx460_1, hx460_2, hx460_3, hx460_4, hx460_5, hx460_6, hx460_7, hx460_8⟩ := zU HR0.out a1 p460 q460
  cases e460
  replace p460 := eq_true p460
  replace q460 := eq_true q460
  go_enter Tryd.func62, Tryd.ntmps62
  go_upto_region 4 with (first | ((with_reducible refine z3 (N := 5) rfl ?_); refine qk ?hg (N := 5) ?hd (cs := #[.int .i64 0, .int .i64 0, .int .i64 0, .int .i64 0, .string (⟨#[]⟩ : ByteArray), .int .u64 0, .int .u64 0, .int .u64 0, .int .u64 0]) (t := 34) ?hr ?_; (case hd => rfl); (case hg => rfl); (case hr => (go_simp; done)); intro gb461 hg w7 hbox hb; have BK461 := zb.mk (hbox); have GW461 := zb.mk ((by rw [hg]; exact (zj (bl HB.out)) : w.heap.size ≤ gb461)); have GE461 := zb.mk ((by rw [hg]; exact (zj (bl HB.out)) : w.heap.size ≤ gb461)); replace HB := bst HB hb; clear hb hbox hg; obtain ⟨hcz8_0, hcz8_1, hcz8_2, hcz8_3, hcz8_4, hcz8_5, hcz8_6, hcz8_7, hcz8_8⟩ := zS BK461.out; obtain ⟨hfz8_0, hfz8_1, hfz8_2, hfz8_3, hfz8_4, hfz8_5, hfz8_6, hfz8_7, hfz8_8⟩ := zR BK461.out) | ((with_reducible refine zM (t := 34) (p := 5) rfl ?_); refine zB (t := 34) (p := 5) (v := ?vo_w9) (w1 := (xr w7 gb461 #[.int .i64 ((za l0 a1).f0), .int .i64 ((za l0 a1).f1), .int .i64 ((za l0 a1).f2), .int .i64 ((za l0 a1).f3), .string ((za l0 a1).f4), .int .u64 ((za l0 a1).f5.f0), .int .u64 ((za l0 a1).f5.f1), .int .u64 ((za l0 a1).f5.f2), .int .u64 ((za l0 a1).f5.f3)])) ?hg ?ho ?hn ?hr ?_; (case ho => rfl); (case hg => rfl); (case hn => rfl); (case hr => (go_simp; rfl)); intro w9 hw; replace BK461 : zb (w9.heap[gb461]? = some (.cells #[.int .i64 ((za l0 a1).f0), .int .i64 ((za l0 a1).f1), .int .i64 ((za l0 a1).f2), .int .i64 ((za l0 a1).f3), .string ((za l0 a1).f4), .int .u64 ((za l0 a1).f5.f0), .int .u64 ((za l0 a1).f5.f1), .int .u64 ((za l0 a1).f5.f2), .int .u64 ((za l0 a1).f5.f3)] 34 (0, 0))) := ⟨(by rw [hw]; exact (by (with_reducible skip); refine xd (cs := #[.int .i64 0, .int .i64 0, .int .i64 0, .int .i64 0, .string (⟨#[]⟩ : ByteArray), .int .u64 0, .int .u64 0, .int .u64 0, .int .u64 0]) ?_ _ rfl; (with_reducible skip); exact BK461.out))⟩; replace HB : zb (Below w.heap.size w w9) := ⟨(by rw [hw]; exact bsq)⟩; clear hw; obtain ⟨hcz10_0, hcz10_1, hcz10_2, hcz10_3, hcz10_4, hcz10_5, hcz10_6, hcz10_7, hcz10_8⟩ := zS BK461.out; obtain ⟨hfz10_0, hfz10_1, hfz10_2, hfz10_3, hfz10_4, hfz10_5, hfz10_6, hfz10_7, hfz10_8⟩ := zR BK461.out) | ((with_reducible refine zc (f := 39) rfl ?_); refine zh (some 17) rfl rfl Tryd.func39 (by kernel_rfl) rfl #[.int .i64 ((za l0 a1).f0)] rfl hq ?_; (with_reducible refine (zX.calls ((za l0 a1).f0) t462 t463 t464 _ ?side1 A5.out).mono ?_); (case side1 => exact GW.below HG.out bsq); rintro e w' ⟨rfl, ⟨nd, rfl⟩⟩; refine ⟨_, rfl, ?_⟩))
  go_cut [32] (fun v32 wc => ∃ (kq : Nat) (x32_5 : Bool), v32 = .bool x32_5 ∧ zb (zW.j0 kq a1 ([] : List Int) t464 x32_5 ((za l0 a1).f0) ((za l0 a1).f1) ((za l0 a1).f2) ((za l0 a1).f3) ((za l0 a1).f4) ((za l0 a1).f5.f0) ((za l0 a1).f5.f1) ((za l0 a1).f5.f2) ((za l0 a1).f5.f3) = some r) ∧ zb (kq ≤ k) ∧ zb (Kd.R (Kd.int .i64) 3 wc w.heap.size (fun _ => True) (.slice none 0 0) ([] : List Int)) ∧ zb (wc.heap[gb461]? = some (.cells #[.int .i64 ((za l0 a1).f0), .int .i64 ((za l0 a1).f1), .int .i64 ((za l0 a1).f2), .int .i64 ((za l0 a1).f3), .string ((za l0 a1).f4), .int .u64 ((za l0 a1).f5.f0), .int .u64 ((za l0 a1).f5.f1), .int .u64 ((za l0 a1).f5.f2), .int .u64 ((za l0 a1).f5.f3)] 34 (0, 0))) ∧ zb (Below w.heap.size w wc))
  case first =>
   have H := HC6.out
   clear HC6
   replace H := zO H; obtain ⟨t465, A11, H⟩ := H
   by_cases c12 : t465 = true
   ·subst c12
    replace H := ifT H
    have H' := zb.mk H
    clear H
    obtain ⟨hcz13_0, hcz13_1, hcz13_2, hcz13_3, hcz13_4, hcz13_5, hcz13_6, hcz13_7, hcz13_8⟩ := zS BK461.out
    obtain ⟨hfz13_0, hfz13_1, hfz13_2, hfz13_3, hfz13_4, hfz13_5, hfz13_6, hfz13_7, hfz13_8⟩ := zR BK461.out
    go_wp2_with (((with_reducible refine zc (f := 19) rfl ?_); refine zh (some 23) rfl rfl Tryd.func19 (by kernel_rfl) rfl #[.int .i64 ((za l0 a1).f0)] rfl hq ?_; (with_reducible refine (zv.calls ((za l0 a1).f0) true _ ?side1 A11.out).mono ?_); (case side1 => exact GW.below HG.out bsq); rintro e w' ⟨rfl, ⟨nd, rfl⟩⟩; refine ⟨_, rfl, ?_⟩))
    go_meet
    case rel => exact ⟨_, (decide ((wrap64 (a1 + ((za l0 a1).f1))) < (wrap64 (a1 + 1)))), eq0, H', ⟨by omega⟩, ⟨by exact Kd.ji _ _ _ _ _⟩, ⟨by (with_reducible repeat (refine qy ?_ _)); exact BK461.out⟩, ⟨bsq⟩⟩
   ·replace c12 := Bool.eq_false_iff.mpr c12
    subst c12
    replace H := ifF H
    have H' := zb.mk H
    clear H
    obtain ⟨hcz14_0, hcz14_1, hcz14_2, hcz14_3, hcz14_4, hcz14_5, hcz14_6, hcz14_7, hcz14_8⟩ := zS BK461.out
    obtain ⟨hfz14_0, hfz14_1, hfz14_2, hfz14_3, hfz14_4, hfz14_5, hfz14_6, hfz14_7, hfz14_8⟩ := zR BK461.out
    go_wp2_with (((with_reducible refine zc (f := 19) rfl ?_); refine zh (some 23) rfl rfl Tryd.func19 (by kernel_rfl) rfl #[.int .i64 ((za l0 a1).f0)] rfl hq ?_; (with_reducible refine (zv.calls ((za l0 a1).f0) false _ ?side1 A11.out).mono ?_); (case side1 => exact GW.below HG.out bsq); rintro e w' ⟨rfl, ⟨nd, rfl⟩⟩; refine ⟨_, rfl, ?_⟩))
    go_meet
    case rel => exact ⟨_, (false), eq0, H', ⟨by omega⟩, ⟨by exact Kd.ji _ _ _ _ _⟩, ⟨by (with_reducible repeat (refine qy ?_ _)); exact BK461.out⟩, ⟨bsq⟩⟩
  case rest =>
   clear HC6
   (try clear c3b0); (try clear c4b0); (try clear hcz10_0); (try clear hcz10_1); (try clear hcz10_2); (try clear hcz10_3); (try clear hcz10_4); (try clear hcz10_5); (try clear hcz10_6); (try clear hcz10_7); (try clear hcz10_8); (try clear hcz8_0); (try clear hcz8_1); (try clear hcz8_2); (try clear hcz8_3); (try clear hcz8_4); (try clear hcz8_5); (try clear hcz8_6); (try clear hcz8_7); (try clear hcz8_8); (try clear hfz10_0); (try clear hfz10_1); (try clear hfz10_2); (try clear hfz10_3); (try clear hfz10_4); (try clear hfz10_5); (try clear hfz10_6); (try clear hfz10_7); (try clear hfz10_8); (try clear hfz8_0); (try clear hfz8_1); (try clear hfz8_2); (try clear hfz8_3); (try clear hfz8_4); (try clear hfz8_5); (try clear hfz8_6); (try clear hfz8_7); (try clear hfz8_8); (try clear hx460_0); (try clear hx460_1); (try clear hx460_2); (try clear hx460_3); (try clear hx460_4); (try clear hx460_5); (try clear hx460_6); (try clear hx460_7); (try clear hx460_8); (try clear p460); (try clear q460)
   obtain ⟨kq, x32_5, rfl, HA, HJ5, HO_6, BK461, HB⟩ := hcut
   cases kq with
   | zero => exact absurd HA.out (by simp [zW.j0])
   | succ kj5 =>
    have H := HA.out
    clear HA
    simp only [zW.j0] at H
    have HC15 := zb.mk H
    clear H
    go_upto_if 32 with (fail)
    go_cut [6] (fun v6 wc => ∃ (kq : Nat) (x6_14 : List Int), zb (zW.j1 kq a1 x6_14 t464 ((za l0 a1).f0) ((za l0 a1).f1) ((za l0 a1).f2) ((za l0 a1).f3) ((za l0 a1).f4) ((za l0 a1).f5.f0) ((za l0 a1).f5.f1) ((za l0 a1).f5.f2) ((za l0 a1).f5.f3) = some r) ∧ zb (kq ≤ kj5) ∧ zb (Kd.R (Kd.int .i64) 3 wc w.heap.size (fun _ => True) v6 x6_14) ∧ zb (wc.heap[gb461]? = some (.cells #[.int .i64 ((za l0 a1).f0), .int .i64 ((za l0 a1).f1), .int .i64 ((za l0 a1).f2), .int .i64 ((za l0 a1).f3), .string ((za l0 a1).f4), .int .u64 ((za l0 a1).f5.f0), .int .u64 ((za l0 a1).f5.f1), .int .u64 ((za l0 a1).f5.f2), .int .u64 ((za l0 a1).f5.f3)] 34 (0, 0))) ∧ zb (Below w.heap.size w wc))
    case first =>
     have H := HC15.out
     clear HC15
     by_cases c16 : x32_5 = true
     ·subst c16
      replace H := ifT H
      replace H := qh H; obtain ⟨c17, H⟩ := H
      have LMc17 := zb.mk c17
      clear c17
      obtain ⟨y466, hy466⟩ : ∃ y_ : List Int, y_ = (([] : List Int) ++ [wrap64 (a1 + ((za l0 a1).f1))]) := ⟨_, rfl⟩
      replace H : (zW.j1 kj5 a1 y466 t464 ((za l0 a1).f0) ((za l0 a1).f1) ((za l0 a1).f2) ((za l0 a1).f3) ((za l0 a1).f4) ((za l0 a1).f5.f0) ((za l0 a1).f5.f1) ((za l0 a1).f5.f2) ((za l0 a1).f5.f3)) = some r := by (rw [hy466]; with_reducible exact H)
      have Ny466 := zb.mk hy466
      clear hy466
      have H' := zb.mk H
      clear H
      obtain ⟨hcz18_0, hcz18_1, hcz18_2, hcz18_3, hcz18_4, hcz18_5, hcz18_6, hcz18_7, hcz18_8⟩ := zS BK461.out
      obtain ⟨hfz18_0, hfz18_1, hfz18_2, hfz18_3, hfz18_4, hfz18_5, hfz18_6, hfz18_7, hfz18_8⟩ := zR BK461.out
      go_wp2_with (((with_reducible refine qu (b := .append) (xs := #[.tmp 33, .tmp 38]) rfl ?_); at_builtin; refine Kd.xE (Kd.int .i64) (w0 := w) w.heap.size rfl (.tmp 33) (.tmp 38) 45 3 (.int .i64 0) 8 rfl Tryd.underlying45 info3 rfl (by decide) (by omega) (.slice none 0 0) ([] : List Int) (wrap64 (a1 + ((za l0 a1).f1))) [.int .i64 (wrap64 (a1 + ((za l0 a1).f1)))] (fun _ => True) (fun _ => False) rfl rfl ?aP (fun _ hk => hk.elim) ?aF ?aO ?aB ?aS ?aL ?_; (case aP => exact rfl); (case aB => exact bsq); (case aF => exact (fun _ _ => trivial)); (case aO => exact (Kd.rx HO_6.out)); (case aS => exact (zj bsq)); (case aL => have := LMc17.out; omega); intro v467 w19 ho hb hg hat; rw [← Ny466.out] at ho; replace BK461 := zb.mk (xc (g := gb461) (o := .cells #[.int .i64 ((za l0 a1).f0), .int .i64 ((za l0 a1).f1), .int .i64 ((za l0 a1).f2), .int .i64 ((za l0 a1).f3), .string ((za l0 a1).f4), .int .u64 ((za l0 a1).f5.f0), .int .u64 ((za l0 a1).f5.f1), .int .u64 ((za l0 a1).f5.f2), .int .u64 ((za l0 a1).f5.f3)] 34 (0, 0)) (bx BK461.out) hg (Kd.R_ne HO_6.out BK461.out (by decide))); replace HB := zb.mk (hb); have HO468 := zb.mk (ho); clear HO_6; clear ho hb hg hat))
      go_meet
      case rel => exact ⟨_, (y466), H', ⟨by have := HJ5.out; omega⟩, ⟨Kd.rx HO468.out⟩, ⟨by (with_reducible skip); exact BK461.out⟩, ⟨bsq⟩⟩
     ·replace c16 := Bool.eq_false_iff.mpr c16
      subst c16
      replace H := ifF H
      have H' := zb.mk H
      clear H
      go_wp2
      go_meet
      case rel => exact ⟨_, (([] : List Int)), H', ⟨by have := HJ5.out; omega⟩, ⟨Kd.rx HO_6.out⟩, ⟨by (with_reducible skip); exact BK461.out⟩, ⟨bsq⟩⟩
    case rest =>
     clear HC15
     obtain ⟨kq, x6_14, HA, HJ14, HO_6, BK461, HB⟩ := hcut
     cases kq with
     | zero => exact absurd HA.out (by simp [zW.j1])
     | succ kj14 =>
      have H := HA.out
      clear HA
      simp only [zW.j1] at H
      by_cases c20 : t464 = true
      ·subst c20
       replace H := ifT H
       replace H := qh H; obtain ⟨c21, H⟩ := H
       have LMc21 := zb.mk c21
       clear c21
       obtain ⟨y469, Ny469, H⟩ := bindY H; try dsimp only at H
       replace H := zO H; obtain ⟨t472, A22, H⟩ := H
       by_cases c23 : t472 = true
       ·subst c23
        replace H := ifT H
        by_cases c24 : (wrap64 (a1 + ((za l0 a1).f1))) > (wrap64 (a1 + 1))
        ·rw [if_pos c24] at H
         have c24b0 := decide_eq_true c24
         clear c24
         replace H := qh H; obtain ⟨c25, H⟩ := H
         have LMc25 := zb.mk c25
         clear c25
         obtain ⟨y473, hy473⟩ : ∃ y_ : List Int, y_ = (y469 ++ [wrap64 (a1 + ((za l0 a1).f1))]) := ⟨_, rfl⟩
         replace H : (some y473) = some r := by (rw [hy473]; with_reducible exact H)
         have Ny473 := zb.mk hy473
         clear hy473
         obtain rfl := Option.some.inj H
         go_wp2_with (first | ((with_reducible refine qu (b := .append) (xs := #[.tmp 41, .tmp 44]) rfl ?_); at_builtin; refine Kd.xE (Kd.int .i64) (w0 := w) w.heap.size rfl (.tmp 41) (.tmp 44) 45 3 (.int .i64 0) 8 rfl Tryd.underlying45 info3 rfl (by decide) (by omega) u6 x6_14 (wrap64 (a1 + 1)) [.int .i64 (wrap64 (a1 + 1))] (fun _ => True) (fun _ => False) rfl rfl ?aP (fun _ hk => hk.elim) ?aF ?aO ?aB ?aS ?aL ?_; (case aP => exact rfl); (case aB => exact bsq); (case aF => exact (fun _ _ => trivial)); (case aO => exact (Kd.rx HO_6.out)); (case aS => exact (zj bsq)); (case aL => have := LMc21.out; omega); intro v470 w26 ho hb hg hat; rw [← Ny469.out] at ho; replace BK461 := zb.mk (xc (g := gb461) (o := .cells #[.int .i64 ((za l0 a1).f0), .int .i64 ((za l0 a1).f1), .int .i64 ((za l0 a1).f2), .int .i64 ((za l0 a1).f3), .string ((za l0 a1).f4), .int .u64 ((za l0 a1).f5.f0), .int .u64 ((za l0 a1).f5.f1), .int .u64 ((za l0 a1).f5.f2), .int .u64 ((za l0 a1).f5.f3)] 34 (0, 0)) (bx BK461.out) hg (Kd.R_ne HO_6.out BK461.out (by decide))); replace HB := zb.mk (hb); have HO471 := zb.mk (ho); clear HO_6; clear ho hb hg hat; obtain ⟨hcz27_0, hcz27_1, hcz27_2, hcz27_3, hcz27_4, hcz27_5, hcz27_6, hcz27_7, hcz27_8⟩ := zS BK461.out; obtain ⟨hfz27_0, hfz27_1, hfz27_2, hfz27_3, hfz27_4, hfz27_5, hfz27_6, hfz27_7, hfz27_8⟩ := zR BK461.out) | ((with_reducible refine zc (f := 19) rfl ?_); refine zh (some 48) rfl rfl Tryd.func19 (by kernel_rfl) rfl #[.int .i64 ((za l0 a1).f0)] rfl hq ?_; (with_reducible refine (zv.calls ((za l0 a1).f0) true _ ?side1 A22.out).mono ?_); (case side1 => exact GW.below HG.out bsq); rintro e w' ⟨rfl, ⟨nd, rfl⟩⟩; refine ⟨_, rfl, ?_⟩) | ((with_reducible refine qu (b := .append) (xs := #[.tmp 71, .tmp 76]) rfl ?_); at_builtin; refine Kd.xE (Kd.int .i64) (w0 := w) w.heap.size rfl (.tmp 71) (.tmp 76) 45 3 (.int .i64 0) 8 rfl Tryd.underlying45 info3 rfl (by decide) (by omega) v470 y469 (wrap64 (a1 + ((za l0 a1).f1))) [.int .i64 (wrap64 (a1 + ((za l0 a1).f1)))] (fun _ => True) (fun _ => False) rfl rfl ?aP (fun _ hk => hk.elim) ?aF ?aO ?aB ?aS ?aL ?_; (case aP => exact rfl); (case aB => exact bsq); (case aF => exact (fun _ _ => trivial)); (case aO => exact (Kd.rx HO471.out)); (case aS => exact (zj bsq)); (case aL => have := LMc25.out; omega); intro v474 w28 ho hb hg hat; rw [← Ny473.out] at ho; replace BK461 := zb.mk (xc (g := gb461) (o := .cells #[.int .i64 ((za l0 a1).f0), .int .i64 ((za l0 a1).f1), .int .i64 ((za l0 a1).f2), .int .i64 ((za l0 a1).f3), .string ((za l0 a1).f4), .int .u64 ((za l0 a1).f5.f0), .int .u64 ((za l0 a1).f5.f1), .int .u64 ((za l0 a1).f5.f2), .int .u64 ((za l0 a1).f5.f3)] 34 (0, 0)) (bx BK461.out) hg (Kd.R_ne HO471.out BK461.out (by decide))); replace HB := zb.mk (hb); have HO475 := zb.mk (ho); clear HO471; clear ho hb hg hat))
         go_ret
         exact ⟨_, eq1, Kd.rx HO475.out, bsq⟩
        ·rw [if_neg c24] at H
         have c24b0 := decide_eq_false c24
         clear c24
         by_cases c29 : (wrap64 (a1 + ((za l0 a1).f1))) = (wrap64 (a1 + 1))
         ·rw [if_pos c29] at H
          have c29b0 := beq_iff_eq.mpr c29
          have c29b1 := bne_eq_false_iff_eq.mpr c29
          clear c29
          obtain rfl := Option.some.inj H
          go_wp2_with (first | ((with_reducible refine qu (b := .append) (xs := #[.tmp 41, .tmp 44]) rfl ?_); at_builtin; refine Kd.xE (Kd.int .i64) (w0 := w) w.heap.size rfl (.tmp 41) (.tmp 44) 45 3 (.int .i64 0) 8 rfl Tryd.underlying45 info3 rfl (by decide) (by omega) u6 x6_14 (wrap64 (a1 + 1)) [.int .i64 (wrap64 (a1 + 1))] (fun _ => True) (fun _ => False) rfl rfl ?aP (fun _ hk => hk.elim) ?aF ?aO ?aB ?aS ?aL ?_; (case aP => exact rfl); (case aB => exact bsq); (case aF => exact (fun _ _ => trivial)); (case aO => exact (Kd.rx HO_6.out)); (case aS => exact (zj bsq)); (case aL => have := LMc21.out; omega); intro v470 w30 ho hb hg hat; rw [← Ny469.out] at ho; replace BK461 := zb.mk (xc (g := gb461) (o := .cells #[.int .i64 ((za l0 a1).f0), .int .i64 ((za l0 a1).f1), .int .i64 ((za l0 a1).f2), .int .i64 ((za l0 a1).f3), .string ((za l0 a1).f4), .int .u64 ((za l0 a1).f5.f0), .int .u64 ((za l0 a1).f5.f1), .int .u64 ((za l0 a1).f5.f2), .int .u64 ((za l0 a1).f5.f3)] 34 (0, 0)) (bx BK461.out) hg (Kd.R_ne HO_6.out BK461.out (by decide))); replace HB := zb.mk (hb); have HO471 := zb.mk (ho); clear HO_6; clear ho hb hg hat; obtain ⟨hcz31_0, hcz31_1, hcz31_2, hcz31_3, hcz31_4, hcz31_5, hcz31_6, hcz31_7, hcz31_8⟩ := zS BK461.out; obtain ⟨hfz31_0, hfz31_1, hfz31_2, hfz31_3, hfz31_4, hfz31_5, hfz31_6, hfz31_7, hfz31_8⟩ := zR BK461.out) | ((with_reducible refine zc (f := 19) rfl ?_); refine zh (some 48) rfl rfl Tryd.func19 (by kernel_rfl) rfl #[.int .i64 ((za l0 a1).f0)] rfl hq ?_; (with_reducible refine (zv.calls ((za l0 a1).f0) true _ ?side1 A22.out).mono ?_); (case side1 => exact GW.below HG.out bsq); rintro e w' ⟨rfl, ⟨nd, rfl⟩⟩; refine ⟨_, rfl, ?_⟩))
          go_ret
          exact ⟨_, eq1, Kd.rx HO471.out, bsq⟩
         ·rw [if_neg c29] at H
          have c29b0 := beq_eq_false_iff_ne.mpr c29
          have c29b1 := bne_iff_ne.mpr c29
          obtain rfl := Option.some.inj H
          go_wp2_with (first | ((with_reducible refine qu (b := .append) (xs := #[.tmp 41, .tmp 44]) rfl ?_); at_builtin; refine Kd.xE (Kd.int .i64) (w0 := w) w.heap.size rfl (.tmp 41) (.tmp 44) 45 3 (.int .i64 0) 8 rfl Tryd.underlying45 info3 rfl (by decide) (by omega) u6 x6_14 (wrap64 (a1 + 1)) [.int .i64 (wrap64 (a1 + 1))] (fun _ => True) (fun _ => False) rfl rfl ?aP (fun _ hk => hk.elim) ?aF ?aO ?aB ?aS ?aL ?_; (case aP => exact rfl); (case aB => exact bsq); (case aF => exact (fun _ _ => trivial)); (case aO => exact (Kd.rx HO_6.out)); (case aS => exact (zj bsq)); (case aL => have := LMc21.out; omega); intro v470 w32 ho hb hg hat; rw [← Ny469.out] at ho; replace BK461 := zb.mk (xc (g := gb461) (o := .cells #[.int .i64 ((za l0 a1).f0), .int .i64 ((za l0 a1).f1), .int .i64 ((za l0 a1).f2), .int .i64 ((za l0 a1).f3), .string ((za l0 a1).f4), .int .u64 ((za l0 a1).f5.f0), .int .u64 ((za l0 a1).f5.f1), .int .u64 ((za l0 a1).f5.f2), .int .u64 ((za l0 a1).f5.f3)] 34 (0, 0)) (bx BK461.out) hg (Kd.R_ne HO_6.out BK461.out (by decide))); replace HB := zb.mk (hb); have HO471 := zb.mk (ho); clear HO_6; clear ho hb hg hat; obtain ⟨hcz33_0, hcz33_1, hcz33_2, hcz33_3, hcz33_4, hcz33_5, hcz33_6, hcz33_7, hcz33_8⟩ := zS BK461.out; obtain ⟨hfz33_0, hfz33_1, hfz33_2, hfz33_3, hfz33_4, hfz33_5, hfz33_6, hfz33_7, hfz33_8⟩ := zR BK461.out) | ((with_reducible refine zc (f := 19) rfl ?_); refine zh (some 48) rfl rfl Tryd.func19 (by kernel_rfl) rfl #[.int .i64 ((za l0 a1).f0)] rfl hq ?_; (with_reducible refine (zv.calls ((za l0 a1).f0) true _ ?side1 A22.out).mono ?_); (case side1 => exact GW.below HG.out bsq); rintro e w' ⟨rfl, ⟨nd, rfl⟩⟩; refine ⟨_, rfl, ?_⟩))
          go_ret
          exact ⟨_, eq1, Kd.rx HO471.out, bsq⟩
       ·replace c23 := Bool.eq_false_iff.mpr c23
        subst c23
        replace H := ifF H
        obtain rfl := Option.some.inj H
        go_wp2_with (first | ((with_reducible refine qu (b := .append) (xs := #[.tmp 41, .tmp 44]) rfl ?_); at_builtin; refine Kd.xE (Kd.int .i64) (w0 := w) w.heap.size rfl (.tmp 41) (.tmp 44) 45 3 (.int .i64 0) 8 rfl Tryd.underlying45 info3 rfl (by decide) (by omega) u6 x6_14 (wrap64 (a1 + 1)) [.int .i64 (wrap64 (a1 + 1))] (fun _ => True) (fun _ => False) rfl rfl ?aP (fun _ hk => hk.elim) ?aF ?aO ?aB ?aS ?aL ?_; (case aP => exact rfl); (case aB => exact bsq); (case aF => exact (fun _ _ => trivial)); (case aO => exact (Kd.rx HO_6.out)); (case aS => exact (zj bsq)); (case aL => have := LMc21.out; omega); intro v470 w34 ho hb hg hat; rw [← Ny469.out] at ho; replace BK461 := zb.mk (xc (g := gb461) (o := .cells #[.int .i64 ((za l0 a1).f0), .int .i64 ((za l0 a1).f1), .int .i64 ((za l0 a1).f2), .int .i64 ((za l0 a1).f3), .string ((za l0 a1).f4), .int .u64 ((za l0 a1).f5.f0), .int .u64 ((za l0 a1).f5.f1), .int .u64 ((za l0 a1).f5.f2), .int .u64 ((za l0 a1).f5.f3)] 34 (0, 0)) (bx BK461.out) hg (Kd.R_ne HO_6.out BK461.out (by decide))); replace HB := zb.mk (hb); have HO471 := zb.mk (ho); clear HO_6; clear ho hb hg hat; obtain ⟨hcz35_0, hcz35_1, hcz35_2, hcz35_3, hcz35_4, hcz35_5, hcz35_6, hcz35_7, hcz35_8⟩ := zS BK461.out; obtain ⟨hfz35_0, hfz35_1, hfz35_2, hfz35_3, hfz35_4, hfz35_5, hfz35_6, hfz35_7, hfz35_8⟩ := zR BK461.out) | ((with_reducible refine zc (f := 19) rfl ?_); refine zh (some 48) rfl rfl Tryd.func19 (by kernel_rfl) rfl #[.int .i64 ((za l0 a1).f0)] rfl hq ?_; (with_reducible refine (zv.calls ((za l0 a1).f0) false _ ?side1 A22.out).mono ?_); (case side1 => exact GW.below HG.out bsq); rintro e w' ⟨rfl, ⟨nd, rfl⟩⟩; refine ⟨_, rfl, ?_⟩))
        go_ret
        exact ⟨_, eq1, Kd.rx HO471.out, bsq⟩
      ·replace c20 := Bool.eq_false_iff.mpr c20
       subst c20
       replace H := ifF H
       replace H := zO H; obtain ⟨t476, A36, H⟩ := H
       by_cases c37 : t476 = true
       ·subst c37
        replace H := ifT H
        by_cases c38 : (wrap64 (a1 + ((za l0 a1).f1))) > (wrap64 (a1 + 1))
        ·rw [if_pos c38] at H
         have c38b0 := decide_eq_true c38
         clear c38
         replace H := qh H; obtain ⟨c39, H⟩ := H
         have LMc39 := zb.mk c39
         clear c39
         obtain ⟨y477, hy477⟩ : ∃ y_ : List Int, y_ = (x6_14 ++ [wrap64 (a1 + ((za l0 a1).f1))]) := ⟨_, rfl⟩
         replace H : (some y477) = some r := by (rw [hy477]; with_reducible exact H)
         have Ny477 := zb.mk hy477
         clear hy477
         obtain rfl := Option.some.inj H
         obtain ⟨hcz40_0, hcz40_1, hcz40_2, hcz40_3, hcz40_4, hcz40_5, hcz40_6, hcz40_7, hcz40_8⟩ := zS BK461.out
         obtain ⟨hfz40_0, hfz40_1, hfz40_2, hfz40_3, hfz40_4, hfz40_5, hfz40_6, hfz40_7, hfz40_8⟩ := zR BK461.out
         go_wp2_with (first | ((with_reducible refine zc (f := 19) rfl ?_); refine zh (some 48) rfl rfl Tryd.func19 (by kernel_rfl) rfl #[.int .i64 ((za l0 a1).f0)] rfl hq ?_; (with_reducible refine (zv.calls ((za l0 a1).f0) true _ ?side1 A36.out).mono ?_); (case side1 => exact GW.below HG.out bsq); rintro e w' ⟨rfl, ⟨nd, rfl⟩⟩; refine ⟨_, rfl, ?_⟩) | ((with_reducible refine qu (b := .append) (xs := #[.tmp 71, .tmp 76]) rfl ?_); at_builtin; refine Kd.xE (Kd.int .i64) (w0 := w) w.heap.size rfl (.tmp 71) (.tmp 76) 45 3 (.int .i64 0) 8 rfl Tryd.underlying45 info3 rfl (by decide) (by omega) u6 x6_14 (wrap64 (a1 + ((za l0 a1).f1))) [.int .i64 (wrap64 (a1 + ((za l0 a1).f1)))] (fun _ => True) (fun _ => False) rfl rfl ?aP (fun _ hk => hk.elim) ?aF ?aO ?aB ?aS ?aL ?_; (case aP => exact rfl); (case aB => exact bsq); (case aF => exact (fun _ _ => trivial)); (case aO => exact (Kd.rx HO_6.out)); (case aS => exact (zj bsq)); (case aL => have := LMc39.out; omega); intro v478 w41 ho hb hg hat; rw [← Ny477.out] at ho; replace BK461 := zb.mk (xc (g := gb461) (o := .cells #[.int .i64 ((za l0 a1).f0), .int .i64 ((za l0 a1).f1), .int .i64 ((za l0 a1).f2), .int .i64 ((za l0 a1).f3), .string ((za l0 a1).f4), .int .u64 ((za l0 a1).f5.f0), .int .u64 ((za l0 a1).f5.f1), .int .u64 ((za l0 a1).f5.f2), .int .u64 ((za l0 a1).f5.f3)] 34 (0, 0)) (bx BK461.out) hg (Kd.R_ne HO_6.out BK461.out (by decide))); replace HB := zb.mk (hb); have HO479 := zb.mk (ho); clear HO_6; clear ho hb hg hat))
         go_ret
         exact ⟨_, eq1, Kd.rx HO479.out, bsq⟩
        ·rw [if_neg c38] at H
         have c38b0 := decide_eq_false c38
         clear c38
         by_cases c42 : (wrap64 (a1 + ((za l0 a1).f1))) = (wrap64 (a1 + 1))
         ·rw [if_pos c42] at H
          have c42b0 := beq_iff_eq.mpr c42
          have c42b1 := bne_eq_false_iff_eq.mpr c42
          clear c42
          replace H := qh H; obtain ⟨c43, H⟩ := H
          have LMc43 := zb.mk c43
          clear c43
          obtain ⟨y480, hy480⟩ : ∃ y_ : List Int, y_ = (x6_14 ++ [wrap64 (a1 + ((za l0 a1).f1))]) := ⟨_, rfl⟩
          replace H : (some y480) = some r := by (rw [hy480]; with_reducible exact H)
          have Ny480 := zb.mk hy480
          clear hy480
          obtain rfl := Option.some.inj H
          obtain ⟨hcz44_0, hcz44_1, hcz44_2, hcz44_3, hcz44_4, hcz44_5, hcz44_6, hcz44_7, hcz44_8⟩ := zS BK461.out
          obtain ⟨hfz44_0, hfz44_1, hfz44_2, hfz44_3, hfz44_4, hfz44_5, hfz44_6, hfz44_7, hfz44_8⟩ := zR BK461.out
          go_wp2_with (first | ((with_reducible refine zc (f := 19) rfl ?_); refine zh (some 48) rfl rfl Tryd.func19 (by kernel_rfl) rfl #[.int .i64 ((za l0 a1).f0)] rfl hq ?_; (with_reducible refine (zv.calls ((za l0 a1).f0) true _ ?side1 A36.out).mono ?_); (case side1 => exact GW.below HG.out bsq); rintro e w' ⟨rfl, ⟨nd, rfl⟩⟩; refine ⟨_, rfl, ?_⟩) | ((with_reducible refine qu (b := .append) (xs := #[.tmp 71, .tmp 76]) rfl ?_); at_builtin; refine Kd.xE (Kd.int .i64) (w0 := w) w.heap.size rfl (.tmp 71) (.tmp 76) 45 3 (.int .i64 0) 8 rfl Tryd.underlying45 info3 rfl (by decide) (by omega) u6 x6_14 (wrap64 (a1 + ((za l0 a1).f1))) [.int .i64 (wrap64 (a1 + ((za l0 a1).f1)))] (fun _ => True) (fun _ => False) rfl rfl ?aP (fun _ hk => hk.elim) ?aF ?aO ?aB ?aS ?aL ?_; (case aP => exact rfl); (case aB => exact bsq); (case aF => exact (fun _ _ => trivial)); (case aO => exact (Kd.rx HO_6.out)); (case aS => exact (zj bsq)); (case aL => have := LMc43.out; omega); intro v481 w45 ho hb hg hat; rw [← Ny480.out] at ho; replace BK461 := zb.mk (xc (g := gb461) (o := .cells #[.int .i64 ((za l0 a1).f0), .int .i64 ((za l0 a1).f1), .int .i64 ((za l0 a1).f2), .int .i64 ((za l0 a1).f3), .string ((za l0 a1).f4), .int .u64 ((za l0 a1).f5.f0), .int .u64 ((za l0 a1).f5.f1), .int .u64 ((za l0 a1).f5.f2), .int .u64 ((za l0 a1).f5.f3)] 34 (0, 0)) (bx BK461.out) hg (Kd.R_ne HO_6.out BK461.out (by decide))); replace HB := zb.mk (hb); have HO482 := zb.mk (ho); clear HO_6; clear ho hb hg hat))
          go_ret
          exact ⟨_, eq1, Kd.rx HO482.out, bsq⟩
         ·rw [if_neg c42] at H
          have c42b0 := beq_eq_false_iff_ne.mpr c42
          have c42b1 := bne_iff_ne.mpr c42
          obtain rfl := Option.some.inj H
          obtain ⟨hcz46_0, hcz46_1, hcz46_2, hcz46_3, hcz46_4, hcz46_5, hcz46_6, hcz46_7, hcz46_8⟩ := zS BK461.out
          obtain ⟨hfz46_0, hfz46_1, hfz46_2, hfz46_3, hfz46_4, hfz46_5, hfz46_6, hfz46_7, hfz46_8⟩ := zR BK461.out
          go_wp2_with (((with_reducible refine zc (f := 19) rfl ?_); refine zh (some 48) rfl rfl Tryd.func19 (by kernel_rfl) rfl #[.int .i64 ((za l0 a1).f0)] rfl hq ?_; (with_reducible refine (zv.calls ((za l0 a1).f0) true _ ?side1 A36.out).mono ?_); (case side1 => exact GW.below HG.out bsq); rintro e w' ⟨rfl, ⟨nd, rfl⟩⟩; refine ⟨_, rfl, ?_⟩))
          go_ret
          exact ⟨_, eq1, Kd.rx HO_6.out, bsq⟩
       ·replace c37 := Bool.eq_false_iff.mpr c37
        subst c37
        replace H := ifF H
        obtain rfl := Option.some.inj H
        obtain ⟨hcz47_0, hcz47_1, hcz47_2, hcz47_3, hcz47_4, hcz47_5, hcz47_6, hcz47_7, hcz47_8⟩ := zS BK461.out
        obtain ⟨hfz47_0, hfz47_1, hfz47_2, hfz47_3, hfz47_4, hfz47_5, hfz47_6, hfz47_7, hfz47_8⟩ := zR BK461.out
        go_wp2_with (((with_reducible refine zc (f := 19) rfl ?_); refine zh (some 48) rfl rfl Tryd.func19 (by kernel_rfl) rfl #[.int .i64 ((za l0 a1).f0)] rfl hq ?_; (with_reducible refine (zv.calls ((za l0 a1).f0) false _ ?side1 A36.out).mono ?_); (case side1 => exact GW.below HG.out bsq); rintro e w' ⟨rfl, ⟨nd, rfl⟩⟩; refine ⟨_, rfl, ?_⟩))
        go_ret
        exact ⟨_, eq1, Kd.rx HO_6.out, bsq⟩
 ·rw [if_neg c3] at H
  exact absurd H (by simp)
mutual
def zE.l0 : Nat → List (S34) → List Bool → List Int → Option (List Bool × Int)
 | 0, _, _, _ => none
 | k + 1, x0, x6, x7 => if (x7.length : Int) > 0 then (if 0 < (x7.length : Int) then ((zW.f k x0 (rd x7 0)).bind fun t493 => (if 1 ≤ (x7.length : Int) then (zE.l1 k x0 x6 (x7.drop (1 : Int).toNat) t493 0) else (none))) else (none)) else (some (x6, 0))
def zE.l1 : Nat → List (S34) → List Bool → List Int → List Int → Int → Option (List Bool × Int)
 | 0, _, _, _, _, _ => none
 | k + 1, x0, x6, x7, x8, x9 => if x9 < (x8.length : Int) then (if 0 ≤ x9 then (if 0 ≤ (rd x8 x9) then (if (rd x8 x9) < (x6.length : Int) then (if (rdOf false x6 (rd x8 x9) = true) then (zE.l1 k x0 x6 x7 x8 (wrap64 (x9 + 1))) else (if x7.length < 17592186044416 then (zE.l1 k x0 (x6.set ((rd x8 x9) : Int).toNat true) (x7 ++ [rd x8 x9]) x8 (wrap64 (x9 + 1))) else (none))) else (none)) else (none)) else (none)) else (zE.l0 k x0 x6 x7)
end
def zE.f (k : Nat) (l0 : List (S34)) : Option (List Bool × Int) := (zo.f k l0).bind fun bt483 => (if bt483.2 = 0 then (if 0 ≤ (l0.length : Int) then (if ((l0.length : Int) : Int).toNat ≤ 281474976710656 then ((some (List.replicate ((l0.length : Int) : Int).toNat false : List Bool)).bind fun y485 => (if 0 < (y485.length : Int) then (zE.l0 k l0 (y485.set (0 : Int).toNat true) (([0] : List Int))) else (none))) else (none)) else (none)) else (some (([] : List Bool), bt483.2)))
theorem zE.calls (k : Nat) (A0 : Option Addr) (c0 : Nat) (l0 : List (S34)) (r1 : List Bool) (r2 : Int) (w : World) (hG : GW w) (hr0 : Kd.C k34 w A0 l0.length l0) (hc0 : l0.length ≤ c0) (h : zE.f k l0 = some (r1, r2)) :
  Calls Tryd.prog 55 #[.slice A0 l0.length c0] w fun e w' => ∃ v0_ : Value, e = .returned (.tuple #[v0_, .int .i64 r2]) ∧ Kd.R Kd.bool 4 w' w.heap.size (fun _ => True) v0_ r1 ∧ Below w.heap.size w w' := by
 have HR0 := zb.mk hr0
 have HC0 := zb.mk hc0
 clear hr0 hc0
 have HG := zb.mk hG
 clear hG
 have HB := zb.mk (Below.refl w.heap.size w)
 have H : ((zo.f k l0).bind fun bt483 => (if bt483.2 = 0 then (if 0 ≤ (l0.length : Int) then (if ((l0.length : Int) : Int).toNat ≤ 281474976710656 then ((some (List.replicate ((l0.length : Int) : Int).toNat false : List Bool)).bind fun y485 => (if 0 < (y485.length : Int) then (zE.l0 k l0 (y485.set (0 : Int).toNat true) (([0] : List Int))) else (none))) else (none)) else (none)) else (some (([] : List Bool), bt483.2)))) = some (r1, r2) := h
 clear h
 replace H := zO H; obtain ⟨⟨t483, t484⟩, A2, H⟩ := H; try dsimp only at H
 by_cases c3 : t484 = 0
 ·rw [if_pos c3] at H
  have c3b0 := beq_iff_eq.mpr c3
  have c3b1 := bne_eq_false_iff_eq.mpr c3
  clear c3
  replace H := qh H; obtain ⟨c4, H⟩ := H
  have c4b0 := eq_true c4
  have c4b1 := decide_eq_true c4
  clear c4
  replace H := qh H; obtain ⟨c5, H⟩ := H
  have c5b0 := eq_true c5
  have c5b1 := decide_eq_true c5
  clear c5
  obtain ⟨y485, Ny485, H⟩ := bindY H; try dsimp only at H
  replace H := qh H; obtain ⟨c6, H⟩ := H
  have c6b0 := decide_eq_true c6
  have c6b1 : decide (0 < y485.length) = true := decide_eq_true (by omega)
  clear c6
  obtain ⟨y488, hy488⟩ : ∃ y_ : List Bool, y_ = (y485.set (0 : Int).toNat true) := ⟨_, rfl⟩
  replace H : (zE.l0 k l0 y488 (([0] : List Int))) = some (r1, r2) := by (rw [hy488]; with_reducible exact H)
  have Ny488 := zb.mk hy488
  clear hy488
  obtain ⟨y489, hy489⟩ : ∃ y_ : List Int, y_ = (([0] : List Int)) := ⟨_, rfl⟩
  replace H : (zE.l0 k l0 y488 y489) = some (r1, r2) := by (rw [hy489]; with_reducible exact H)
  have Ny489 := zb.mk hy489
  clear hy489
  have H' := zb.mk H
  clear H
  go_enter Tryd.func55, Tryd.ntmps55
  go_wp2_with (first | ((with_reducible refine zc (f := 18) rfl ?_); refine zh (some 12) rfl rfl Tryd.func18 (by kernel_rfl) rfl #[.slice A0 l0.length c0] rfl hq ?_; (with_reducible refine (zo.calls k _ _ l0 t483 t484 _ ?side3 ?side1 ?side2 A2.out).mono ?_); (case side1 => exact Kd.cx HR0.out); (case side2 => exact HC0.out); (case side3 => exact gb HG HB); rintro e w8 ⟨rfl, hb⟩; refine ⟨_, rfl, ?_⟩; replace HB := bst HB hb; (try clear hb)) | ((with_reducible refine z3 (N := 20) rfl ?_); refine Kd.R_make Kd.bool _ 4 rfl (N := 20) rfl 27 _ _ rfl (l0.length : Int) rfl rfl Tryd.underlying27 (.bool false) 1 info4 rfl (by decide) (by omega) false (ok := fun _ => True) (okp := fun _ => True) rfl (fun _ hk => hk) trivial (dq) (Nat.le_trans (Nat.mul_le_mul_right _ (dq : (l0.length : Int).toNat ≤ 281474976710656)) (by omega)) (Below.refl _ _) (Nat.le_refl _) ?_; intro v486 w9 ho10 hb hg_ hnew_; clear hg_ hnew_; (rw [← Ny485.out] at ho10); have HO487 := zb.mk (Kd.rlo ho10 HB); replace HB := bst HB hb; clear hb ho10; have p7 : 0 ≤ (0 : Int) := (by omega); have q7 : (0 : Int) < ((y485.length : Int) : Int) := dq; have qi7 : (0 < y485.length) = True := eq_true (by omega); obtain ⟨go7, co7, eo7, gb7, gl7, cl7, HG7⟩ := Kd.xR HO487.out (by omega); (cases eo7); have GB7 := zb.mk gb7; have GG7 := zb.mk HG7; clear gb7 gl7 HG7; obtain ⟨hx7_0, hf7_0⟩ := Kd.xG false HO487.out (0 : Int) p7 q7; (try rw [show ((0 : Int)).toNat = 0 from rfl] at hx7_0); (try rw [show ((0 : Int)).toNat = 0 from rfl] at hf7_0); replace p7 := eq_true p7; replace q7 := eq_true q7; obtain ⟨hy11_, hz11_⟩ := Kd.xG false HO487.out (0 : Int) (by omega) (dq); (try rw [show ((0 : Int)).toNat = 0 from rfl] at hy11_); (try rw [show ((0 : Int)).toNat = 0 from rfl] at hz11_); have HP11 := Kd.jL HO487.out (0 : Int) true) | ((with_reducible refine zM (t := 4) (p := 22) rfl ?_); refine zB (t := 4) (p := 22) (v := ?vo_w12) (w1 := (w9.setCell ⟨go7, (0 : Int).toNat, none⟩ (.bool true))) ?hg ?ho ?hn ?hr ?_; (case ho => rfl); (case hg => rfl); (case hn => rfl); (case hr => (go_simp; done)); intro w12 hw; have hg : w9.grownBy w12 (some go7) := (by rw [hw]; exact HP11.2); have hp_ : Kd.R Kd.bool 4 w12 w.heap.size (fun _ => True) (.slice (some ⟨go7, 0, none⟩) y485.length co7) y488 := (by rw [hw, Ny488.out]; exact HP11.1); clear HP11; replace HO487 := zb.mk (hp_); replace HB := zb.mk ((by rw [hw]; exact zz (HB.out) GB7.out : Below w.heap.size w w12)); clear hg hw hp_) | ((with_reducible refine z3 (N := 23) rfl ?_); refine Kd.R_lit (Kd.int .i64) _ 3 ?hg (N := 23) ?hd (xs := ([0] : List Int)) (inner := [.int .i64 0]) (ok := fun _ => True) (okp := fun _ => True) ?hr ?hp (fun _ hk => hk) trivial (Below.refl _ _) (Nat.le_refl _) (by simp) ?_; (case hd => rfl); (case hg => rfl); (case hr => (go_simp; done)); (case hp => exact (qU.one (show Kd.M (Kd.int .i64) _ _ _ 0 [.int .i64 0] from rfl) (qU.none _ _))); intro v490 w13 ho14 hb hg_ hnew_; clear hg_ hnew_; (rw [← Ny489.out] at ho14); replace HO487 := Kd.rbl HO487 hb; have HO491 := zb.mk (Kd.rlo ho14 HB); replace HB := bst HB hb; clear hb ho14))
  go_loopg [7] k (fun kq v7 w' => ∃ (x6_1 : List Bool) (x7_1 : List Int), zb (zE.l0 kq l0 x6_1 x7_1 = some (r1, r2)) ∧ zb (kq ≤ k) ∧ zb (Kd.R Kd.bool 4 w' w.heap.size (fun _ => True) (.slice (some ⟨go7, 0, none⟩) y485.length co7) x6_1) ∧ zb (Kd.Q (Kd.int .i64) 3 w' w.heap.size (fun _ => True) v7 x7_1) ∧ zb (Below w.heap.size w w'))
  case atStart => exact ⟨(y488), (y489), H', ⟨Nat.le_refl _⟩, ⟨Kd.rx HO487.out⟩, ⟨Kd.Q_of_R (Kd.rx HO491.out)⟩, ⟨bl HB.out⟩⟩
  case round =>
   clear H'
   (try clear c3b0); (try clear c3b1); (try clear c4b0); (try clear c4b1); (try clear c5b0); (try clear c5b1); (try clear c6b0); (try clear c6b1); (try clear p7); (try clear q7); (try clear qi7); (try clear hx7_0)
   obtain ⟨x6_1, x7_1, HA, HK1, HO_6, HO_7, HB⟩ := hrel
   have hl6_1 := (Kd.zf HO_6.out).1
   rw [hl6_1] at HO_6
   (try simp only [hl6_1])
   cases gk with
   | zero => exact absurd HA.out (by simp [zE.l0])
   | succ k1 =>
    have H := HA.out
    clear HA
    simp only [zE.l0] at H
    by_cases c15 : (x7_1.length : Int) > 0
    ·rw [if_pos c15] at H
     have c15b0 := decide_eq_true c15
     have c15b1 : decide (0 < x7_1.length) = true := decide_eq_true (by omega)
     clear c15
     replace H := qh H; obtain ⟨c16, H⟩ := H
     have c16b0 := decide_eq_true c16
     have c16b1 : decide (0 < x7_1.length) = true := decide_eq_true (by omega)
     clear c16
     replace H := zO H; obtain ⟨t493, A17, H⟩ := H
     replace H := qh H; obtain ⟨c18, H⟩ := H
     have c18b0 := eq_true c18
     have c18b1 := decide_eq_true c18
     clear c18
     obtain ⟨y496, hy496⟩ : ∃ y_ : List Int, y_ = (x7_1.drop (1 : Int).toNat) := ⟨_, rfl⟩
     replace H : (zE.l1 k1 l0 x6_1 y496 t493 0) = some (r1, r2) := by (rw [hy496]; with_reducible exact H)
     have Ny496 := zb.mk hy496
     clear hy496
     have H' := zb.mk H
     clear H
     obtain ⟨Ao19, co19, eo19, _⟩ := Kd.Q_slice HO_7.out
     subst eo19
     have p492 : 0 ≤ (0 : Int) := (by omega)
     have q492 : 0 < (x7_1.length : Int) := dq
     obtain ⟨ad492, e492, hx492_0⟩ := Kd.xO (Kd.Q_reads' HO_7.out).2.2 0 p492 q492
     cases e492
     have qi492 : (0 < x7_1.length) = True := eq_true (by omega)
     (try rw [show ((0 : Int)).toNat = 0 from rfl] at hx492_0)
     (try rw [Addr.add_zero'] at hx492_0)
     replace p492 := eq_true p492
     replace q492 := eq_true q492
     go_wp2_with (((with_reducible refine zc (f := 62) rfl ?_); refine zh (some 31) rfl rfl Tryd.func62 (by kernel_rfl) rfl #[.slice A0 l0.length c0, .int .i64 (rd x7_1 0)] rfl hq ?_; (with_reducible refine (zW.calls k1 _ _ l0 (rd x7_1 0) t493 _ ?side3 ?side1 ?side2 A17.out).mono ?_); (case side1 => exact Kd.cx (Kd.zF HR0.out HB.out)); (case side2 => exact HC0.out); (case side3 => exact gb HG HB); rintro e w20 ⟨v494, rfl, ho0, hb⟩; refine ⟨_, rfl, ?_⟩; replace HO_6 := Kd.rbl HO_6 hb; have HO495 := zb.mk (Kd.rlo (Kd.zu ho0 (Kd.Q_lt (by (with_reducible skip); exact HO_7.out))) HB); replace HO_7 := zb.mk (Kd.Q_elder' (by (with_reducible skip); exact HO_7.out) (Kd.R_base ho0) hb); replace HB := bst HB hb; (try clear hb); (try clear ho0); have n_ := zb.mk (Kd.Q_mono (ok' := (fun k_ => some k_ ≠ (v494 : Value).ownBlock)) HO_7.out (fun k_ hk => hk.2)); clear HO_7; have HO_7 := n_; clear n_; have q21 : (1 : Int) ≤ ((x7_1.length : Int) : Int) := dq; obtain ⟨i021, hi021, _, hsz21, _⟩ := info_parts info3; have hcut21 := cut_from (P := Tryd.prog) 45 3 .i64 Tryd.underlying45 hi021 1 hsz21 (some ad492) x7_1.length co19 1 (by omega) q21; have hr21 := Kd.Q_drop (k := (1 : Int).toNat) HO_7.out (by omega); obtain ⟨A21, hA21⟩ : ∃ A1, A1 = (if co19 = (1 : Int).toNat then (some ad492) else ((some ad492) : Option Addr).map (·.add ((1 : Int).toNat * 1))) := ⟨_, rfl⟩; obtain ⟨c21, hc21⟩ : ∃ c1, c1 = co19 - (1 : Int).toNat := ⟨_, rfl⟩; have hy21 : y496.length = x7_1.length - (1 : Int).toNat := (by rw [Ny496.out, List.length_drop]); rw [← Ny496.out] at hr21; rw [← hy21, ← hA21, ← hc21] at hcut21; replace hr21 : Kd.Q (Kd.int .i64) 3 w20 w.heap.size (fun k_ => some k_ ≠ (v494 : Value).ownBlock) (.slice A21 y496.length c21) y496 := (by rw [hA21, hc21, hy21]; exact hr21); have HE21 : zb ((Value.slice A21 y496.length c21).ownBlock = (.slice (some ad492) x7_1.length co19 : Value).ownBlock) := ⟨by rw [hA21]; split <;> (cases ((some ad492) : Option Addr) <;> rfl)⟩; clear hy21 hi021 hsz21 HO_7 hA21 hc21; have HO498 := zb.mk hr21; clear hr21; replace q21 := eq_true q21; have n_ := zb.mk (Kd.zH (ok' := fun k_ => (True ∧ some k_ ≠ (.slice A21 y496.length c21 : Value).ownBlock)) HO495.out (fun k_ hk => ⟨trivial, (by rw [HE21.out]; exact hk.2)⟩)); clear HO495; have HO495 := n_; clear n_))
     go_loopg [7, 9] k1 (fun kq v7 v9 w' => ∃ (x6_2 : List Bool) (x7_2 : List Int) (x9_2 : Int), v9 = .int .i64 x9_2 ∧ zb (zE.l1 kq l0 x6_2 x7_2 t493 x9_2 = some (r1, r2)) ∧ zb (kq ≤ k1) ∧ zb (Kd.R Kd.bool 4 w' w.heap.size (fun _ => True) (.slice (some ⟨go7, 0, none⟩) x6_1.length co7) x6_2) ∧ zb (Kd.Q (Kd.int .i64) 3 w' w.heap.size (fun k_ => some k_ ≠ (v494 : Value).ownBlock) v7 x7_2) ∧ zb (Kd.R (Kd.int .i64) 3 w' w.heap.size (fun k_ => some k_ ≠ (v7 : Value).ownBlock) v494 t493) ∧ zb (Below w.heap.size w w'))
     case atStart => exact ⟨(x6_1), (y496), (0), eq0, H', ⟨Nat.le_refl _⟩, ⟨by (with_reducible skip); exact HO_6.out⟩, ⟨by (with_reducible skip); exact HO498.out⟩, ⟨by (with_reducible skip); exact Kd.zH HO495.out (fun _ hk => hk.2)⟩, ⟨bl HB.out⟩⟩
     case round =>
      clear H'
      (try clear c15b0); (try clear c15b1); (try clear c16b0); (try clear c16b1); (try clear c18b0); (try clear c18b1); (try clear q21); (try clear hx492_0); (try clear p492); (try clear q492)
      obtain ⟨x6_2, x7_2, x9_2, rfl, HA, HK2, HO_6, HO_7, HO_8, HB⟩ := hrel
      have hl6_2 := (Kd.zf HO_6.out).1
      rw [hl6_2] at HO_6
      (try simp only [hl6_2])
      cases gk with
      | zero => exact absurd HA.out (by simp [zE.l1])
      | succ k2 =>
       have H := HA.out
       clear HA
       simp only [zE.l1] at H
       by_cases c22 : x9_2 < (t493.length : Int)
       ·rw [if_pos c22] at H
        have c22b0 := decide_eq_true c22
        clear c22
        replace H := qh H; obtain ⟨c23, H⟩ := H
        have c23b0 := decide_eq_true c23
        clear c23
        replace H := qh H; obtain ⟨c24, H⟩ := H
        have c24b0 := decide_eq_true c24
        clear c24
        replace H := qh H; obtain ⟨c25, H⟩ := H
        have c25b0 := decide_eq_true c25
        clear c25
        obtain ⟨bq26, hbq26⟩ : ∃ b_ : Bool, b_ = (rdOf false x6_2 (rd t493 x9_2)) := ⟨_, rfl⟩
        rw [← hbq26] at H
        have Nbq26 := zb.mk hbq26
        clear hbq26
        by_cases c27 : (bq26 = true)
        ·subst c27
         replace H := ifT H
         have H' := zb.mk H
         clear H
         obtain ⟨Ao28, co28, eo28⟩ := Kd.zw HO_8.out
         subst eo28
         have p499 : 0 ≤ (x9_2 : Int) := dq
         have q499 : x9_2 < (t493.length : Int) := dq
         obtain ⟨ad499, e499, hx499_0⟩ := Kd.xO (Kd.zf HO_8.out).2.2 x9_2 p499 q499
         cases e499
         replace p499 := eq_true p499
         replace q499 := eq_true q499
         have p500 : 0 ≤ ((rd t493 x9_2) : Int) := dq
         have q500 : (rd t493 x9_2) < (x6_2.length : Int) := dq
         obtain ⟨ad500, e500, hx500_0⟩ := Kd.je (Kd.zf HO_6.out).2.2 (rd t493 x9_2) p500 q500
         (try rw [← Nbq26.out] at hx500_0)
         obtain rfl : (⟨go7, 0, none⟩ : Addr) = ad500 := (by injection e500)
         (simp only [add_plain] at hx500_0)
         replace p500 := eq_true p500
         replace q500 := eq_true q500
         go_wp2
         (try simp only [← hl6_2])
         go_roundg k2
         case measure => have := HK1.out; have := HK2.out; omega
         case rel => exact ⟨(x6_2), (x7_2), (wrap64 (x9_2 + 1)), eq0, H', ⟨by have := HK1.out; have := HK2.out; omega⟩, ⟨by (try simp only [hl6_2]); (with_reducible skip); exact HO_6.out⟩, ⟨by (with_reducible skip); exact HO_7.out⟩, ⟨by (with_reducible skip); exact HO_8.out⟩, ⟨bl HB.out⟩⟩
        ·replace c27 := Bool.eq_false_iff.mpr c27
         subst c27
         replace H := ifF H
         obtain ⟨y502, hy502⟩ : ∃ y_ : List Bool, y_ = (x6_2.set ((rd t493 x9_2) : Int).toNat true) := ⟨_, rfl⟩
         replace H : (if x7_2.length < 17592186044416 then (zE.l1 k2 l0 y502 (x7_2 ++ [rd t493 x9_2]) t493 (wrap64 (x9_2 + 1))) else (none)) = some (r1, r2) := by (rw [hy502]; with_reducible exact H)
         have Ny502 := zb.mk hy502
         clear hy502
         replace H := qh H; obtain ⟨c30, H⟩ := H
         have LMc30 := zb.mk c30
         clear c30
         obtain ⟨y504, hy504⟩ : ∃ y_ : List Int, y_ = (x7_2 ++ [rd t493 x9_2]) := ⟨_, rfl⟩
         replace H : (zE.l1 k2 l0 y502 y504 t493 (wrap64 (x9_2 + 1))) = some (r1, r2) := by (rw [hy504]; with_reducible exact H)
         have Ny504 := zb.mk hy504
         clear hy504
         have H' := zb.mk H
         clear H
         obtain ⟨Ao31, co31, eo31⟩ := Kd.zw HO_8.out
         subst eo31
         have p499 : 0 ≤ (x9_2 : Int) := dq
         have q499 : x9_2 < (t493.length : Int) := dq
         obtain ⟨ad499, e499, hx499_0⟩ := Kd.xO (Kd.zf HO_8.out).2.2 x9_2 p499 q499
         cases e499
         replace p499 := eq_true p499
         replace q499 := eq_true q499
         have p500 : 0 ≤ ((rd t493 x9_2) : Int) := dq
         have q500 : (rd t493 x9_2) < (x6_2.length : Int) := dq
         obtain ⟨ad500, e500, hx500_0⟩ := Kd.je (Kd.zf HO_6.out).2.2 (rd t493 x9_2) p500 q500
         (try rw [← Nbq26.out] at hx500_0)
         obtain rfl : (⟨go7, 0, none⟩ : Addr) = ad500 := (by injection e500)
         (simp only [add_plain] at hx500_0)
         replace p500 := eq_true p500
         replace q500 := eq_true q500
         have p501 : 0 ≤ (x9_2 : Int) := dq
         have q501 : x9_2 < (t493.length : Int) := dq
         obtain ⟨ad501, e501, hx501_0⟩ := Kd.xO (Kd.zf HO_8.out).2.2 x9_2 p501 q501
         obtain rfl : ad499 = ad501 := (by injection e501)
         replace p501 := eq_true p501
         replace q501 := eq_true q501
         have p29 : 0 ≤ ((rd t493 x9_2) : Int) := dq
         have q29 : ((rd t493 x9_2) : Int) < ((x6_2.length : Int) : Int) := dq
         obtain ⟨hx29_0, hf29_0⟩ := Kd.xG false HO_6.out ((rd t493 x9_2) : Int) p29 q29
         replace p29 := eq_true p29
         replace q29 := eq_true q29
         have HP32 := Kd.jL HO_6.out ((rd t493 x9_2) : Int) true
         go_wp2_with (first | ((with_reducible refine zM (t := 4) (p := 53) rfl ?_); refine zB (t := 4) (p := 53) (v := ?vo_w33) (w1 := (wr.setCell ⟨go7, ((rd t493 x9_2) : Int).toNat, none⟩ (.bool true))) ?hg ?ho ?hn ?hr ?_; (case ho => rfl); (case hg => rfl); (case hn => rfl); (case hr => (go_simp; done)); intro w33 hw; have hg : wr.grownBy w33 (some go7) := (by rw [hw]; exact HP32.2); have hp_ : Kd.R Kd.bool 4 w33 w.heap.size (fun _ => True) (.slice (some ⟨go7, 0, none⟩) x6_2.length co7) y502 := (by rw [hw, Ny502.out]; exact HP32.1); clear HP32; replace HO_7 := zb.mk (Kd.Q_over' (v := (.slice (some ⟨go7, 0, none⟩) x6_2.length co7)) (by (with_reducible skip); exact HO_7.out) (Kd.R_typed HO_6.out) (by decide) hg); replace HO_8 := zb.mk (Kd.R_over' (v := (.slice (some ⟨go7, 0, none⟩) x6_2.length co7)) (Kd.rx HO_8.out) (Kd.R_typed HO_6.out) (by decide) hg); replace HO_6 := zb.mk (hp_); replace HB := zb.mk ((by rw [hw]; exact zz (HB.out) GB7.out : Below w.heap.size w w33)); clear hg hw hp_; have p503 : 0 ≤ (x9_2 : Int) := dq; have q503 : x9_2 < (t493.length : Int) := dq; obtain ⟨ad503, e503, hx503_0⟩ := Kd.xO (Kd.zf HO_8.out).2.2 x9_2 p503 q503; obtain rfl : ad499 = ad503 := (by injection e503); replace p503 := eq_true p503; replace q503 := eq_true q503) | ((with_reducible refine qu (b := .append) (xs := #[.tmp 54, .tmp 59]) rfl ?_); at_builtin; refine Kd.Q_append (Kd.int .i64) (w0 := w) w.heap.size rfl (.tmp 54) (.tmp 59) 45 3 (.int .i64 0) 8 rfl Tryd.underlying45 info3 rfl (by decide) (by omega) u7 x7_2 (rd t493 x9_2) [.int .i64 (rd t493 x9_2)] (fun k_ => some k_ ≠ (.slice (some ad499) t493.length co31 : Value).ownBlock) (fun _ => False) rfl rfl ?aP (fun _ hk => hk.elim) ?aF ?aO ?aB ?aS ?aL ?_; (case aP => exact rfl); (case aB => exact (bl HB.out)); (case aF => exact (fun k_ hk => Kd.fresh' (Kd.qg (Kd.rx HO_8.out)) k_ hk)); (case aO => exact (by (with_reducible skip); exact HO_7.out)); (case aS => exact (zj (bl HB.out))); (case aL => have := LMc30.out; omega); intro v505 w34 ho hb hg hat; rw [← Ny504.out] at ho; replace HO_6 := zb.mk (Kd.R_over' (Kd.rx HO_6.out) (Kd.Q_typed (by (with_reducible skip); exact HO_7.out)) (by decide) hg); replace HO_8 := zb.mk (Kd.R_after (ok := (fun _ => True)) (Kd.rx (Kd.zH HO_8.out (fun _ hk => ⟨trivial, hk⟩))) hg hat); replace HB := zb.mk (hb); have HO506 := zb.mk (ho); clear HO_7; clear ho hb hg hat))
         (try simp only [← hl6_2])
         go_roundg k2
         case measure => have := HK1.out; have := HK2.out; omega
         case rel => exact ⟨(y502), (y504), (wrap64 (x9_2 + 1)), eq0, H', ⟨by have := HK1.out; have := HK2.out; omega⟩, ⟨by (try simp only [hl6_2]); (with_reducible skip); exact HO_6.out⟩, ⟨by (with_reducible skip); exact HO506.out⟩, ⟨by (with_reducible skip); exact Kd.zH HO_8.out (fun _ hk => hk.2)⟩, ⟨bl HB.out⟩⟩
       ·rw [if_neg c22] at H
        have c22b0 := decide_eq_false c22
        clear c22
        have H' := zb.mk H
        clear H
        obtain ⟨Ao35, co35, eo35⟩ := Kd.zw HO_8.out
        subst eo35
        go_wp2
        (try simp only [← hl6_1, ← hl6_2])
        go_roundg k2
        case measure => have := HK1.out; have := HK2.out; omega
        case rel => exact ⟨(x6_2), (x7_2), H', ⟨by have := HK1.out; have := HK2.out; omega⟩, ⟨by (try simp only [hl6_1]); (try simp only [hl6_2]); (with_reducible skip); exact HO_6.out⟩, ⟨by (with_reducible skip); exact Kd.Q_mono HO_7.out (fun _ hk => trivial)⟩, ⟨bl HB.out⟩⟩
    ·rw [if_neg c15] at H
     have c15b0 := decide_eq_false c15
     have c15b1 : decide (0 < x7_1.length) = false := decide_eq_false (by omega)
     clear c15
     simp only [Option.some.injEq, Prod.mk.injEq] at H
     obtain ⟨rfl, rfl⟩ := H
     obtain ⟨Ao36, co36, eo36, _⟩ := Kd.Q_slice HO_7.out
     subst eo36
     go_wp2
     go_ret2
     exact ⟨_, eq1, Kd.rx HO_6.out, bl HB.out⟩
 ·rw [if_neg c3] at H
  have c3b0 := beq_eq_false_iff_ne.mpr c3
  have c3b1 := bne_iff_ne.mpr c3
  simp only [Option.some.injEq, Prod.mk.injEq] at H
  obtain ⟨rfl, rfl⟩ := H
  go_enter Tryd.func55, Tryd.ntmps55
  go_wp2_with (((with_reducible refine zc (f := 18) rfl ?_); refine zh (some 12) rfl rfl Tryd.func18 (by kernel_rfl) rfl #[.slice A0 l0.length c0] rfl hq ?_; (with_reducible refine (zo.calls k _ _ l0 t483 t484 _ ?side3 ?side1 ?side2 A2.out).mono ?_); (case side1 => exact Kd.cx HR0.out); (case side2 => exact HC0.out); (case side3 => exact gb HG HB); rintro e w37 ⟨rfl, hb⟩; refine ⟨_, rfl, ?_⟩; replace HB := bst HB hb; (try clear hb)))
  go_ret2
  exact ⟨_, eq1, by exact Kd.ji _ _ _ _ _, bl HB.out⟩
def z8.l0 : Nat → List (S34) → List Bool → List Bool → Int → Option ((List (S34)))
 | 0, _, _, _, _ => none
 | k + 1, x0, x3, x5, x6 => if x6 < (x0.length : Int) then (if 0 ≤ x6 then (if x6 < (x3.length : Int) then (if x6 < (x5.length : Int) then (z8.l0 k x0 x3 (x5.set (x6 : Int).toNat (!(rdOf false x3 x6))) (wrap64 (x6 + 1))) else (none)) else (none)) else (none)) else ((zp.f k x0 x5).bind fun t516 => (some t516))
def z8.f (k : Nat) (l0 : List (S34)) : Option ((List (S34))) := (zE.f k l0).bind fun bt507 => (if 0 ≤ (l0.length : Int) then (if ((l0.length : Int) : Int).toNat ≤ 281474976710656 then (z8.l0 k l0 bt507.1 (List.replicate ((l0.length : Int) : Int).toNat false) 0) else (none)) else (none))
theorem z8.calls (k : Nat) (A0 : Option Addr) (c0 : Nat) (l0 r : List (S34)) (w : World) (hG : GW w) (hr0 : Kd.C k34 w A0 l0.length l0) (hc0 : l0.length ≤ c0) (h : z8.f k l0 = some r) :
  Calls Tryd.prog 36 #[.slice A0 l0.length c0] w fun e w' => ∃ v0_ : Value, e = .returned (v0_) ∧ Kd.R k34 34 w' w.heap.size (fun _ => True) v0_ r ∧ Below w.heap.size w w' := by
 have HR0 := zb.mk hr0
 have HC0 := zb.mk hc0
 clear hr0 hc0
 have HG := zb.mk hG
 clear hG
 have HB := zb.mk (Below.refl w.heap.size w)
 have H : ((zE.f k l0).bind fun bt507 => (if 0 ≤ (l0.length : Int) then (if ((l0.length : Int) : Int).toNat ≤ 281474976710656 then (z8.l0 k l0 bt507.1 (List.replicate ((l0.length : Int) : Int).toNat false) 0) else (none)) else (none))) = some r := h
 clear h
 replace H := zO H; obtain ⟨⟨t507, t508⟩, A2, H⟩ := H; try dsimp only at H
 by_cases c3 : 0 ≤ (l0.length : Int)
 ·rw [if_pos c3] at H
  have c3b0 := eq_true c3
  have c3b1 := decide_eq_true c3
  clear c3
  replace H := qh H; obtain ⟨c4, H⟩ := H
  have c4b0 := eq_true c4
  have c4b1 := decide_eq_true c4
  clear c4
  obtain ⟨y511, hy511⟩ : ∃ y_ : List Bool, y_ = (List.replicate ((l0.length : Int) : Int).toNat false) := ⟨_, rfl⟩
  replace H : (z8.l0 k l0 t507 y511 0) = some r := by (rw [hy511]; with_reducible exact H)
  have Ny511 := zb.mk hy511
  clear hy511
  have H' := zb.mk H
  clear H
  go_enter Tryd.func36, Tryd.ntmps36
  go_wp2_with (first | ((with_reducible refine zc (f := 55) rfl ?_); refine zh (some 9) rfl rfl Tryd.func55 (by kernel_rfl) rfl #[.slice A0 l0.length c0] rfl hq ?_; (with_reducible refine (zE.calls k _ _ l0 t507 t508 _ ?side3 ?side1 ?side2 A2.out).mono ?_); (case side1 => exact Kd.cx HR0.out); (case side2 => exact HC0.out); (case side3 => exact gb HG HB); rintro e w5 ⟨v509, rfl, ho0, hb⟩; refine ⟨_, rfl, ?_⟩; have HO510 := zb.mk (Kd.rlo ho0 HB); replace HB := bst HB hb; (try clear hb); (try clear ho0)) | ((with_reducible refine z3 (N := 14) rfl ?_); refine Kd.R_make Kd.bool _ 4 rfl (N := 14) rfl 27 _ _ rfl (l0.length : Int) rfl rfl Tryd.underlying27 (.bool false) 1 info4 rfl (by decide) (by omega) false (ok := fun _ => True) (okp := fun _ => True) rfl (fun _ hk => hk) trivial (dq) (Nat.le_trans (Nat.mul_le_mul_right _ (dq : (l0.length : Int).toNat ≤ 281474976710656)) (by omega)) (Below.refl _ _) (Nat.le_refl _) ?_; intro v512 w6 ho7 hb hg_ hnew_; clear hg_ hnew_; (rw [← Ny511.out] at ho7); have HO513 := zb.mk (Kd.rlo (Kd.zu ho7 (Kd.qg (Kd.rx HO510.out))) HB); replace HO510 := Kd.eld HO510 ho7 hb; replace HB := bst HB hb; clear hb ho7))
  go_loopg [6] k (fun kq v6 w' => ∃ (x5_1 : List Bool) (x6_1 : Int), v6 = .int .i64 x6_1 ∧ zb (z8.l0 kq l0 t507 x5_1 x6_1 = some r) ∧ zb (kq ≤ k) ∧ zb (Kd.R Kd.bool 4 w' w.heap.size (fun k_ => some k_ ≠ (v512 : Value).ownBlock) v509 t507) ∧ zb (Kd.R Kd.bool 4 w' w.heap.size (fun k_ => some k_ ≠ (v509 : Value).ownBlock) v512 x5_1) ∧ zb (Below w.heap.size w w'))
  case atStart => exact ⟨(y511), (0), eq0, H', ⟨Nat.le_refl _⟩, ⟨Kd.rx (Kd.zH HO510.out (fun _ hk => hk.2))⟩, ⟨Kd.rx (Kd.zH HO513.out (fun _ hk => hk.2))⟩, ⟨bl HB.out⟩⟩
  case round =>
   clear H'
   (try clear c3b0); (try clear c3b1); (try clear c4b0); (try clear c4b1)
   obtain ⟨x5_1, x6_1, rfl, HA, HK1, HO_3, HO_5, HB⟩ := hrel
   cases gk with
   | zero => exact absurd HA.out (by simp [z8.l0])
   | succ k1 =>
    have H := HA.out
    clear HA
    simp only [z8.l0] at H
    by_cases c8 : x6_1 < (l0.length : Int)
    ·rw [if_pos c8] at H
     have c8b0 := decide_eq_true c8
     clear c8
     replace H := qh H; obtain ⟨c9, H⟩ := H
     have c9b0 := decide_eq_true c9
     clear c9
     replace H := qh H; obtain ⟨c10, H⟩ := H
     have c10b0 := decide_eq_true c10
     clear c10
     replace H := qh H; obtain ⟨c11, H⟩ := H
     have c11b0 := decide_eq_true c11
     clear c11
     obtain ⟨y515, hy515⟩ : ∃ y_ : List Bool, y_ = (x5_1.set (x6_1 : Int).toNat (!(rdOf false t507 x6_1))) := ⟨_, rfl⟩
     replace H : (z8.l0 k1 l0 t507 y515 (wrap64 (x6_1 + 1))) = some r := by (rw [hy515]; with_reducible exact H)
     have Ny515 := zb.mk hy515
     clear hy515
     have H' := zb.mk H
     clear H
     obtain ⟨Ao13, co13, eo13⟩ := Kd.zw HO_3.out
     subst eo13
     have p514 : 0 ≤ (x6_1 : Int) := dq
     have q514 : x6_1 < (t507.length : Int) := dq
     obtain ⟨ad514, e514, hx514_0⟩ := Kd.je (Kd.zf HO_3.out).2.2 x6_1 p514 q514
     cases e514
     replace p514 := eq_true p514
     replace q514 := eq_true q514
     have p12 : 0 ≤ (x6_1 : Int) := dq
     have q12 : (x6_1 : Int) < ((x5_1.length : Int) : Int) := dq
     obtain ⟨go12, co12, eo12, gb12, gl12, cl12, HG12⟩ := Kd.xR HO_5.out (by omega)
     (cases eo12)
     have GB12 := zb.mk gb12
     have GG12 := zb.mk HG12
     clear gb12 gl12 HG12
     obtain ⟨hx12_0, hf12_0⟩ := Kd.xG false HO_5.out (x6_1 : Int) p12 q12
     replace p12 := eq_true p12
     replace q12 := eq_true q12
     have HP14 := Kd.jL HO_5.out (x6_1 : Int) (!(rdOf false t507 x6_1))
     go_wp2_with (((with_reducible refine zM (t := 4) (p := 28) rfl ?_); refine zB (t := 4) (p := 28) (v := ?vo_w15) (w1 := (wr.setCell ⟨go12, (x6_1 : Int).toNat, none⟩ (.bool (!(rdOf false t507 x6_1))))) ?hg ?ho ?hn ?hr ?_; (case ho => rfl); (case hg => rfl); (case hn => rfl); (case hr => (go_simp; done)); intro w15 hw; have hg : wr.grownBy w15 (some go12) := (by rw [hw]; exact HP14.2); have hp_ : Kd.R Kd.bool 4 w15 w.heap.size (fun k_ => some k_ ≠ (.slice (some ad514) t507.length co13 : Value).ownBlock) (.slice (some ⟨go12, 0, none⟩) x5_1.length co12) y515 := (by rw [hw, Ny515.out]; exact HP14.1); clear HP14; replace HO_3 := zb.mk (Kd.R_after (v := (.slice (some ⟨go12, 0, none⟩) x5_1.length co12)) (v1 := (.slice (some ⟨go12, 0, none⟩) x5_1.length co12)) (ok := (fun _ => True)) (Kd.rx (Kd.zH HO_3.out (fun _ hk => ⟨trivial, hk⟩))) hg (.inl rfl)); replace HO_5 := zb.mk (hp_); replace HB := zb.mk ((by rw [hw]; exact zz (HB.out) GB12.out : Below w.heap.size w w15)); clear hg hw hp_))
     go_roundg k1
     case measure => have := HK1.out; omega
     case rel => exact ⟨(y515), (wrap64 (x6_1 + 1)), eq0, H', ⟨by have := HK1.out; omega⟩, ⟨Kd.rx (Kd.zH HO_3.out (fun _ hk => hk.2))⟩, ⟨Kd.rx HO_5.out⟩, ⟨bl HB.out⟩⟩
    ·rw [if_neg c8] at H
     have c8b0 := decide_eq_false c8
     clear c8
     replace H := zO H; obtain ⟨t516, A16, H⟩ := H
     obtain rfl := Option.some.inj H
     obtain ⟨Ao17, co17, eo17⟩ := Kd.zw HO_5.out
     subst eo17
     go_wp2_with (((with_reducible refine zc (f := 54) rfl ?_); refine zh (some 31) rfl rfl Tryd.func54 (by kernel_rfl) rfl #[.slice A0 l0.length c0, .slice Ao17 x5_1.length co17] rfl hq ?_; (with_reducible refine (zp.calls k1 _ _ l0 _ _ x5_1 t516 _ ?side5 ?side1 ?side2 ?side3 ?side4 A16.out).mono ?_); (case side1 => exact Kd.cx (Kd.zF HR0.out HB.out)); (case side2 => exact HC0.out); (case side3 => repeat (exact (Kd.zf HO_5.out).2.2)); (case side4 => exact (Kd.zf HO_5.out).2.1); (case side5 => exact gb HG HB); rintro e w18 ⟨v517, rfl, ho0, hb⟩; refine ⟨_, rfl, ?_⟩; replace HO_3 := Kd.rbl HO_3 hb; replace HO_5 := Kd.rbl HO_5 hb; have HO518 := zb.mk (Kd.rlo ho0 HB); replace HB := bst HB hb; (try clear hb); (try clear ho0)))
     go_ret
     exact ⟨_, eq1, Kd.rx HO518.out, bl HB.out⟩
 ·rw [if_neg c3] at H
  exact absurd H (by simp)
def qm.l0 : Nat → List (S34) → Int → Int → Option (Int × Bool)
 | 0, _, _, _ => none
 | k + 1, x0, x1, x6 => if 0 ≤ x1 then (if x1 < (x0.length : Int) then (if ((za x0 x1).f0) = 14 then (if x6 > (x0.length : Int) then (some (0, false)) else (qm.l0 k x0 (wrap64 (x1 + ((za x0 x1).f1))) (wrap64 (x6 + 1)))) else (some (x1, true))) else (none)) else (none)
def qm.f (k : Nat) (l0 : List (S34)) (a1 : Int) : Option (Int × Bool) := if 0 ≤ a1 then (if a1 < (l0.length : Int) then (qm.l0 k l0 (wrap64 (a1 + ((za l0 a1).f1))) 0) else (none)) else (none)
theorem qm.calls (k : Nat) (A0 : Option Addr) (c0 : Nat) (l0 : List (S34)) (a1 r1 : Int) (r2 : Bool) (w : World) (hG : GW w) (hr0 : Kd.C k34 w A0 l0.length l0) (hc0 : l0.length ≤ c0) (h : qm.f k l0 a1 = some (r1, r2)) :
  Calls Tryd.prog 56 #[.slice A0 l0.length c0, .int .i64 a1] w fun e w' => e = .returned (.tuple #[.int .i64 r1, .bool r2]) ∧ zi w w' := by
 have HR0 := zb.mk hr0
 have HC0 := zb.mk hc0
 clear hr0 hc0
 have HG := zb.mk hG
 clear hG
 have H : (if 0 ≤ a1 then (if a1 < (l0.length : Int) then (qm.l0 k l0 (wrap64 (a1 + ((za l0 a1).f1))) 0) else (none)) else (none)) = some (r1, r2) := h
 clear h
 by_cases c3 : 0 ≤ a1
 ·rw [if_pos c3] at H
  have c3b0 := decide_eq_true c3
  clear c3
  replace H := qh H; obtain ⟨c4, H⟩ := H
  have c4b0 := decide_eq_true c4
  clear c4
  have H' := zb.mk H
  clear H
  have p519 : 0 ≤ (a1 : Int) := dq
  have q519 : a1 < (l0.length : Int) := dq
  obtain ⟨ad519, e519, hx519_0, hx519_1, hx519_2, hx519_3, hx519_4, hx519_5, hx519_6, hx519_7, hx519_8⟩ := zU HR0.out a1 p519 q519
  cases e519
  replace p519 := eq_true p519
  replace q519 := eq_true q519
  go_enter Tryd.func56, Tryd.ntmps56
  go_wp2
  go_loopg [1, 6] k (fun kq v1 v6 w' => ∃ (x1_1 : Int) (x6_1 : Int), v1 = .int .i64 x1_1 ∧ v6 = .int .i64 x6_1 ∧ zb (qm.l0 kq l0 x1_1 x6_1 = some (r1, r2)) ∧ zb (kq ≤ k) ∧ zi w w')
  case atStart => exact ⟨(wrap64 (a1 + ((za l0 a1).f1))), (0), eq0, eq0, H', ⟨Nat.le_refl _⟩, by repeat (exact zi.refl _)⟩
  case round =>
   clear H'
   (try clear c3b0); (try clear c4b0); (try clear hx519_0); (try clear hx519_1); (try clear hx519_2); (try clear hx519_3); (try clear hx519_4); (try clear hx519_5); (try clear hx519_6); (try clear hx519_7); (try clear hx519_8); (try clear p519); (try clear q519)
   obtain ⟨x1_1, x6_1, rfl, rfl, HA, HK1, ⟨m1, rfl⟩⟩ := hrel
   cases gk with
   | zero => exact absurd HA.out (by simp [qm.l0])
   | succ k1 =>
    have H := HA.out
    clear HA
    simp only [qm.l0] at H
    replace H := qh H; obtain ⟨c5, H⟩ := H
    have c5b0 := decide_eq_true c5
    clear c5
    replace H := qh H; obtain ⟨c6, H⟩ := H
    have c6b0 := decide_eq_true c6
    clear c6
    by_cases c7 : ((za l0 x1_1).f0) = 14
    ·rw [if_pos c7] at H
     have c7b0 := beq_iff_eq.mpr c7
     have c7b1 := bne_eq_false_iff_eq.mpr c7
     clear c7
     by_cases c8 : x6_1 > (l0.length : Int)
     ·rw [if_pos c8] at H
      have c8b0 := decide_eq_true c8
      clear c8
      simp only [Option.some.injEq, Prod.mk.injEq] at H
      obtain ⟨rfl, rfl⟩ := H
      have p520 : 0 ≤ (x1_1 : Int) := dq
      have q520 : x1_1 < (l0.length : Int) := dq
      obtain ⟨ad520, e520, hx520_0, hx520_1, hx520_2, hx520_3, hx520_4, hx520_5, hx520_6, hx520_7, hx520_8⟩ := zU HR0.out x1_1 p520 q520
      obtain rfl : ad519 = ad520 := (by injection e520)
      replace p520 := eq_true p520
      replace q520 := eq_true q520
      go_wp2
      go_ret2
      exact ⟨eq0, by repeat (first | exact zi.refl _ | apply zi.step)⟩
     ·rw [if_neg c8] at H
      have c8b0 := decide_eq_false c8
      clear c8
      have H' := zb.mk H
      clear H
      have p520 : 0 ≤ (x1_1 : Int) := dq
      have q520 : x1_1 < (l0.length : Int) := dq
      obtain ⟨ad520, e520, hx520_0, hx520_1, hx520_2, hx520_3, hx520_4, hx520_5, hx520_6, hx520_7, hx520_8⟩ := zU HR0.out x1_1 p520 q520
      obtain rfl : ad519 = ad520 := (by injection e520)
      replace p520 := eq_true p520
      replace q520 := eq_true q520
      have p521 : 0 ≤ (x1_1 : Int) := dq
      have q521 : x1_1 < (l0.length : Int) := dq
      obtain ⟨ad521, e521, hx521_0, hx521_1, hx521_2, hx521_3, hx521_4, hx521_5, hx521_6, hx521_7, hx521_8⟩ := zU HR0.out x1_1 p521 q521
      obtain rfl : ad519 = ad521 := (by injection e521)
      replace p521 := eq_true p521
      replace q521 := eq_true q521
      go_wp2
      go_roundg k1
      case measure => have := HK1.out; omega
      case rel => exact ⟨(wrap64 (x1_1 + ((za l0 x1_1).f1))), (wrap64 (x6_1 + 1)), eq0, eq0, H', ⟨by have := HK1.out; omega⟩, by repeat (first | exact zi.refl _ | apply zi.step)⟩
    ·rw [if_neg c7] at H
     have c7b0 := beq_eq_false_iff_ne.mpr c7
     have c7b1 := bne_iff_ne.mpr c7
     simp only [Option.some.injEq, Prod.mk.injEq] at H
     obtain ⟨rfl, rfl⟩ := H
     have p520 : 0 ≤ (x1_1 : Int) := dq
     have q520 : x1_1 < (l0.length : Int) := dq
     obtain ⟨ad520, e520, hx520_0, hx520_1, hx520_2, hx520_3, hx520_4, hx520_5, hx520_6, hx520_7, hx520_8⟩ := zU HR0.out x1_1 p520 q520
     obtain rfl : ad519 = ad520 := (by injection e520)
     replace p520 := eq_true p520
     replace q520 := eq_true q520
     go_wp2
     go_ret2
     exact ⟨eq0, by repeat (first | exact zi.refl _ | apply zi.step)⟩
 ·rw [if_neg c3] at H
  exact absurd H (by simp)
end Go.Proofs.YtnpeabmlcakegaaDoor.PAll
