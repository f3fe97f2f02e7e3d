/- The statement 'PeepSettles': the row, out of the plain law (theorem PeepSettles of the text PurePeepSettles) and the walks. Conditions: those of the row alone. -/
import Derived.Test.YtnpeabmlcakegaaDoorSettles3
import Derived.Test.YtnpeabmlcakegaaDoorRows
import Derived.Test.YtnpeabmlcakegaaDoorCards
import Derived.Test.YtnpeabmlcakegaaDoorTie
set_option maxHeartbeats 8000000
set_option maxRecDepth 100000
namespace Go.Proofs.YtnpeabmlcakegaaDoor.PAll
open Go.RowKit Go.Proofs.YtnpeabmlcakegaaDoorW.PrintWords Go.Proofs.YtnpeabmlcakegaaDoorW.PrintLast Go.Proofs.YtnpeabmlcakegaaDoorW.PrintMore
attribute [local go_sem] zR zY z4 qH qF qN qO qv qu qE qG
set_option linter.unusedVariables false
set_option linter.unusedSimpArgs false
attribute [local go_sem high] eqA32
mutual
def zn.j0 : Nat → Int → Bool → Int → Int → Int → Int → ByteArray → Int → Int → Int → Int → Option (Bool)
 | 0, _, _, _, _, _, _, _, _, _, _, _ => none
 | k + 1, x3, x38, x348000, x348001, x348002, x348003, x348004, x348005, x348006, x348007, x348008 => if x38 = true then (some false) else ((zl.f x3 2).bind fun t357 => (if t357 = true then (if x348001 < 0 then (zn.j1 k x3 true x348000 x348001 x348002 x348003 x348004 x348005 x348006 x348007 x348008) else (if x348001 > 255 then (zn.j1 k x3 true x348000 x348001 x348002 x348003 x348004 x348005 x348006 x348007 x348008) else (if x348002 = 1 then (zn.j1 k x3 (x348001 != 0) x348000 x348001 x348002 x348003 x348004 x348005 x348006 x348007 x348008) else (zn.j1 k x3 false x348000 x348001 x348002 x348003 x348004 x348005 x348006 x348007 x348008)))) else (zn.j1 k x3 false x348000 x348001 x348002 x348003 x348004 x348005 x348006 x348007 x348008)))
def zn.j1 : Nat → Int → Bool → Int → Int → Int → Int → ByteArray → Int → Int → Int → Int → Option (Bool)
 | 0, _, _, _, _, _, _, _, _, _, _, _ => none
 | k + 1, x3, x60, x348000, x348001, x348002, x348003, x348004, x348005, x348006, x348007, x348008 => if x60 = true then (some false) else ((zl.f x3 8).bind fun t358 => (if t358 = true then ((zv.f k x348000 x348001 x348002 x348003 x348004 x348005 x348006 x348007 x348008).bind fun t359 => (some t359)) else (if x348003 = 0 then (if x348004.toList = ([] : List UInt8) then ((zl.f x3 4).bind fun t360 => (if t360 = true then (if x348002 ≥ 0 then (if x348002 ≤ 255 then (some true) else (some (x348002 == 0))) else (some (x348002 == 0))) else (some (x348002 == 0)))) else (some false)) else (some false))))
end
def zn.f (k : Nat) (a0_0 : Int) (a0_1 : Int) (a0_2 : Int) (a0_3 : Int) (a0_4 : ByteArray) (a0_5 : Int) (a0_6 : Int) (a0_7 : Int) (a0_8 : Int) : Option (Bool) := (zK.f a0_0).bind fun bt348 => ((zl.f bt348.1 16).bind fun t352 => (if t352 = true then ((zl.f bt348.1 1).bind fun t353 => (if t353 = true then (zn.j0 k bt348.1 false a0_0 a0_1 a0_2 a0_3 a0_4 a0_5 a0_6 a0_7 a0_8) else ((zl.f bt348.1 2).bind fun t354 => (if t354 = true then (zn.j0 k bt348.1 false a0_0 a0_1 a0_2 a0_3 a0_4 a0_5 a0_6 a0_7 a0_8) else (zn.j0 k bt348.1 (a0_1 != 0) a0_0 a0_1 a0_2 a0_3 a0_4 a0_5 a0_6 a0_7 a0_8))))) else (if (!(a0_5 == 0) || (!(a0_6 == 0) || (!(a0_7 == 0) || (!(a0_8 == 0))))) = true then (zn.j0 k bt348.1 true a0_0 a0_1 a0_2 a0_3 a0_4 a0_5 a0_6 a0_7 a0_8) else ((zl.f bt348.1 1).bind fun t355 => (if t355 = true then (zn.j0 k bt348.1 false a0_0 a0_1 a0_2 a0_3 a0_4 a0_5 a0_6 a0_7 a0_8) else ((zl.f bt348.1 2).bind fun t356 => (if t356 = true then (zn.j0 k bt348.1 false a0_0 a0_1 a0_2 a0_3 a0_4 a0_5 a0_6 a0_7 a0_8) else (zn.j0 k bt348.1 (a0_1 != 0) a0_0 a0_1 a0_2 a0_3 a0_4 a0_5 a0_6 a0_7 a0_8))))))))
theorem zn.calls (k : Nat) (a0_0 a0_1 a0_2 a0_3 : Int) (a0_4 : ByteArray) (a0_5 a0_6 a0_7 a0_8 : Int) (r : Bool) (w : World) (hG : GW w) (h : zn.f k a0_0 a0_1 a0_2 a0_3 a0_4 a0_5 a0_6 a0_7 a0_8 = some r) :
  Calls Tryd.prog 40 #[.agg #[.int .i64 a0_0, .int .i64 a0_1, .int .i64 a0_2, .int .i64 a0_3, .string a0_4, .int .u64 a0_5, .int .u64 a0_6, .int .u64 a0_7, .int .u64 a0_8]] w fun e w' => e = .returned (.bool r) ∧ Below w.heap.size w w' := by
 have hu34 := Tryd.underlying34
 have hu32 := Tryd.underlying32
 have HG := zb.mk hG
 clear hG
 have HB := zb.mk (Below.refl w.heap.size w)
 have H : ((zK.f a0_0).bind fun bt348 => ((zl.f bt348.1 16).bind fun t352 => (if t352 = true then ((zl.f bt348.1 1).bind fun t353 => (if t353 = true then (zn.j0 k bt348.1 false a0_0 a0_1 a0_2 a0_3 a0_4 a0_5 a0_6 a0_7 a0_8) else ((zl.f bt348.1 2).bind fun t354 => (if t354 = true then (zn.j0 k bt348.1 false a0_0 a0_1 a0_2 a0_3 a0_4 a0_5 a0_6 a0_7 a0_8) else (zn.j0 k bt348.1 (a0_1 != 0) a0_0 a0_1 a0_2 a0_3 a0_4 a0_5 a0_6 a0_7 a0_8))))) else (if (!(a0_5 == 0) || (!(a0_6 == 0) || (!(a0_7 == 0) || (!(a0_8 == 0))))) = true then (zn.j0 k bt348.1 true a0_0 a0_1 a0_2 a0_3 a0_4 a0_5 a0_6 a0_7 a0_8) else ((zl.f bt348.1 1).bind fun t355 => (if t355 = true then (zn.j0 k bt348.1 false a0_0 a0_1 a0_2 a0_3 a0_4 a0_5 a0_6 a0_7 a0_8) else ((zl.f bt348.1 2).bind fun t356 => (if t356 = true then (zn.j0 k bt348.1 false a0_0 a0_1 a0_2 a0_3 a0_4 a0_5 a0_6 a0_7 a0_8) else (zn.j0 k bt348.1 (a0_1 != 0) a0_0 a0_1 a0_2 a0_3 a0_4 a0_5 a0_6 a0_7 a0_8))))))))) = some r := h
 clear h
 replace H := qe H; obtain ⟨⟨t348, t349, t350⟩, A2, H⟩ := H; try dsimp only at H
 have HC3 := zb.mk H
 clear H
 go_enter Tryd.func40, Tryd.ntmps40
 go_upto_region 3 with (first | ((with_reducible refine zZ (N := 1) rfl ?_); refine z7 ?hg (N := 1) ?hd (cs := #[.int .i64 a0_0, .int .i64 a0_1, .int .i64 a0_2, .int .i64 a0_3, .string a0_4, .int .u64 a0_5, .int .u64 a0_6, .int .u64 a0_7, .int .u64 a0_8]) (t := 34) ?hr ?_; (case hd => rfl); (case hg => rfl); (case hr => (go_simp; done)); intro gb347 hg w4 hbox hb; have BK347 := zb.mk (hbox); have GW347 := zb.mk ((by rw [hg]; exact (zj (bl HB.out)) : w.heap.size ≤ gb347)); have GE347 := zb.mk ((by rw [hg]; exact (zj (bl HB.out)) : w.heap.size ≤ gb347)); replace HB := bst HB hb; clear hb hbox hg; obtain ⟨hcz5_0, hcz5_1, hcz5_2, hcz5_3, hcz5_4, hcz5_5, hcz5_6, hcz5_7, hcz5_8⟩ := zP BK347.out; obtain ⟨hfz5_0, hfz5_1, hfz5_2, hfz5_3, hfz5_4, hfz5_5, hfz5_6, hfz5_7, hfz5_8⟩ := zQ BK347.out) | ((with_reducible refine zf (f := 39) rfl ?_); refine zs (some 10) rfl rfl Tryd.func39 (by kernel_rfl) rfl #[.int .i64 a0_0] rfl hq ?_; (with_reducible refine (zK.calls a0_0 t348 t349 t350 _ ?side1 A2.out).mono ?_); (case side1 => exact GW.below HG.out bsq); rintro e w' ⟨rfl, ⟨nd, rfl⟩⟩; refine ⟨_, rfl, ?_⟩; (try (rw [drewN_self w4]; generalize hq_ : World.drewN w4 _ = w4; replace BK347 : zb (w4.heap[gb347]? = some (.cells #[.int .i64 a0_0, .int .i64 a0_1, .int .i64 a0_2, .int .i64 a0_3, .string a0_4, .int .u64 a0_5, .int .u64 a0_6, .int .u64 a0_7, .int .u64 a0_8] 34 (0, 0))) := ⟨by rw [← hq_]; exact (bx BK347.out)⟩; replace HB : zb (Below w.heap.size w w4) := ⟨by rw [← hq_]; exact bsq⟩; clear hq_))) | ((with_reducible refine zZ (N := 6) rfl ?_); refine z7 ?hg (N := 6) ?hd (cs := #[.int .u64 0, .int .u64 0, .int .u64 0, .int .u64 0]) (t := 32) ?hr ?_; (case hd => rfl); (case hg => rfl); (case hr => (go_simp; done)); intro gb351 hg w6 hbox hb; have BK351 := zb.mk (hbox); have GW351 := zb.mk ((by rw [hg]; exact (zj bsq) : w.heap.size ≤ gb351)); have GE351 := zb.mk ((by rw [hg]; exact (zj bsq) : w.heap.size ≤ gb351)); replace HB := zb.mk (zJ bsq hb); have NB347_351 := zb.mk ((by rw [hg]; exact Nat.ne_of_lt (xo (g := gb347) (o := .cells #[.int .i64 a0_0, .int .i64 a0_1, .int .i64 a0_2, .int .i64 a0_3, .string a0_4, .int .u64 a0_5, .int .u64 a0_6, .int .u64 a0_7, .int .u64 a0_8] 34 (0, 0)) (bx BK347.out)) : gb347 ≠ gb351)); have NB351_347 := zb.mk ((by rw [hg]; exact Nat.ne_of_gt (xo (g := gb347) (o := .cells #[.int .i64 a0_0, .int .i64 a0_1, .int .i64 a0_2, .int .i64 a0_3, .string a0_4, .int .u64 a0_5, .int .u64 a0_6, .int .u64 a0_7, .int .u64 a0_8] 34 (0, 0)) (bx BK347.out)) : gb351 ≠ gb347)); replace BK347 := zb.mk (qj (g := gb347) (o := .cells #[.int .i64 a0_0, .int .i64 a0_1, .int .i64 a0_2, .int .i64 a0_3, .string a0_4, .int .u64 a0_5, .int .u64 a0_6, .int .u64 a0_7, .int .u64 a0_8] 34 (0, 0)) (bx BK347.out) hb); clear hb hbox hg; have hnb7 := NB351_347.out; have hnc7 := NB347_351.out; obtain ⟨hcz8_0, hcz8_1, hcz8_2, hcz8_3⟩ := blk_c4 BK351.out; obtain ⟨hfz8_0, hfz8_1, hfz8_2, hfz8_3⟩ := blk_f4 BK351.out) | ((with_reducible refine z6 (t := 32) (p := 6) rfl ?_); refine zW (t := 32) (p := 6) (v := ?vo_w9) (w1 := (qW w6 gb351 #[.int .u64 0, .int .u64 0, .int .u64 0, .int .u64 0])) ?hg ?ho ?hn ?hr ?_; (case ho => rfl); (case hg => rfl); (case hn => rfl); (case hr => (go_simp; rfl)); intro w9 hw; replace BK347 : zb (w9.heap[gb347]? = some (.cells #[.int .i64 a0_0, .int .i64 a0_1, .int .i64 a0_2, .int .i64 a0_3, .string a0_4, .int .u64 a0_5, .int .u64 a0_6, .int .u64 a0_7, .int .u64 a0_8] 34 (0, 0))) := ⟨(by rw [hw]; exact (by (with_reducible skip); refine blk_setsfar ?_ NB347_351.out _; (with_reducible skip); exact BK347.out))⟩; replace BK351 : zb (w9.heap[gb351]? = some (.cells #[.int .u64 0, .int .u64 0, .int .u64 0, .int .u64 0] 32 (0, 0))) := ⟨(by rw [hw]; exact (by (with_reducible skip); refine qL (cs := #[.int .u64 0, .int .u64 0, .int .u64 0, .int .u64 0]) ?_ _ rfl; (with_reducible skip); exact BK351.out))⟩; replace HB : zb (Below w.heap.size w w9) := ⟨(by rw [hw]; exact bsq)⟩; clear hw))
 (try simp only [Act.put, List.setIfInBounds_toArray, List.set_cons_zero, List.set_cons_succ])
 go_cut [38] (fun v38 wc => ∃ (kq : Nat) (x38_2 : Bool), v38 = .bool x38_2 ∧ zb (zn.j0 kq t348 x38_2 a0_0 a0_1 a0_2 a0_3 a0_4 a0_5 a0_6 a0_7 a0_8 = some r) ∧ zb (kq ≤ k) ∧ zb (wc.heap[gb347]? = some (.cells #[.int .i64 a0_0, .int .i64 a0_1, .int .i64 a0_2, .int .i64 a0_3, .string a0_4, .int .u64 a0_5, .int .u64 a0_6, .int .u64 a0_7, .int .u64 a0_8] 34 (0, 0))) ∧ zb (wc.heap[gb351]? = some (.cells #[.int .u64 0, .int .u64 0, .int .u64 0, .int .u64 0] 32 (0, 0))) ∧ zb (Below w.heap.size w wc))
 case first =>
  have H := HC3.out
  clear HC3
  replace H := qe H; obtain ⟨t352, A10, H⟩ := H
  by_cases c11 : t352 = true
  ·subst c11
   replace H := ifT H
   replace H := qe H; obtain ⟨t353, A12, H⟩ := H
   by_cases c13 : t353 = true
   ·subst c13
    replace H := ifT H
    have H' := zb.mk H
    clear H
    go_wp2_with (first | ((with_reducible refine zf (f := 41) rfl ?_); refine zs (some 16) rfl rfl Tryd.func41 (by kernel_rfl) rfl #[.int .i64 t348, .int .i64 16] rfl hq ?_; (with_reducible refine (zl.calls t348 16 true _ ?side1 A10.out).mono ?_); (case side1 => exact GW.below HG.out bsq); rintro e w' ⟨rfl, ⟨nd, rfl⟩⟩; refine ⟨_, rfl, ?_⟩) | (go_at_call 41; (with_reducible refine (zl.calls t348 1 true _ ?side1 A12.out).mono ?_); (case side1 => exact GW.below HG.out bsq); rintro e w' ⟨rfl, ⟨nd, rfl⟩⟩))
    go_meet
    case rel => exact ⟨_, (false), eq0, H', ⟨by omega⟩, ⟨by (with_reducible repeat (refine qk ?_ _)); exact BK347.out⟩, ⟨by (with_reducible repeat (refine qk ?_ _)); exact BK351.out⟩, ⟨bsq⟩⟩
   ·replace c13 := Bool.eq_false_iff.mpr c13
    subst c13
    replace H := ifF H
    replace H := qe H; obtain ⟨t354, A14, H⟩ := H
    by_cases c15 : t354 = true
    ·subst c15
     replace H := ifT H
     have H' := zb.mk H
     clear H
     go_wp2_with (first | ((with_reducible refine zf (f := 41) rfl ?_); refine zs (some 16) rfl rfl Tryd.func41 (by kernel_rfl) rfl #[.int .i64 t348, .int .i64 16] rfl hq ?_; (with_reducible refine (zl.calls t348 16 true _ ?side1 A10.out).mono ?_); (case side1 => exact GW.below HG.out bsq); rintro e w' ⟨rfl, ⟨nd, rfl⟩⟩; refine ⟨_, rfl, ?_⟩) | (go_at_call 41; (with_reducible refine (zl.calls t348 1 false _ ?side1 A12.out).mono ?_); (case side1 => exact GW.below HG.out bsq); rintro e w' ⟨rfl, ⟨nd, rfl⟩⟩) | (go_at_call 41; (with_reducible refine (zl.calls t348 2 true _ ?side1 A14.out).mono ?_); (case side1 => exact GW.below HG.out bsq); rintro e w' ⟨rfl, ⟨nd, rfl⟩⟩))
     go_meet
     case rel => exact ⟨_, (false), eq0, H', ⟨by omega⟩, ⟨by (with_reducible repeat (refine qk ?_ _)); exact BK347.out⟩, ⟨by (with_reducible repeat (refine qk ?_ _)); exact BK351.out⟩, ⟨bsq⟩⟩
    ·replace c15 := Bool.eq_false_iff.mpr c15
     subst c15
     replace H := ifF H
     have H' := zb.mk H
     clear H
     go_wp2_with (first | ((with_reducible refine zf (f := 41) rfl ?_); refine zs (some 16) rfl rfl Tryd.func41 (by kernel_rfl) rfl #[.int .i64 t348, .int .i64 16] rfl hq ?_; (with_reducible refine (zl.calls t348 16 true _ ?side1 A10.out).mono ?_); (case side1 => exact GW.below HG.out bsq); rintro e w' ⟨rfl, ⟨nd, rfl⟩⟩; refine ⟨_, rfl, ?_⟩) | (go_at_call 41; (with_reducible refine (zl.calls t348 1 false _ ?side1 A12.out).mono ?_); (case side1 => exact GW.below HG.out bsq); rintro e w' ⟨rfl, ⟨nd, rfl⟩⟩) | (go_at_call 41; (with_reducible refine (zl.calls t348 2 false _ ?side1 A14.out).mono ?_); (case side1 => exact GW.below HG.out bsq); rintro e w' ⟨rfl, ⟨nd, rfl⟩⟩; have hnb16 := NB347_351.out; have hnc16 := NB351_347.out; obtain ⟨hcz17_0, hcz17_1, hcz17_2, hcz17_3, hcz17_4, hcz17_5, hcz17_6, hcz17_7, hcz17_8⟩ := zP BK347.out; obtain ⟨hfz17_0, hfz17_1, hfz17_2, hfz17_3, hfz17_4, hfz17_5, hfz17_6, hfz17_7, hfz17_8⟩ := zQ BK347.out))
     go_meet
     case rel => exact ⟨_, ((a0_1 != 0)), eq0, H', ⟨by omega⟩, ⟨by (with_reducible repeat (refine qk ?_ _)); exact BK347.out⟩, ⟨by (with_reducible repeat (refine qk ?_ _)); exact BK351.out⟩, ⟨bsq⟩⟩
  ·replace c11 := Bool.eq_false_iff.mpr c11
   subst c11
   replace H := ifF H
   by_cases c18 : (!(a0_5 == 0) || (!(a0_6 == 0) || (!(a0_7 == 0) || (!(a0_8 == 0))))) = true
   ·rw [if_pos c18] at H
    have c18b0 : (!(a0_5 == 0) || (!(a0_6 == 0) || (!(a0_7 == 0) || (!(a0_8 == 0))))) = true := c18
    clear c18
    (skip)
    have H' := zb.mk H
    clear H
    go_wp2_with (((with_reducible refine zf (f := 41) rfl ?_); refine zs (some 16) rfl rfl Tryd.func41 (by kernel_rfl) rfl #[.int .i64 t348, .int .i64 16] rfl hq ?_; (with_reducible refine (zl.calls t348 16 false _ ?side1 A10.out).mono ?_); (case side1 => exact GW.below HG.out bsq); rintro e w' ⟨rfl, ⟨nd, rfl⟩⟩; refine ⟨_, rfl, ?_⟩; have hnb19 := NB347_351.out; have hnc19 := NB351_347.out; obtain ⟨hcz20_0, hcz20_1, hcz20_2, hcz20_3, hcz20_4, hcz20_5, hcz20_6, hcz20_7, hcz20_8⟩ := zP BK347.out; obtain ⟨hfz20_0, hfz20_1, hfz20_2, hfz20_3, hfz20_4, hfz20_5, hfz20_6, hfz20_7, hfz20_8⟩ := zQ BK347.out; obtain ⟨hcz21_0, hcz21_1, hcz21_2, hcz21_3⟩ := blk_c4 BK351.out; obtain ⟨hfz21_0, hfz21_1, hfz21_2, hfz21_3⟩ := blk_f4 BK351.out))
    go_meet
    case rel => exact ⟨_, (true), eq0, H', ⟨by omega⟩, ⟨by (with_reducible repeat (refine qk ?_ _)); exact BK347.out⟩, ⟨by (with_reducible repeat (refine qk ?_ _)); exact BK351.out⟩, ⟨bsq⟩⟩
   ·rw [if_neg c18] at H
    have c18b0 : (!(a0_5 == 0) || (!(a0_6 == 0) || (!(a0_7 == 0) || (!(a0_8 == 0))))) = false := by simpa using c18
    clear c18
    (skip)
    replace H := qe H; obtain ⟨t355, A22, H⟩ := H
    by_cases c23 : t355 = true
    ·subst c23
     replace H := ifT H
     have H' := zb.mk H
     clear H
     go_wp2_with (first | ((with_reducible refine zf (f := 41) rfl ?_); refine zs (some 16) rfl rfl Tryd.func41 (by kernel_rfl) rfl #[.int .i64 t348, .int .i64 16] rfl hq ?_; (with_reducible refine (zl.calls t348 16 false _ ?side1 A10.out).mono ?_); (case side1 => exact GW.below HG.out bsq); rintro e w' ⟨rfl, ⟨nd, rfl⟩⟩; refine ⟨_, rfl, ?_⟩; have hnb24 := NB347_351.out; have hnc24 := NB351_347.out; obtain ⟨hcz25_0, hcz25_1, hcz25_2, hcz25_3, hcz25_4, hcz25_5, hcz25_6, hcz25_7, hcz25_8⟩ := zP BK347.out; obtain ⟨hfz25_0, hfz25_1, hfz25_2, hfz25_3, hfz25_4, hfz25_5, hfz25_6, hfz25_7, hfz25_8⟩ := zQ BK347.out; obtain ⟨hcz26_0, hcz26_1, hcz26_2, hcz26_3⟩ := blk_c4 BK351.out; obtain ⟨hfz26_0, hfz26_1, hfz26_2, hfz26_3⟩ := blk_f4 BK351.out) | (go_at_call 41; (with_reducible refine (zl.calls t348 1 true _ ?side1 A22.out).mono ?_); (case side1 => exact GW.below HG.out bsq); rintro e w' ⟨rfl, ⟨nd, rfl⟩⟩))
     go_meet
     case rel => exact ⟨_, (false), eq0, H', ⟨by omega⟩, ⟨by (with_reducible repeat (refine qk ?_ _)); exact BK347.out⟩, ⟨by (with_reducible repeat (refine qk ?_ _)); exact BK351.out⟩, ⟨bsq⟩⟩
    ·replace c23 := Bool.eq_false_iff.mpr c23
     subst c23
     replace H := ifF H
     replace H := qe H; obtain ⟨t356, A27, H⟩ := H
     by_cases c28 : t356 = true
     ·subst c28
      replace H := ifT H
      have H' := zb.mk H
      clear H
      go_wp2_with (first | ((with_reducible refine zf (f := 41) rfl ?_); refine zs (some 16) rfl rfl Tryd.func41 (by kernel_rfl) rfl #[.int .i64 t348, .int .i64 16] rfl hq ?_; (with_reducible refine (zl.calls t348 16 false _ ?side1 A10.out).mono ?_); (case side1 => exact GW.below HG.out bsq); rintro e w' ⟨rfl, ⟨nd, rfl⟩⟩; refine ⟨_, rfl, ?_⟩; have hnb29 := NB347_351.out; have hnc29 := NB351_347.out; obtain ⟨hcz30_0, hcz30_1, hcz30_2, hcz30_3, hcz30_4, hcz30_5, hcz30_6, hcz30_7, hcz30_8⟩ := zP BK347.out; obtain ⟨hfz30_0, hfz30_1, hfz30_2, hfz30_3, hfz30_4, hfz30_5, hfz30_6, hfz30_7, hfz30_8⟩ := zQ BK347.out; obtain ⟨hcz31_0, hcz31_1, hcz31_2, hcz31_3⟩ := blk_c4 BK351.out; obtain ⟨hfz31_0, hfz31_1, hfz31_2, hfz31_3⟩ := blk_f4 BK351.out) | (go_at_call 41; (with_reducible refine (zl.calls t348 1 false _ ?side1 A22.out).mono ?_); (case side1 => exact GW.below HG.out bsq); rintro e w' ⟨rfl, ⟨nd, rfl⟩⟩) | (go_at_call 41; (with_reducible refine (zl.calls t348 2 true _ ?side1 A27.out).mono ?_); (case side1 => exact GW.below HG.out bsq); rintro e w' ⟨rfl, ⟨nd, rfl⟩⟩))
      go_meet
      case rel => exact ⟨_, (false), eq0, H', ⟨by omega⟩, ⟨by (with_reducible repeat (refine qk ?_ _)); exact BK347.out⟩, ⟨by (with_reducible repeat (refine qk ?_ _)); exact BK351.out⟩, ⟨bsq⟩⟩
     ·replace c28 := Bool.eq_false_iff.mpr c28
      subst c28
      replace H := ifF H
      have H' := zb.mk H
      clear H
      go_wp2_with (first | ((with_reducible refine zf (f := 41) rfl ?_); refine zs (some 16) rfl rfl Tryd.func41 (by kernel_rfl) rfl #[.int .i64 t348, .int .i64 16] rfl hq ?_; (with_reducible refine (zl.calls t348 16 false _ ?side1 A10.out).mono ?_); (case side1 => exact GW.below HG.out bsq); rintro e w' ⟨rfl, ⟨nd, rfl⟩⟩; refine ⟨_, rfl, ?_⟩; have hnb32 := NB347_351.out; have hnc32 := NB351_347.out; obtain ⟨hcz33_0, hcz33_1, hcz33_2, hcz33_3, hcz33_4, hcz33_5, hcz33_6, hcz33_7, hcz33_8⟩ := zP BK347.out; obtain ⟨hfz33_0, hfz33_1, hfz33_2, hfz33_3, hfz33_4, hfz33_5, hfz33_6, hfz33_7, hfz33_8⟩ := zQ BK347.out; obtain ⟨hcz34_0, hcz34_1, hcz34_2, hcz34_3⟩ := blk_c4 BK351.out; obtain ⟨hfz34_0, hfz34_1, hfz34_2, hfz34_3⟩ := blk_f4 BK351.out) | (go_at_call 41; (with_reducible refine (zl.calls t348 1 false _ ?side1 A22.out).mono ?_); (case side1 => exact GW.below HG.out bsq); rintro e w' ⟨rfl, ⟨nd, rfl⟩⟩) | (go_at_call 41; (with_reducible refine (zl.calls t348 2 false _ ?side1 A27.out).mono ?_); (case side1 => exact GW.below HG.out bsq); rintro e w' ⟨rfl, ⟨nd, rfl⟩⟩))
      go_meet
      case rel => exact ⟨_, ((a0_1 != 0)), eq0, H', ⟨by omega⟩, ⟨by (with_reducible repeat (refine qk ?_ _)); exact BK347.out⟩, ⟨by (with_reducible repeat (refine qk ?_ _)); exact BK351.out⟩, ⟨bsq⟩⟩
 case rest =>
  clear HC3
  (try clear hcz5_0); (try clear hcz5_1); (try clear hcz5_2); (try clear hcz5_3); (try clear hcz5_4); (try clear hcz5_5); (try clear hcz5_6); (try clear hcz5_7); (try clear hcz5_8); (try clear hcz8_0); (try clear hcz8_1); (try clear hcz8_2); (try clear hcz8_3); (try clear hfz5_0); (try clear hfz5_1); (try clear hfz5_2); (try clear hfz5_3); (try clear hfz5_4); (try clear hfz5_5); (try clear hfz5_6); (try clear hfz5_7); (try clear hfz5_8); (try clear hfz8_0); (try clear hfz8_1); (try clear hfz8_2); (try clear hfz8_3)
  obtain ⟨kq, x38_2, rfl, HA, HJ2, BK347, BK351, HB⟩ := hcut
  cases kq with
  | zero => exact absurd HA.out (by simp [zn.j0])
  | succ kj2 =>
   have H := HA.out
   clear HA
   simp only [zn.j0] at H
   by_cases c35 : x38_2 = true
   ·subst c35
    replace H := ifT H
    obtain rfl := Option.some.inj H
    go_wp2
    go_ret
    exact ⟨eq1, bsq⟩
   ·replace c35 := Bool.eq_false_iff.mpr c35
    subst c35
    replace H := ifF H
    have HC36 := zb.mk H
    clear H
    go_upto_region 5 with (fail)
    go_cut [60] (fun v60 wc => ∃ (kq : Nat) (x60_35 : Bool), v60 = .bool x60_35 ∧ zb (zn.j1 kq t348 x60_35 a0_0 a0_1 a0_2 a0_3 a0_4 a0_5 a0_6 a0_7 a0_8 = some r) ∧ zb (kq ≤ kj2) ∧ zb (wc.heap[gb347]? = some (.cells #[.int .i64 a0_0, .int .i64 a0_1, .int .i64 a0_2, .int .i64 a0_3, .string a0_4, .int .u64 a0_5, .int .u64 a0_6, .int .u64 a0_7, .int .u64 a0_8] 34 (0, 0))) ∧ zb (wc.heap[gb351]? = some (.cells #[.int .u64 0, .int .u64 0, .int .u64 0, .int .u64 0] 32 (0, 0))) ∧ zb (Below w.heap.size w wc))
    case first =>
     have H := HC36.out
     clear HC36
     replace H := qe H; obtain ⟨t357, A37, H⟩ := H
     by_cases c38 : t357 = true
     ·subst c38
      replace H := ifT H
      by_cases c39 : a0_1 < 0
      ·rw [if_pos c39] at H
       have c39b0 := decide_eq_true c39
       clear c39
       (skip)
       have H' := zb.mk H
       clear H
       go_wp2_with (((with_reducible refine zf (f := 41) rfl ?_); refine zs (some 40) rfl rfl Tryd.func41 (by kernel_rfl) rfl #[.int .i64 t348, .int .i64 2] rfl hq ?_; (with_reducible refine (zl.calls t348 2 true _ ?side1 A37.out).mono ?_); (case side1 => exact GW.below HG.out bsq); rintro e w' ⟨rfl, ⟨nd, rfl⟩⟩; refine ⟨_, rfl, ?_⟩; have hnb40 := NB347_351.out; have hnc40 := NB351_347.out; obtain ⟨hcz41_0, hcz41_1, hcz41_2, hcz41_3, hcz41_4, hcz41_5, hcz41_6, hcz41_7, hcz41_8⟩ := zP BK347.out; obtain ⟨hfz41_0, hfz41_1, hfz41_2, hfz41_3, hfz41_4, hfz41_5, hfz41_6, hfz41_7, hfz41_8⟩ := zQ BK347.out))
       go_meet
       case rel => exact ⟨_, (true), eq0, H', ⟨by have := HJ2.out; omega⟩, ⟨by (with_reducible repeat (refine qk ?_ _)); exact BK347.out⟩, ⟨by (with_reducible repeat (refine qk ?_ _)); exact BK351.out⟩, ⟨bsq⟩⟩
      ·rw [if_neg c39] at H
       have c39b0 := decide_eq_false c39
       clear c39
       (skip)
       by_cases c42 : a0_1 > 255
       ·rw [if_pos c42] at H
        have c42b0 := decide_eq_true c42
        clear c42
        have H' := zb.mk H
        clear H
        go_wp2_with (((with_reducible refine zf (f := 41) rfl ?_); refine zs (some 40) rfl rfl Tryd.func41 (by kernel_rfl) rfl #[.int .i64 t348, .int .i64 2] rfl hq ?_; (with_reducible refine (zl.calls t348 2 true _ ?side1 A37.out).mono ?_); (case side1 => exact GW.below HG.out bsq); rintro e w' ⟨rfl, ⟨nd, rfl⟩⟩; refine ⟨_, rfl, ?_⟩; have hnb43 := NB347_351.out; have hnc43 := NB351_347.out; obtain ⟨hcz44_0, hcz44_1, hcz44_2, hcz44_3, hcz44_4, hcz44_5, hcz44_6, hcz44_7, hcz44_8⟩ := zP BK347.out; obtain ⟨hfz44_0, hfz44_1, hfz44_2, hfz44_3, hfz44_4, hfz44_5, hfz44_6, hfz44_7, hfz44_8⟩ := zQ BK347.out))
        go_meet
        case rel => exact ⟨_, (true), eq0, H', ⟨by have := HJ2.out; omega⟩, ⟨by (with_reducible repeat (refine qk ?_ _)); exact BK347.out⟩, ⟨by (with_reducible repeat (refine qk ?_ _)); exact BK351.out⟩, ⟨bsq⟩⟩
       ·rw [if_neg c42] at H
        have c42b0 := decide_eq_false c42
        clear c42
        by_cases c45 : a0_2 = 1
        ·rw [if_pos c45] at H
         have c45b0 := beq_iff_eq.mpr c45
         have c45b1 := bne_eq_false_iff_eq.mpr c45
         clear c45
         have H' := zb.mk H
         clear H
         go_wp2_with (((with_reducible refine zf (f := 41) rfl ?_); refine zs (some 40) rfl rfl Tryd.func41 (by kernel_rfl) rfl #[.int .i64 t348, .int .i64 2] rfl hq ?_; (with_reducible refine (zl.calls t348 2 true _ ?side1 A37.out).mono ?_); (case side1 => exact GW.below HG.out bsq); rintro e w' ⟨rfl, ⟨nd, rfl⟩⟩; refine ⟨_, rfl, ?_⟩; have hnb46 := NB347_351.out; have hnc46 := NB351_347.out; obtain ⟨hcz47_0, hcz47_1, hcz47_2, hcz47_3, hcz47_4, hcz47_5, hcz47_6, hcz47_7, hcz47_8⟩ := zP BK347.out; obtain ⟨hfz47_0, hfz47_1, hfz47_2, hfz47_3, hfz47_4, hfz47_5, hfz47_6, hfz47_7, hfz47_8⟩ := zQ BK347.out))
         go_meet
         case rel => exact ⟨_, ((a0_1 != 0)), eq0, H', ⟨by have := HJ2.out; omega⟩, ⟨by (with_reducible repeat (refine qk ?_ _)); exact BK347.out⟩, ⟨by (with_reducible repeat (refine qk ?_ _)); exact BK351.out⟩, ⟨bsq⟩⟩
        ·rw [if_neg c45] at H
         have c45b0 := beq_eq_false_iff_ne.mpr c45
         have c45b1 := bne_iff_ne.mpr c45
         have H' := zb.mk H
         clear H
         go_wp2_with (((with_reducible refine zf (f := 41) rfl ?_); refine zs (some 40) rfl rfl Tryd.func41 (by kernel_rfl) rfl #[.int .i64 t348, .int .i64 2] rfl hq ?_; (with_reducible refine (zl.calls t348 2 true _ ?side1 A37.out).mono ?_); (case side1 => exact GW.below HG.out bsq); rintro e w' ⟨rfl, ⟨nd, rfl⟩⟩; refine ⟨_, rfl, ?_⟩; have hnb48 := NB347_351.out; have hnc48 := NB351_347.out; obtain ⟨hcz49_0, hcz49_1, hcz49_2, hcz49_3, hcz49_4, hcz49_5, hcz49_6, hcz49_7, hcz49_8⟩ := zP BK347.out; obtain ⟨hfz49_0, hfz49_1, hfz49_2, hfz49_3, hfz49_4, hfz49_5, hfz49_6, hfz49_7, hfz49_8⟩ := zQ BK347.out))
         go_meet
         case rel => exact ⟨_, (false), eq0, H', ⟨by have := HJ2.out; omega⟩, ⟨by (with_reducible repeat (refine qk ?_ _)); exact BK347.out⟩, ⟨by (with_reducible repeat (refine qk ?_ _)); exact BK351.out⟩, ⟨bsq⟩⟩
     ·replace c38 := Bool.eq_false_iff.mpr c38
      subst c38
      replace H := ifF H
      have H' := zb.mk H
      clear H
      go_wp2_with (((with_reducible refine zf (f := 41) rfl ?_); refine zs (some 40) rfl rfl Tryd.func41 (by kernel_rfl) rfl #[.int .i64 t348, .int .i64 2] rfl hq ?_; (with_reducible refine (zl.calls t348 2 false _ ?side1 A37.out).mono ?_); (case side1 => exact GW.below HG.out bsq); rintro e w' ⟨rfl, ⟨nd, rfl⟩⟩; refine ⟨_, rfl, ?_⟩))
      go_meet
      case rel => exact ⟨_, (false), eq0, H', ⟨by have := HJ2.out; omega⟩, ⟨by (with_reducible repeat (refine qk ?_ _)); exact BK347.out⟩, ⟨by (with_reducible repeat (refine qk ?_ _)); exact BK351.out⟩, ⟨bsq⟩⟩
    case rest =>
     clear HC36
     obtain ⟨kq, x60_35, rfl, HA, HJ35, BK347, BK351, HB⟩ := hcut
     cases kq with
     | zero => exact absurd HA.out (by simp [zn.j1])
     | succ kj35 =>
      have H := HA.out
      clear HA
      simp only [zn.j1] at H
      by_cases c50 : x60_35 = true
      ·subst c50
       replace H := ifT H
       obtain rfl := Option.some.inj H
       go_wp2
       go_ret
       exact ⟨eq1, bsq⟩
      ·replace c50 := Bool.eq_false_iff.mpr c50
       subst c50
       replace H := ifF H
       replace H := qe H; obtain ⟨t358, A51, H⟩ := H
       by_cases c52 : t358 = true
       ·subst c52
        replace H := ifT H
        replace H := qe H; obtain ⟨t359, A53, H⟩ := H
        obtain rfl := Option.some.inj H
        go_wp2_with (first | ((with_reducible refine zf (f := 41) rfl ?_); refine zs (some 62) rfl rfl Tryd.func41 (by kernel_rfl) rfl #[.int .i64 t348, .int .i64 8] rfl hq ?_; (with_reducible refine (zl.calls t348 8 true _ ?side1 A51.out).mono ?_); (case side1 => exact GW.below HG.out bsq); rintro e w' ⟨rfl, ⟨nd, rfl⟩⟩; refine ⟨_, rfl, ?_⟩; have hnb54 := NB347_351.out; have hnc54 := NB351_347.out; obtain ⟨hcz55_0, hcz55_1, hcz55_2, hcz55_3, hcz55_4, hcz55_5, hcz55_6, hcz55_7, hcz55_8⟩ := zP BK347.out; obtain ⟨hfz55_0, hfz55_1, hfz55_2, hfz55_3, hfz55_4, hfz55_5, hfz55_6, hfz55_7, hfz55_8⟩ := zQ BK347.out) | ((with_reducible refine zf (f := 57) rfl ?_); refine zs (some 64) rfl rfl Tryd.func57 (by kernel_rfl) rfl #[.agg #[.int .i64 a0_0, .int .i64 a0_1, .int .i64 a0_2, .int .i64 a0_3, .string a0_4, .int .u64 a0_5, .int .u64 a0_6, .int .u64 a0_7, .int .u64 a0_8]] rfl hq ?_; (with_reducible refine (zv.calls kj35 a0_0 a0_1 a0_2 a0_3 a0_4 a0_5 a0_6 a0_7 a0_8 t359 _ ?side1 A53.out).mono ?_); (case side1 => exact GW.below HG.out bsq); rintro e w56 ⟨rfl, hb⟩; refine ⟨_, rfl, ?_⟩; replace BK347 := zb.mk (qj (g := gb347) (o := .cells #[.int .i64 a0_0, .int .i64 a0_1, .int .i64 a0_2, .int .i64 a0_3, .string a0_4, .int .u64 a0_5, .int .u64 a0_6, .int .u64 a0_7, .int .u64 a0_8] 34 (0, 0)) (bx BK347.out) hb); replace BK351 := zb.mk (qj (g := gb351) (o := .cells #[.int .u64 0, .int .u64 0, .int .u64 0, .int .u64 0] 32 (0, 0)) (bx BK351.out) hb); replace HB := zb.mk (zJ bsq hb); (try clear hb)))
        go_ret
        exact ⟨eq1, bsq⟩
       ·replace c52 := Bool.eq_false_iff.mpr c52
        subst c52
        replace H := ifF H
        by_cases c57 : a0_3 = 0
        ·rw [if_pos c57] at H
         have c57b0 := beq_iff_eq.mpr c57
         have c57b1 := bne_eq_false_iff_eq.mpr c57
         clear c57
         by_cases c58 : a0_4.toList = ([] : List UInt8)
         ·rw [if_pos c58] at H
          have c58b0 := beq_iff_eq.mpr c58
          have c58b1 := bne_eq_false_iff_eq.mpr c58
          clear c58
          replace H := qe H; obtain ⟨t360, A59, H⟩ := H
          by_cases c60 : t360 = true
          ·subst c60
           replace H := ifT H
           by_cases c61 : a0_2 ≥ 0
           ·rw [if_pos c61] at H
            have c61b0 := decide_eq_true c61
            clear c61
            by_cases c62 : a0_2 ≤ 255
            ·rw [if_pos c62] at H
             have c62b0 := decide_eq_true c62
             clear c62
             obtain rfl := Option.some.inj H
             go_wp2_with (first | ((with_reducible refine zf (f := 41) rfl ?_); refine zs (some 62) rfl rfl Tryd.func41 (by kernel_rfl) rfl #[.int .i64 t348, .int .i64 8] rfl hq ?_; (with_reducible refine (zl.calls t348 8 false _ ?side1 A51.out).mono ?_); (case side1 => exact GW.below HG.out bsq); rintro e w' ⟨rfl, ⟨nd, rfl⟩⟩; refine ⟨_, rfl, ?_⟩; have hnb63 := NB347_351.out; have hnc63 := NB351_347.out; obtain ⟨hcz64_0, hcz64_1, hcz64_2, hcz64_3, hcz64_4, hcz64_5, hcz64_6, hcz64_7, hcz64_8⟩ := zP BK347.out; obtain ⟨hfz64_0, hfz64_1, hfz64_2, hfz64_3, hfz64_4, hfz64_5, hfz64_6, hfz64_7, hfz64_8⟩ := zQ BK347.out) | (go_at_call 41; (with_reducible refine (zl.calls t348 4 true _ ?side1 A59.out).mono ?_); (case side1 => exact GW.below HG.out bsq); rintro e w' ⟨rfl, ⟨nd, rfl⟩⟩))
             go_ret
             exact ⟨eq1, bsq⟩
            ·rw [if_neg c62] at H
             have c62b0 := decide_eq_false c62
             clear c62
             obtain rfl := Option.some.inj H
             go_wp2_with (first | ((with_reducible refine zf (f := 41) rfl ?_); refine zs (some 62) rfl rfl Tryd.func41 (by kernel_rfl) rfl #[.int .i64 t348, .int .i64 8] rfl hq ?_; (with_reducible refine (zl.calls t348 8 false _ ?side1 A51.out).mono ?_); (case side1 => exact GW.below HG.out bsq); rintro e w' ⟨rfl, ⟨nd, rfl⟩⟩; refine ⟨_, rfl, ?_⟩; have hnb65 := NB347_351.out; have hnc65 := NB351_347.out; obtain ⟨hcz66_0, hcz66_1, hcz66_2, hcz66_3, hcz66_4, hcz66_5, hcz66_6, hcz66_7, hcz66_8⟩ := zP BK347.out; obtain ⟨hfz66_0, hfz66_1, hfz66_2, hfz66_3, hfz66_4, hfz66_5, hfz66_6, hfz66_7, hfz66_8⟩ := zQ BK347.out) | (go_at_call 41; (with_reducible refine (zl.calls t348 4 true _ ?side1 A59.out).mono ?_); (case side1 => exact GW.below HG.out bsq); rintro e w' ⟨rfl, ⟨nd, rfl⟩⟩))
             go_ret
             exact ⟨eq1, bsq⟩
           ·rw [if_neg c61] at H
            have c61b0 := decide_eq_false c61
            clear c61
            obtain rfl := Option.some.inj H
            go_wp2_with (first | ((with_reducible refine zf (f := 41) rfl ?_); refine zs (some 62) rfl rfl Tryd.func41 (by kernel_rfl) rfl #[.int .i64 t348, .int .i64 8] rfl hq ?_; (with_reducible refine (zl.calls t348 8 false _ ?side1 A51.out).mono ?_); (case side1 => exact GW.below HG.out bsq); rintro e w' ⟨rfl, ⟨nd, rfl⟩⟩; refine ⟨_, rfl, ?_⟩; have hnb67 := NB347_351.out; have hnc67 := NB351_347.out; obtain ⟨hcz68_0, hcz68_1, hcz68_2, hcz68_3, hcz68_4, hcz68_5, hcz68_6, hcz68_7, hcz68_8⟩ := zP BK347.out; obtain ⟨hfz68_0, hfz68_1, hfz68_2, hfz68_3, hfz68_4, hfz68_5, hfz68_6, hfz68_7, hfz68_8⟩ := zQ BK347.out) | (go_at_call 41; (with_reducible refine (zl.calls t348 4 true _ ?side1 A59.out).mono ?_); (case side1 => exact GW.below HG.out bsq); rintro e w' ⟨rfl, ⟨nd, rfl⟩⟩))
            go_ret
            exact ⟨eq1, bsq⟩
          ·replace c60 := Bool.eq_false_iff.mpr c60
           subst c60
           replace H := ifF H
           obtain rfl := Option.some.inj H
           go_wp2_with (first | ((with_reducible refine zf (f := 41) rfl ?_); refine zs (some 62) rfl rfl Tryd.func41 (by kernel_rfl) rfl #[.int .i64 t348, .int .i64 8] rfl hq ?_; (with_reducible refine (zl.calls t348 8 false _ ?side1 A51.out).mono ?_); (case side1 => exact GW.below HG.out bsq); rintro e w' ⟨rfl, ⟨nd, rfl⟩⟩; refine ⟨_, rfl, ?_⟩; have hnb69 := NB347_351.out; have hnc69 := NB351_347.out; obtain ⟨hcz70_0, hcz70_1, hcz70_2, hcz70_3, hcz70_4, hcz70_5, hcz70_6, hcz70_7, hcz70_8⟩ := zP BK347.out; obtain ⟨hfz70_0, hfz70_1, hfz70_2, hfz70_3, hfz70_4, hfz70_5, hfz70_6, hfz70_7, hfz70_8⟩ := zQ BK347.out) | (go_at_call 41; (with_reducible refine (zl.calls t348 4 false _ ?side1 A59.out).mono ?_); (case side1 => exact GW.below HG.out bsq); rintro e w' ⟨rfl, ⟨nd, rfl⟩⟩))
           go_ret
           exact ⟨eq1, bsq⟩
         ·rw [if_neg c58] at H
          have c58b0 := beq_eq_false_iff_ne.mpr c58
          have c58b1 := bne_iff_ne.mpr c58
          obtain rfl := Option.some.inj H
          go_wp2_with (((with_reducible refine zf (f := 41) rfl ?_); refine zs (some 62) rfl rfl Tryd.func41 (by kernel_rfl) rfl #[.int .i64 t348, .int .i64 8] rfl hq ?_; (with_reducible refine (zl.calls t348 8 false _ ?side1 A51.out).mono ?_); (case side1 => exact GW.below HG.out bsq); rintro e w' ⟨rfl, ⟨nd, rfl⟩⟩; refine ⟨_, rfl, ?_⟩; have hnb71 := NB347_351.out; have hnc71 := NB351_347.out; obtain ⟨hcz72_0, hcz72_1, hcz72_2, hcz72_3, hcz72_4, hcz72_5, hcz72_6, hcz72_7, hcz72_8⟩ := zP BK347.out; obtain ⟨hfz72_0, hfz72_1, hfz72_2, hfz72_3, hfz72_4, hfz72_5, hfz72_6, hfz72_7, hfz72_8⟩ := zQ BK347.out))
          go_ret
          exact ⟨eq1, bsq⟩
        ·rw [if_neg c57] at H
         have c57b0 := beq_eq_false_iff_ne.mpr c57
         have c57b1 := bne_iff_ne.mpr c57
         obtain rfl := Option.some.inj H
         go_wp2_with (((with_reducible refine zf (f := 41) rfl ?_); refine zs (some 62) rfl rfl Tryd.func41 (by kernel_rfl) rfl #[.int .i64 t348, .int .i64 8] rfl hq ?_; (with_reducible refine (zl.calls t348 8 false _ ?side1 A51.out).mono ?_); (case side1 => exact GW.below HG.out bsq); rintro e w' ⟨rfl, ⟨nd, rfl⟩⟩; refine ⟨_, rfl, ?_⟩; have hnb73 := NB347_351.out; have hnc73 := NB351_347.out; obtain ⟨hcz74_0, hcz74_1, hcz74_2, hcz74_3, hcz74_4, hcz74_5, hcz74_6, hcz74_7, hcz74_8⟩ := zP BK347.out; obtain ⟨hfz74_0, hfz74_1, hfz74_2, hfz74_3, hfz74_4, hfz74_5, hfz74_6, hfz74_7, hfz74_8⟩ := zQ BK347.out))
         go_ret
         exact ⟨eq1, bsq⟩
end Go.Proofs.YtnpeabmlcakegaaDoor.PAll
namespace Go.Proofs.YtnpeabmlcakegaaDoor.PAll
open Go.RowKit Go.Proofs.YtnpeabmlcakegaaDoorW.PrintWords Go.Proofs.YtnpeabmlcakegaaDoorW.PrintLast Go.Proofs.YtnpeabmlcakegaaDoorW.PrintMore
attribute [local go_sem] zR zY z4 qH qF qN qO qv qu qE qG
set_option linter.unusedVariables false
set_option linter.unusedSimpArgs false
def zw.l0 : Nat → List (S34) → Int → Option (Int × Int)
 | 0, _, _ => none
 | k + 1, x0, x4 => if x4 < (x0.length : Int) then (if 0 ≤ x4 then ((zK.f ((za x0 x4).f0)).bind fun bt366 => (if bt366.2.1.toList = ([] : List UInt8) then (some (x4, 160)) else ((zn.f k ((za x0 x4).f0) ((za x0 x4).f1) ((za x0 x4).f2) ((za x0 x4).f3) ((za x0 x4).f4) ((za x0 x4).f5.f0) ((za x0 x4).f5.f1) ((za x0 x4).f5.f2) ((za x0 x4).f5.f3)).bind fun t370 => (if t370 = true then ((zN.f ((za x0 x4).f0)).bind fun t372 => (if t372 = true then (if ((za x0 x4).f1) < (wrap64 (-x4)) then (some (x4, 162)) else (if ((za x0 x4).f1) ≥ (wrap64 ((x0.length : Int) - x4)) then (some (x4, 162)) else (zw.l0 k x0 (wrap64 (x4 + 1))))) else (zw.l0 k x0 (wrap64 (x4 + 1))))) else (some (x4, 161)))))) else (none)) else (if 0 ≤ (wrap64 ((x0.length : Int) - 1)) then (if (wrap64 ((x0.length : Int) - 1)) < (x0.length : Int) then ((zK.f ((za x0 (wrap64 ((x0.length : Int) - 1))).f0)).bind fun bt362 => (if bt362.2.2 = true then (some (wrap64 ((x0.length : Int) - 1), 163)) else (some (0, 0)))) else (none)) else (none))
def zw.f (k : Nat) (l0 : List (S34)) : Option (Int × Int) := if (l0.length : Int) > 8192 then (some (0, 2)) else (if (l0.length : Int) = 0 then (some (0, 3)) else (zw.l0 k l0 0))
theorem zw.calls (k : Nat) (A0 : Option Addr) (c0 : Nat) (l0 : List (S34)) (r1 r2 : Int) (w : World) (hG : GW w) (hr0 : Kd.C k34 w A0 l0.length l0) (hc0 : l0.length ≤ c0) (h : zw.f k l0 = some (r1, r2)) :
  Calls Tryd.prog 18 #[.slice A0 l0.length c0] w fun e w' => e = .returned (.tuple #[.int .i64 r1, .int .i64 r2]) ∧ Below w.heap.size w w' := by
 have hu34 := Tryd.underlying34
 have HR0 := zb.mk hr0
 have HC0 := zb.mk hc0
 clear hr0 hc0
 have HG := zb.mk hG
 clear hG
 have HB := zb.mk (Below.refl w.heap.size w)
 have H : (if (l0.length : Int) > 8192 then (some (0, 2)) else (if (l0.length : Int) = 0 then (some (0, 3)) else (zw.l0 k l0 0))) = some (r1, r2) := h
 clear h
 by_cases c2 : (l0.length : Int) > 8192
 ·rw [if_pos c2] at H
  have c2b0 := decide_eq_true c2
  have c2b1 : decide (8192 < l0.length) = true := decide_eq_true (by omega)
  clear c2
  simp only [Option.some.injEq, Prod.mk.injEq] at H
  obtain ⟨rfl, rfl⟩ := H
  go_enter Tryd.func18, Tryd.ntmps18
  go_wp2
  go_ret2
  exact ⟨eq1, bl HB.out⟩
 ·rw [if_neg c2] at H
  have c2b0 := decide_eq_false c2
  have c2b1 : decide (8192 < l0.length) = false := decide_eq_false (by omega)
  clear c2
  by_cases c3 : (l0.length : Int) = 0
  ·rw [if_pos c3] at H
   have c3b0 := beq_iff_eq.mpr c3
   have c3b1 := bne_eq_false_iff_eq.mpr c3
   clear c3
   simp only [Option.some.injEq, Prod.mk.injEq] at H
   obtain ⟨rfl, rfl⟩ := H
   go_enter Tryd.func18, Tryd.ntmps18
   go_wp2
   go_ret2
   exact ⟨eq1, bl HB.out⟩
  ·rw [if_neg c3] at H
   have c3b0 := beq_eq_false_iff_ne.mpr c3
   have c3b1 := bne_iff_ne.mpr c3
   have c3b2 : ¬ (l0 = []) := fun h_ => c3 (by rw [h_]; rfl)
   have H' := zb.mk H
   clear H
   go_enter Tryd.func18, Tryd.ntmps18
   go_wp2
   go_loopg [4] k (fun kq v4 w' => ∃ (x4_1 : Int), v4 = .int .i64 x4_1 ∧ zb (zw.l0 kq l0 x4_1 = some (r1, r2)) ∧ zb (kq ≤ k) ∧ zb (Below w.heap.size w w'))
   case atStart => exact ⟨(0), eq0, H', ⟨Nat.le_refl _⟩, ⟨bl HB.out⟩⟩
   case round =>
    clear H'
    (try clear c2b0); (try clear c2b1); (try clear c3); (try clear c3b0); (try clear c3b1); (try clear c3b2)
    obtain ⟨x4_1, rfl, HA, HK1, HB⟩ := hrel
    cases gk with
    | zero => exact absurd HA.out (by simp [zw.l0])
    | succ k1 =>
     have H := HA.out
     clear HA
     simp only [zw.l0] at H
     by_cases c4 : x4_1 < (l0.length : Int)
     ·rw [if_pos c4] at H
      have c4b0 := decide_eq_true c4
      clear c4
      replace H := qm H; obtain ⟨c5, H⟩ := H
      have c5b0 := decide_eq_true c5
      clear c5
      replace H := qe H; obtain ⟨⟨t366, t367, t368⟩, A6, H⟩ := H; try dsimp only at H
      by_cases c7 : t367.toList = ([] : List UInt8)
      ·rw [if_pos c7] at H
       have c7b0 := beq_iff_eq.mpr c7
       have c7b1 := bne_eq_false_iff_eq.mpr c7
       clear c7
       simp only [Option.some.injEq, Prod.mk.injEq] at H
       obtain ⟨rfl, rfl⟩ := H
       have p365 : 0 ≤ (x4_1 : Int) := dq
       have q365 : x4_1 < (l0.length : Int) := dq
       obtain ⟨ad365, e365, hx365_0, hx365_1, hx365_2, hx365_3, hx365_4, hx365_5, hx365_6, hx365_7, hx365_8⟩ := z3 HR0.out x4_1 p365 q365
       cases e365
       replace hx365_0 := cb HB.out hx365_0
       replace hx365_1 := cb HB.out hx365_1
       replace hx365_2 := cb HB.out hx365_2
       replace hx365_3 := cb HB.out hx365_3
       replace hx365_4 := cb HB.out hx365_4
       replace hx365_5 := cb HB.out hx365_5
       replace hx365_6 := cb HB.out hx365_6
       replace hx365_7 := cb HB.out hx365_7
       replace hx365_8 := cb HB.out hx365_8
       replace p365 := eq_true p365
       replace q365 := eq_true q365
       go_wp2_with (((with_reducible refine zf (f := 39) rfl ?_); refine zs (some 29) rfl rfl Tryd.func39 (by kernel_rfl) rfl #[.int .i64 ((za l0 x4_1).f0)] rfl hq ?_; (with_reducible refine (zK.calls ((za l0 x4_1).f0) t366 t367 t368 _ ?side1 A6.out).mono ?_); (case side1 => exact gb HG HB); rintro e w' ⟨rfl, ⟨nd, rfl⟩⟩; refine ⟨_, rfl, ?_⟩))
       go_ret2
       exact ⟨eq1, bl HB.out⟩
      ·rw [if_neg c7] at H
       have c7b0 := beq_eq_false_iff_ne.mpr c7
       have c7b1 := bne_iff_ne.mpr c7
       replace H := qe H; obtain ⟨t370, A8, H⟩ := H
       by_cases c9 : t370 = true
       ·subst c9
        replace H := ifT H
        replace H := qe H; obtain ⟨t372, A10, H⟩ := H
        by_cases c11 : t372 = true
        ·subst c11
         replace H := ifT H
         by_cases c12 : ((za l0 x4_1).f1) < (wrap64 (-x4_1))
         ·rw [if_pos c12] at H
          have c12b0 := decide_eq_true c12
          clear c12
          simp only [Option.some.injEq, Prod.mk.injEq] at H
          obtain ⟨rfl, rfl⟩ := H
          have p365 : 0 ≤ (x4_1 : Int) := dq
          have q365 : x4_1 < (l0.length : Int) := dq
          obtain ⟨ad365, e365, hx365_0, hx365_1, hx365_2, hx365_3, hx365_4, hx365_5, hx365_6, hx365_7, hx365_8⟩ := z3 HR0.out x4_1 p365 q365
          cases e365
          replace hx365_0 := cb HB.out hx365_0
          replace hx365_1 := cb HB.out hx365_1
          replace hx365_2 := cb HB.out hx365_2
          replace hx365_3 := cb HB.out hx365_3
          replace hx365_4 := cb HB.out hx365_4
          replace hx365_5 := cb HB.out hx365_5
          replace hx365_6 := cb HB.out hx365_6
          replace hx365_7 := cb HB.out hx365_7
          replace hx365_8 := cb HB.out hx365_8
          replace p365 := eq_true p365
          replace q365 := eq_true q365
          go_wp2_with (first | ((with_reducible refine zf (f := 39) rfl ?_); refine zs (some 29) rfl rfl Tryd.func39 (by kernel_rfl) rfl #[.int .i64 ((za l0 x4_1).f0)] rfl hq ?_; (with_reducible refine (zK.calls ((za l0 x4_1).f0) t366 t367 t368 _ ?side1 A6.out).mono ?_); (case side1 => exact gb HG HB); rintro e w' ⟨rfl, ⟨nd, rfl⟩⟩; refine ⟨_, rfl, ?_⟩; have p369 : 0 ≤ (x4_1 : Int) := dq; have q369 : x4_1 < (l0.length : Int) := dq; obtain ⟨ad369, e369, hx369_0, hx369_1, hx369_2, hx369_3, hx369_4, hx369_5, hx369_6, hx369_7, hx369_8⟩ := z3 (Kd.qq HR0.out HB.out) x4_1 p369 q369; obtain rfl : ad365 = ad369 := (by injection e369); replace p369 := eq_true p369; replace q369 := eq_true q369) | ((with_reducible refine zf (f := 40) rfl ?_); refine zs (some 40) rfl rfl Tryd.func40 (by kernel_rfl) rfl #[.agg #[.int .i64 ((za l0 x4_1).f0), .int .i64 ((za l0 x4_1).f1), .int .i64 ((za l0 x4_1).f2), .int .i64 ((za l0 x4_1).f3), .string ((za l0 x4_1).f4), .int .u64 ((za l0 x4_1).f5.f0), .int .u64 ((za l0 x4_1).f5.f1), .int .u64 ((za l0 x4_1).f5.f2), .int .u64 ((za l0 x4_1).f5.f3)]] rfl hq ?_; (with_reducible refine (zn.calls k1 ((za l0 x4_1).f0) ((za l0 x4_1).f1) ((za l0 x4_1).f2) ((za l0 x4_1).f3) ((za l0 x4_1).f4) ((za l0 x4_1).f5.f0) ((za l0 x4_1).f5.f1) ((za l0 x4_1).f5.f2) ((za l0 x4_1).f5.f3) true _ ?side1 A8.out).mono ?_); (case side1 => exact gb HG HB); rintro e w13 ⟨rfl, hb⟩; refine ⟨_, rfl, ?_⟩; replace HB := bst HB hb; (try clear hb); have p371 : 0 ≤ (x4_1 : Int) := dq; have q371 : x4_1 < (l0.length : Int) := dq; obtain ⟨ad371, e371, hx371_0, hx371_1, hx371_2, hx371_3, hx371_4, hx371_5, hx371_6, hx371_7, hx371_8⟩ := z3 (Kd.qq HR0.out HB.out) x4_1 p371 q371; obtain rfl : ad365 = ad371 := (by injection e371); replace p371 := eq_true p371; replace q371 := eq_true q371) | ((with_reducible refine zf (f := 19) rfl ?_); refine zs (some 48) rfl rfl Tryd.func19 (by kernel_rfl) rfl #[.int .i64 ((za l0 x4_1).f0)] rfl hq ?_; (with_reducible refine (zN.calls ((za l0 x4_1).f0) true _ ?side1 A10.out).mono ?_); (case side1 => exact gb HG HB); rintro e w' ⟨rfl, ⟨nd, rfl⟩⟩; refine ⟨_, rfl, ?_⟩; have p373 : 0 ≤ (x4_1 : Int) := dq; have q373 : x4_1 < (l0.length : Int) := dq; obtain ⟨ad373, e373, hx373_0, hx373_1, hx373_2, hx373_3, hx373_4, hx373_5, hx373_6, hx373_7, hx373_8⟩ := z3 (Kd.qq HR0.out HB.out) x4_1 p373 q373; obtain rfl : ad365 = ad373 := (by injection e373); replace p373 := eq_true p373; replace q373 := eq_true q373))
          go_ret2
          exact ⟨eq1, bl HB.out⟩
         ·rw [if_neg c12] at H
          have c12b0 := decide_eq_false c12
          clear c12
          by_cases c14 : ((za l0 x4_1).f1) ≥ (wrap64 ((l0.length : Int) - x4_1))
          ·rw [if_pos c14] at H
           have c14b0 := decide_eq_true c14
           clear c14
           simp only [Option.some.injEq, Prod.mk.injEq] at H
           obtain ⟨rfl, rfl⟩ := H
           have p365 : 0 ≤ (x4_1 : Int) := dq
           have q365 : x4_1 < (l0.length : Int) := dq
           obtain ⟨ad365, e365, hx365_0, hx365_1, hx365_2, hx365_3, hx365_4, hx365_5, hx365_6, hx365_7, hx365_8⟩ := z3 HR0.out x4_1 p365 q365
           cases e365
           replace hx365_0 := cb HB.out hx365_0
           replace hx365_1 := cb HB.out hx365_1
           replace hx365_2 := cb HB.out hx365_2
           replace hx365_3 := cb HB.out hx365_3
           replace hx365_4 := cb HB.out hx365_4
           replace hx365_5 := cb HB.out hx365_5
           replace hx365_6 := cb HB.out hx365_6
           replace hx365_7 := cb HB.out hx365_7
           replace hx365_8 := cb HB.out hx365_8
           replace p365 := eq_true p365
           replace q365 := eq_true q365
           go_wp2_with (first | ((with_reducible refine zf (f := 39) rfl ?_); refine zs (some 29) rfl rfl Tryd.func39 (by kernel_rfl) rfl #[.int .i64 ((za l0 x4_1).f0)] rfl hq ?_; (with_reducible refine (zK.calls ((za l0 x4_1).f0) t366 t367 t368 _ ?side1 A6.out).mono ?_); (case side1 => exact gb HG HB); rintro e w' ⟨rfl, ⟨nd, rfl⟩⟩; refine ⟨_, rfl, ?_⟩; have p369 : 0 ≤ (x4_1 : Int) := dq; have q369 : x4_1 < (l0.length : Int) := dq; obtain ⟨ad369, e369, hx369_0, hx369_1, hx369_2, hx369_3, hx369_4, hx369_5, hx369_6, hx369_7, hx369_8⟩ := z3 (Kd.qq HR0.out HB.out) x4_1 p369 q369; obtain rfl : ad365 = ad369 := (by injection e369); replace p369 := eq_true p369; replace q369 := eq_true q369) | ((with_reducible refine zf (f := 40) rfl ?_); refine zs (some 40) rfl rfl Tryd.func40 (by kernel_rfl) rfl #[.agg #[.int .i64 ((za l0 x4_1).f0), .int .i64 ((za l0 x4_1).f1), .int .i64 ((za l0 x4_1).f2), .int .i64 ((za l0 x4_1).f3), .string ((za l0 x4_1).f4), .int .u64 ((za l0 x4_1).f5.f0), .int .u64 ((za l0 x4_1).f5.f1), .int .u64 ((za l0 x4_1).f5.f2), .int .u64 ((za l0 x4_1).f5.f3)]] rfl hq ?_; (with_reducible refine (zn.calls k1 ((za l0 x4_1).f0) ((za l0 x4_1).f1) ((za l0 x4_1).f2) ((za l0 x4_1).f3) ((za l0 x4_1).f4) ((za l0 x4_1).f5.f0) ((za l0 x4_1).f5.f1) ((za l0 x4_1).f5.f2) ((za l0 x4_1).f5.f3) true _ ?side1 A8.out).mono ?_); (case side1 => exact gb HG HB); rintro e w15 ⟨rfl, hb⟩; refine ⟨_, rfl, ?_⟩; replace HB := bst HB hb; (try clear hb); have p371 : 0 ≤ (x4_1 : Int) := dq; have q371 : x4_1 < (l0.length : Int) := dq; obtain ⟨ad371, e371, hx371_0, hx371_1, hx371_2, hx371_3, hx371_4, hx371_5, hx371_6, hx371_7, hx371_8⟩ := z3 (Kd.qq HR0.out HB.out) x4_1 p371 q371; obtain rfl : ad365 = ad371 := (by injection e371); replace p371 := eq_true p371; replace q371 := eq_true q371) | ((with_reducible refine zf (f := 19) rfl ?_); refine zs (some 48) rfl rfl Tryd.func19 (by kernel_rfl) rfl #[.int .i64 ((za l0 x4_1).f0)] rfl hq ?_; (with_reducible refine (zN.calls ((za l0 x4_1).f0) true _ ?side1 A10.out).mono ?_); (case side1 => exact gb HG HB); rintro e w' ⟨rfl, ⟨nd, rfl⟩⟩; refine ⟨_, rfl, ?_⟩; have p373 : 0 ≤ (x4_1 : Int) := dq; have q373 : x4_1 < (l0.length : Int) := dq; obtain ⟨ad373, e373, hx373_0, hx373_1, hx373_2, hx373_3, hx373_4, hx373_5, hx373_6, hx373_7, hx373_8⟩ := z3 (Kd.qq HR0.out HB.out) x4_1 p373 q373; obtain rfl : ad365 = ad373 := (by injection e373); replace p373 := eq_true p373; replace q373 := eq_true q373; have p374 : 0 ≤ (x4_1 : Int) := dq; have q374 : x4_1 < (l0.length : Int) := dq; obtain ⟨ad374, e374, hx374_0, hx374_1, hx374_2, hx374_3, hx374_4, hx374_5, hx374_6, hx374_7, hx374_8⟩ := z3 (Kd.qq HR0.out HB.out) x4_1 p374 q374; obtain rfl : ad365 = ad374 := (by injection e374); replace p374 := eq_true p374; replace q374 := eq_true q374))
           go_ret2
           exact ⟨eq1, bl HB.out⟩
          ·rw [if_neg c14] at H
           have c14b0 := decide_eq_false c14
           clear c14
           have H' := zb.mk H
           clear H
           have p365 : 0 ≤ (x4_1 : Int) := dq
           have q365 : x4_1 < (l0.length : Int) := dq
           obtain ⟨ad365, e365, hx365_0, hx365_1, hx365_2, hx365_3, hx365_4, hx365_5, hx365_6, hx365_7, hx365_8⟩ := z3 HR0.out x4_1 p365 q365
           cases e365
           replace hx365_0 := cb HB.out hx365_0
           replace hx365_1 := cb HB.out hx365_1
           replace hx365_2 := cb HB.out hx365_2
           replace hx365_3 := cb HB.out hx365_3
           replace hx365_4 := cb HB.out hx365_4
           replace hx365_5 := cb HB.out hx365_5
           replace hx365_6 := cb HB.out hx365_6
           replace hx365_7 := cb HB.out hx365_7
           replace hx365_8 := cb HB.out hx365_8
           replace p365 := eq_true p365
           replace q365 := eq_true q365
           go_wp2_with (first | ((with_reducible refine zf (f := 39) rfl ?_); refine zs (some 29) rfl rfl Tryd.func39 (by kernel_rfl) rfl #[.int .i64 ((za l0 x4_1).f0)] rfl hq ?_; (with_reducible refine (zK.calls ((za l0 x4_1).f0) t366 t367 t368 _ ?side1 A6.out).mono ?_); (case side1 => exact gb HG HB); rintro e w' ⟨rfl, ⟨nd, rfl⟩⟩; refine ⟨_, rfl, ?_⟩; have p369 : 0 ≤ (x4_1 : Int) := dq; have q369 : x4_1 < (l0.length : Int) := dq; obtain ⟨ad369, e369, hx369_0, hx369_1, hx369_2, hx369_3, hx369_4, hx369_5, hx369_6, hx369_7, hx369_8⟩ := z3 (Kd.qq HR0.out HB.out) x4_1 p369 q369; obtain rfl : ad365 = ad369 := (by injection e369); replace p369 := eq_true p369; replace q369 := eq_true q369) | ((with_reducible refine zf (f := 40) rfl ?_); refine zs (some 40) rfl rfl Tryd.func40 (by kernel_rfl) rfl #[.agg #[.int .i64 ((za l0 x4_1).f0), .int .i64 ((za l0 x4_1).f1), .int .i64 ((za l0 x4_1).f2), .int .i64 ((za l0 x4_1).f3), .string ((za l0 x4_1).f4), .int .u64 ((za l0 x4_1).f5.f0), .int .u64 ((za l0 x4_1).f5.f1), .int .u64 ((za l0 x4_1).f5.f2), .int .u64 ((za l0 x4_1).f5.f3)]] rfl hq ?_; (with_reducible refine (zn.calls k1 ((za l0 x4_1).f0) ((za l0 x4_1).f1) ((za l0 x4_1).f2) ((za l0 x4_1).f3) ((za l0 x4_1).f4) ((za l0 x4_1).f5.f0) ((za l0 x4_1).f5.f1) ((za l0 x4_1).f5.f2) ((za l0 x4_1).f5.f3) true _ ?side1 A8.out).mono ?_); (case side1 => exact gb HG HB); rintro e w16 ⟨rfl, hb⟩; refine ⟨_, rfl, ?_⟩; replace HB := bst HB hb; (try clear hb); have p371 : 0 ≤ (x4_1 : Int) := dq; have q371 : x4_1 < (l0.length : Int) := dq; obtain ⟨ad371, e371, hx371_0, hx371_1, hx371_2, hx371_3, hx371_4, hx371_5, hx371_6, hx371_7, hx371_8⟩ := z3 (Kd.qq HR0.out HB.out) x4_1 p371 q371; obtain rfl : ad365 = ad371 := (by injection e371); replace p371 := eq_true p371; replace q371 := eq_true q371) | ((with_reducible refine zf (f := 19) rfl ?_); refine zs (some 48) rfl rfl Tryd.func19 (by kernel_rfl) rfl #[.int .i64 ((za l0 x4_1).f0)] rfl hq ?_; (with_reducible refine (zN.calls ((za l0 x4_1).f0) true _ ?side1 A10.out).mono ?_); (case side1 => exact gb HG HB); rintro e w' ⟨rfl, ⟨nd, rfl⟩⟩; refine ⟨_, rfl, ?_⟩; have p373 : 0 ≤ (x4_1 : Int) := dq; have q373 : x4_1 < (l0.length : Int) := dq; obtain ⟨ad373, e373, hx373_0, hx373_1, hx373_2, hx373_3, hx373_4, hx373_5, hx373_6, hx373_7, hx373_8⟩ := z3 (Kd.qq HR0.out HB.out) x4_1 p373 q373; obtain rfl : ad365 = ad373 := (by injection e373); replace p373 := eq_true p373; replace q373 := eq_true q373; have p374 : 0 ≤ (x4_1 : Int) := dq; have q374 : x4_1 < (l0.length : Int) := dq; obtain ⟨ad374, e374, hx374_0, hx374_1, hx374_2, hx374_3, hx374_4, hx374_5, hx374_6, hx374_7, hx374_8⟩ := z3 (Kd.qq HR0.out HB.out) x4_1 p374 q374; obtain rfl : ad365 = ad374 := (by injection e374); replace p374 := eq_true p374; replace q374 := eq_true q374))
           go_roundg k1
           case measure => have := HK1.out; omega
           case rel => exact ⟨(wrap64 (x4_1 + 1)), eq0, H', ⟨by have := HK1.out; omega⟩, ⟨bl HB.out⟩⟩
        ·replace c11 := Bool.eq_false_iff.mpr c11
         subst c11
         replace H := ifF H
         have H' := zb.mk H
         clear H
         have p365 : 0 ≤ (x4_1 : Int) := dq
         have q365 : x4_1 < (l0.length : Int) := dq
         obtain ⟨ad365, e365, hx365_0, hx365_1, hx365_2, hx365_3, hx365_4, hx365_5, hx365_6, hx365_7, hx365_8⟩ := z3 HR0.out x4_1 p365 q365
         cases e365
         replace hx365_0 := cb HB.out hx365_0
         replace hx365_1 := cb HB.out hx365_1
         replace hx365_2 := cb HB.out hx365_2
         replace hx365_3 := cb HB.out hx365_3
         replace hx365_4 := cb HB.out hx365_4
         replace hx365_5 := cb HB.out hx365_5
         replace hx365_6 := cb HB.out hx365_6
         replace hx365_7 := cb HB.out hx365_7
         replace hx365_8 := cb HB.out hx365_8
         replace p365 := eq_true p365
         replace q365 := eq_true q365
         go_wp2_with (first | ((with_reducible refine zf (f := 39) rfl ?_); refine zs (some 29) rfl rfl Tryd.func39 (by kernel_rfl) rfl #[.int .i64 ((za l0 x4_1).f0)] rfl hq ?_; (with_reducible refine (zK.calls ((za l0 x4_1).f0) t366 t367 t368 _ ?side1 A6.out).mono ?_); (case side1 => exact gb HG HB); rintro e w' ⟨rfl, ⟨nd, rfl⟩⟩; refine ⟨_, rfl, ?_⟩; have p369 : 0 ≤ (x4_1 : Int) := dq; have q369 : x4_1 < (l0.length : Int) := dq; obtain ⟨ad369, e369, hx369_0, hx369_1, hx369_2, hx369_3, hx369_4, hx369_5, hx369_6, hx369_7, hx369_8⟩ := z3 (Kd.qq HR0.out HB.out) x4_1 p369 q369; obtain rfl : ad365 = ad369 := (by injection e369); replace p369 := eq_true p369; replace q369 := eq_true q369) | ((with_reducible refine zf (f := 40) rfl ?_); refine zs (some 40) rfl rfl Tryd.func40 (by kernel_rfl) rfl #[.agg #[.int .i64 ((za l0 x4_1).f0), .int .i64 ((za l0 x4_1).f1), .int .i64 ((za l0 x4_1).f2), .int .i64 ((za l0 x4_1).f3), .string ((za l0 x4_1).f4), .int .u64 ((za l0 x4_1).f5.f0), .int .u64 ((za l0 x4_1).f5.f1), .int .u64 ((za l0 x4_1).f5.f2), .int .u64 ((za l0 x4_1).f5.f3)]] rfl hq ?_; (with_reducible refine (zn.calls k1 ((za l0 x4_1).f0) ((za l0 x4_1).f1) ((za l0 x4_1).f2) ((za l0 x4_1).f3) ((za l0 x4_1).f4) ((za l0 x4_1).f5.f0) ((za l0 x4_1).f5.f1) ((za l0 x4_1).f5.f2) ((za l0 x4_1).f5.f3) true _ ?side1 A8.out).mono ?_); (case side1 => exact gb HG HB); rintro e w17 ⟨rfl, hb⟩; refine ⟨_, rfl, ?_⟩; replace HB := bst HB hb; (try clear hb); have p371 : 0 ≤ (x4_1 : Int) := dq; have q371 : x4_1 < (l0.length : Int) := dq; obtain ⟨ad371, e371, hx371_0, hx371_1, hx371_2, hx371_3, hx371_4, hx371_5, hx371_6, hx371_7, hx371_8⟩ := z3 (Kd.qq HR0.out HB.out) x4_1 p371 q371; obtain rfl : ad365 = ad371 := (by injection e371); replace p371 := eq_true p371; replace q371 := eq_true q371) | ((with_reducible refine zf (f := 19) rfl ?_); refine zs (some 48) rfl rfl Tryd.func19 (by kernel_rfl) rfl #[.int .i64 ((za l0 x4_1).f0)] rfl hq ?_; (with_reducible refine (zN.calls ((za l0 x4_1).f0) false _ ?side1 A10.out).mono ?_); (case side1 => exact gb HG HB); rintro e w' ⟨rfl, ⟨nd, rfl⟩⟩; refine ⟨_, rfl, ?_⟩))
         go_roundg k1
         case measure => have := HK1.out; omega
         case rel => exact ⟨(wrap64 (x4_1 + 1)), eq0, H', ⟨by have := HK1.out; omega⟩, ⟨bl HB.out⟩⟩
       ·replace c9 := Bool.eq_false_iff.mpr c9
        subst c9
        replace H := ifF H
        simp only [Option.some.injEq, Prod.mk.injEq] at H
        obtain ⟨rfl, rfl⟩ := H
        have p365 : 0 ≤ (x4_1 : Int) := dq
        have q365 : x4_1 < (l0.length : Int) := dq
        obtain ⟨ad365, e365, hx365_0, hx365_1, hx365_2, hx365_3, hx365_4, hx365_5, hx365_6, hx365_7, hx365_8⟩ := z3 HR0.out x4_1 p365 q365
        cases e365
        replace hx365_0 := cb HB.out hx365_0
        replace hx365_1 := cb HB.out hx365_1
        replace hx365_2 := cb HB.out hx365_2
        replace hx365_3 := cb HB.out hx365_3
        replace hx365_4 := cb HB.out hx365_4
        replace hx365_5 := cb HB.out hx365_5
        replace hx365_6 := cb HB.out hx365_6
        replace hx365_7 := cb HB.out hx365_7
        replace hx365_8 := cb HB.out hx365_8
        replace p365 := eq_true p365
        replace q365 := eq_true q365
        go_wp2_with (first | ((with_reducible refine zf (f := 39) rfl ?_); refine zs (some 29) rfl rfl Tryd.func39 (by kernel_rfl) rfl #[.int .i64 ((za l0 x4_1).f0)] rfl hq ?_; (with_reducible refine (zK.calls ((za l0 x4_1).f0) t366 t367 t368 _ ?side1 A6.out).mono ?_); (case side1 => exact gb HG HB); rintro e w' ⟨rfl, ⟨nd, rfl⟩⟩; refine ⟨_, rfl, ?_⟩; have p369 : 0 ≤ (x4_1 : Int) := dq; have q369 : x4_1 < (l0.length : Int) := dq; obtain ⟨ad369, e369, hx369_0, hx369_1, hx369_2, hx369_3, hx369_4, hx369_5, hx369_6, hx369_7, hx369_8⟩ := z3 (Kd.qq HR0.out HB.out) x4_1 p369 q369; obtain rfl : ad365 = ad369 := (by injection e369); replace p369 := eq_true p369; replace q369 := eq_true q369) | ((with_reducible refine zf (f := 40) rfl ?_); refine zs (some 40) rfl rfl Tryd.func40 (by kernel_rfl) rfl #[.agg #[.int .i64 ((za l0 x4_1).f0), .int .i64 ((za l0 x4_1).f1), .int .i64 ((za l0 x4_1).f2), .int .i64 ((za l0 x4_1).f3), .string ((za l0 x4_1).f4), .int .u64 ((za l0 x4_1).f5.f0), .int .u64 ((za l0 x4_1).f5.f1), .int .u64 ((za l0 x4_1).f5.f2), .int .u64 ((za l0 x4_1).f5.f3)]] rfl hq ?_; (with_reducible refine (zn.calls k1 ((za l0 x4_1).f0) ((za l0 x4_1).f1) ((za l0 x4_1).f2) ((za l0 x4_1).f3) ((za l0 x4_1).f4) ((za l0 x4_1).f5.f0) ((za l0 x4_1).f5.f1) ((za l0 x4_1).f5.f2) ((za l0 x4_1).f5.f3) false _ ?side1 A8.out).mono ?_); (case side1 => exact gb HG HB); rintro e w18 ⟨rfl, hb⟩; refine ⟨_, rfl, ?_⟩; replace HB := bst HB hb; (try clear hb)))
        go_ret2
        exact ⟨eq1, bl HB.out⟩
     ·rw [if_neg c4] at H
      have c4b0 := decide_eq_false c4
      clear c4
      obtain ⟨ji19, hji19⟩ : ∃ j_ : Int, (wrap64 ((l0.length : Int) - 1)) = j_ := ⟨_, rfl⟩
      rw [hji19] at H
      have hji19w : (IntKind.i64.wrap ((l0.length : Int) - 1)) = ji19 := (z5 _).trans hji19
      by_cases c20 : 0 ≤ (ji19)
      ·rw [if_pos c20] at H
       have c20b0 := decide_eq_true c20
       clear c20
       replace H := qm H; obtain ⟨c21, H⟩ := H
       have c21b0 := decide_eq_true c21
       clear c21
       replace H := qe H; obtain ⟨⟨t362, t363, t364⟩, A22, H⟩ := H; try dsimp only at H
       by_cases c23 : t364 = true
       ·subst c23
        replace H := ifT H
        simp only [Option.some.injEq, Prod.mk.injEq] at H
        obtain ⟨rfl, rfl⟩ := H
        have p361 : 0 ≤ ((ji19) : Int) := dq
        have q361 : (ji19) < (l0.length : Int) := dq
        obtain ⟨ad361, e361, hx361_0, hx361_1, hx361_2, hx361_3, hx361_4, hx361_5, hx361_6, hx361_7, hx361_8⟩ := z3 HR0.out (ji19) p361 q361
        cases e361
        replace hx361_0 := cb HB.out hx361_0
        replace hx361_1 := cb HB.out hx361_1
        replace hx361_2 := cb HB.out hx361_2
        replace hx361_3 := cb HB.out hx361_3
        replace hx361_4 := cb HB.out hx361_4
        replace hx361_5 := cb HB.out hx361_5
        replace hx361_6 := cb HB.out hx361_6
        replace hx361_7 := cb HB.out hx361_7
        replace hx361_8 := cb HB.out hx361_8
        replace p361 := eq_true p361
        replace q361 := eq_true q361
        go_wp2_with (((with_reducible refine zf (f := 39) rfl ?_); refine zs (some 80) rfl rfl Tryd.func39 (by kernel_rfl) rfl #[.int .i64 ((za l0 (ji19)).f0)] rfl (by (try simp only [List.map_toArray, List.map_cons, List.map_nil]); rfl) ?_; (with_reducible refine (zK.calls ((za l0 (ji19)).f0) t362 t363 true _ ?side1 A22.out).mono ?_); (case side1 => exact gb HG HB); rintro e w' ⟨rfl, ⟨nd, rfl⟩⟩; refine ⟨_, rfl, ?_⟩))
        go_ret2
        exact ⟨by rfl, bl HB.out⟩
       ·replace c23 := Bool.eq_false_iff.mpr c23
        subst c23
        replace H := ifF H
        simp only [Option.some.injEq, Prod.mk.injEq] at H
        obtain ⟨rfl, rfl⟩ := H
        have p361 : 0 ≤ ((ji19) : Int) := dq
        have q361 : (ji19) < (l0.length : Int) := dq
        obtain ⟨ad361, e361, hx361_0, hx361_1, hx361_2, hx361_3, hx361_4, hx361_5, hx361_6, hx361_7, hx361_8⟩ := z3 HR0.out (ji19) p361 q361
        cases e361
        replace hx361_0 := cb HB.out hx361_0
        replace hx361_1 := cb HB.out hx361_1
        replace hx361_2 := cb HB.out hx361_2
        replace hx361_3 := cb HB.out hx361_3
        replace hx361_4 := cb HB.out hx361_4
        replace hx361_5 := cb HB.out hx361_5
        replace hx361_6 := cb HB.out hx361_6
        replace hx361_7 := cb HB.out hx361_7
        replace hx361_8 := cb HB.out hx361_8
        replace p361 := eq_true p361
        replace q361 := eq_true q361
        go_wp2_with (((with_reducible refine zf (f := 39) rfl ?_); refine zs (some 80) rfl rfl Tryd.func39 (by kernel_rfl) rfl #[.int .i64 ((za l0 (ji19)).f0)] rfl (by (try simp only [List.map_toArray, List.map_cons, List.map_nil]); rfl) ?_; (with_reducible refine (zK.calls ((za l0 (ji19)).f0) t362 t363 false _ ?side1 A22.out).mono ?_); (case side1 => exact gb HG HB); rintro e w' ⟨rfl, ⟨nd, rfl⟩⟩; refine ⟨_, rfl, ?_⟩))
        go_ret2
        exact ⟨by rfl, bl HB.out⟩
      ·rw [if_neg c20] at H
       exact absurd H (by simp)
def qa.l0 : Nat → List (S34) → Int → Int → Option (Bool)
 | 0, _, _, _ => none
 | k + 1, x0, x1, x5 => if x5 ≤ (x0.length : Int) then (if 0 ≤ x1 then (if x1 < (x0.length : Int) then (if ((za x0 x1).f0) = 14 then (qa.l0 k x0 (wrap64 (x1 + ((za x0 x1).f1))) (wrap64 (x5 + 1))) else (some false)) else (none)) else (none)) else (some true)
def qa.f (k : Nat) (l0 : List (S34)) (a1 : Int) : Option (Bool) := qa.l0 k l0 a1 0
theorem qa.calls (k : Nat) (A0 : Option Addr) (c0 : Nat) (l0 : List (S34)) (a1 : Int) (r : Bool) (w : World) (hG : GW w) (hr0 : Kd.C k34 w A0 l0.length l0) (hc0 : l0.length ≤ c0) (h : qa.f k l0 a1 = some r) :
  Calls Tryd.prog 20 #[.slice A0 l0.length c0, .int .i64 a1] w fun e w' => e = .returned (.bool r) ∧ zg w w' := by
 have HR0 := zb.mk hr0
 have HC0 := zb.mk hc0
 clear hr0 hc0
 have HG := zb.mk hG
 clear hG
 have H : (qa.l0 k l0 a1 0) = some r := h
 clear h
 have H' := zb.mk H
 clear H
 go_enter Tryd.func20, Tryd.ntmps20
 go_wp2
 go_loopg [1, 5] k (fun kq v1 v5 w' => ∃ (x1_1 : Int) (x5_1 : Int), v1 = .int .i64 x1_1 ∧ v5 = .int .i64 x5_1 ∧ zb (qa.l0 kq l0 x1_1 x5_1 = some r) ∧ zb (kq ≤ k) ∧ zg w w')
 case atStart => exact ⟨(a1), (0), eq0, eq0, H', ⟨Nat.le_refl _⟩, by repeat (exact zg.refl _)⟩
 case round =>
  clear H'
  obtain ⟨x1_1, x5_1, rfl, rfl, HA, HK1, ⟨m1, rfl⟩⟩ := hrel
  cases gk with
  | zero => exact absurd HA.out (by simp [qa.l0])
  | succ k1 =>
   have H := HA.out
   clear HA
   simp only [qa.l0] at H
   by_cases c3 : x5_1 ≤ (l0.length : Int)
   ·rw [if_pos c3] at H
    have c3b0 := decide_eq_true c3
    clear c3
    replace H := qm H; obtain ⟨c4, H⟩ := H
    have c4b0 := decide_eq_true c4
    clear c4
    replace H := qm H; obtain ⟨c5, H⟩ := H
    have c5b0 := decide_eq_true c5
    clear c5
    by_cases c6 : ((za l0 x1_1).f0) = 14
    ·rw [if_pos c6] at H
     have c6b0 := beq_iff_eq.mpr c6
     have c6b1 := bne_eq_false_iff_eq.mpr c6
     clear c6
     have H' := zb.mk H
     clear H
     have p375 : 0 ≤ (x1_1 : Int) := dq
     have q375 : x1_1 < (l0.length : Int) := dq
     obtain ⟨ad375, e375, hx375_0, hx375_1, hx375_2, hx375_3, hx375_4, hx375_5, hx375_6, hx375_7, hx375_8⟩ := z3 HR0.out x1_1 p375 q375
     cases e375
     replace p375 := eq_true p375
     replace q375 := eq_true q375
     have p376 : 0 ≤ (x1_1 : Int) := dq
     have q376 : x1_1 < (l0.length : Int) := dq
     obtain ⟨ad376, e376, hx376_0, hx376_1, hx376_2, hx376_3, hx376_4, hx376_5, hx376_6, hx376_7, hx376_8⟩ := z3 HR0.out x1_1 p376 q376
     obtain rfl : ad375 = ad376 := (by injection e376)
     replace p376 := eq_true p376
     replace q376 := eq_true q376
     go_wp2
     go_roundg k1
     case measure => have := HK1.out; omega
     case rel => exact ⟨(wrap64 (x1_1 + ((za l0 x1_1).f1))), (wrap64 (x5_1 + 1)), eq0, eq0, H', ⟨by have := HK1.out; omega⟩, by repeat (first | exact zg.refl _ | apply zg.step)⟩
    ·rw [if_neg c6] at H
     have c6b0 := beq_eq_false_iff_ne.mpr c6
     have c6b1 := bne_iff_ne.mpr c6
     obtain rfl := Option.some.inj H
     have p375 : 0 ≤ (x1_1 : Int) := dq
     have q375 : x1_1 < (l0.length : Int) := dq
     obtain ⟨ad375, e375, hx375_0, hx375_1, hx375_2, hx375_3, hx375_4, hx375_5, hx375_6, hx375_7, hx375_8⟩ := z3 HR0.out x1_1 p375 q375
     cases e375
     replace p375 := eq_true p375
     replace q375 := eq_true q375
     go_wp2
     go_ret
     exact ⟨eq0, by repeat (first | exact zg.refl _ | apply zg.step)⟩
   ·rw [if_neg c3] at H
    have c3b0 := decide_eq_false c3
    clear c3
    obtain rfl := Option.some.inj H
    go_wp2
    go_ret
    exact ⟨eq0, by repeat (first | exact zg.refl _ | apply zg.step)⟩
mutual
def zh.j0 : Nat → Int → List (S34) → Bool → Option (Bool)
 | 0, _, _, _ => none
 | k + 1, x1, x5, x85 => if x85 = true then (some false) else (if (Int.tmod (wrap64 (Int.tdiv x1 64)) 2) = 0 then ((zV.f k).bind fun t391 => (some t391)) else ((zL.f k x5).bind fun bt392 => (if bt392.2 = 0 then (zh.j1 k x5 bt392.1 ((bt392.1.length : Int) != (x5.length : Int))) else (zh.j1 k x5 bt392.1 true))))
def zh.j1 : Nat → List (S34) → List Bool → Bool → Option (Bool)
 | 0, _, _, _ => none
 | k + 1, x5, x13, x104 => if x104 = true then (some false) else (zh.l0 k x5 x13 0)
def zh.l0 : Nat → List (S34) → List Bool → Int → Option (Bool)
 | 0, _, _, _ => none
 | k + 1, x5, x13, x15 => if x15 < (x5.length : Int) then (if 0 ≤ x15 then (if x15 < (x13.length : Int) then (if rdOf false x13 x15 = true then (if ((za x5 x15).f0) = 14 then (zh.j3 k x5 x13 x15 (((za x5 x15).f1) == 1)) else (zh.j3 k x5 x13 x15 false)) else (zh.j3 k x5 x13 x15 true)) else (none)) else (none)) else ((zV.f k).bind fun t396 => (some t396))
def zh.j3 : Nat → List (S34) → List Bool → Int → Bool → Option (Bool)
 | 0, _, _, _, _ => none
 | k + 1, x5, x13, x15, x131 => if x131 = true then (some false) else (if 0 ≤ x15 then (if x15 < (x5.length : Int) then ((zN.f ((za x5 x15).f0)).bind fun t401 => (if t401 = true then (if 0 ≤ (wrap64 (x15 + ((za x5 x15).f1))) then (if (wrap64 (x15 + ((za x5 x15).f1))) < (x5.length : Int) then (if ((za x5 (wrap64 (x15 + ((za x5 x15).f1)))).f0) = 14 then ((qa.f k x5 (wrap64 (x15 + ((za x5 x15).f1)))).bind fun t405 => (if t405 = true then (zh.l0 k x5 x13 (wrap64 (x15 + 1))) else (some false))) else (zh.l0 k x5 x13 (wrap64 (x15 + 1)))) else (none)) else (none)) else (zh.l0 k x5 x13 (wrap64 (x15 + 1))))) else (none)) else (none))
end
def zh.f (k : Nat) (l0 : List (S34)) (a1 : Int) : Option (Bool) := (zI.f k l0 a1).bind fun bt377 => (if bt377.2 = 0 then ((zw.f k bt377.1).bind fun bt384 => ((zI.f k bt377.1 a1).bind fun bt386 => (if bt384.2 = 0 then (if bt386.2 = 0 then (if (bt377.1.length : Int) > (l0.length : Int) then (zh.j0 k a1 bt377.1 true) else ((zM.f k bt377.1 bt386.1).bind fun t390 => (zh.j0 k a1 bt377.1 (!t390)))) else (zh.j0 k a1 bt377.1 true)) else (zh.j0 k a1 bt377.1 true)))) else ((zw.f k l0).bind fun bt381 => ((zV.f k).bind fun t383 => (if t383 = true then (if (bt377.1.length : Int) = 0 then (if bt381.2 = bt377.2 then (some true) else (if bt381.2 = 0 then (if bt377.2 = 1 then (if a1 < 0 then (some true) else (some (decide (a1 > 127)))) else (some false)) else (some false))) else (some false)) else (some false)))))
theorem zh.calls (k : Nat) (A0 : Option Addr) (c0 : Nat) (l0 : List (S34)) (a1 : Int) (r : Bool) (w : World) (hG : GW w) (hr0 : Kd.C k34 w A0 l0.length l0) (hc0 : l0.length ≤ c0) (h : zh.f k l0 a1 = some r) :
  Calls Tryd.prog 5 #[.slice A0 l0.length c0, .int .i64 a1] w fun e w' => e = .returned (.bool r) ∧ Below w.heap.size w w' := by
 have HR0 := zb.mk hr0
 have HC0 := zb.mk hc0
 clear hr0 hc0
 have HG := zb.mk hG
 clear hG
 have HB := zb.mk (Below.refl w.heap.size w)
 have H : ((zI.f k l0 a1).bind fun bt377 => (if bt377.2 = 0 then ((zw.f k bt377.1).bind fun bt384 => ((zI.f k bt377.1 a1).bind fun bt386 => (if bt384.2 = 0 then (if bt386.2 = 0 then (if (bt377.1.length : Int) > (l0.length : Int) then (zh.j0 k a1 bt377.1 true) else ((zM.f k bt377.1 bt386.1).bind fun t390 => (zh.j0 k a1 bt377.1 (!t390)))) else (zh.j0 k a1 bt377.1 true)) else (zh.j0 k a1 bt377.1 true)))) else ((zw.f k l0).bind fun bt381 => ((zV.f k).bind fun t383 => (if t383 = true then (if (bt377.1.length : Int) = 0 then (if bt381.2 = bt377.2 then (some true) else (if bt381.2 = 0 then (if bt377.2 = 1 then (if a1 < 0 then (some true) else (some (decide (a1 > 127)))) else (some false)) else (some false))) else (some false)) else (some false)))))) = some r := h
 clear h
 replace H := qe H; obtain ⟨⟨t377, t378⟩, A3, H⟩ := H; try dsimp only at H
 by_cases c4 : t378 = 0
 ·rw [if_pos c4] at H
  have c4b0 := beq_iff_eq.mpr c4
  have c4b1 := bne_eq_false_iff_eq.mpr c4
  clear c4
  replace H := qe H; obtain ⟨⟨t384, t385⟩, A5, H⟩ := H; try dsimp only at H
  replace H := qe H; obtain ⟨⟨t386, t387⟩, A6, H⟩ := H; try dsimp only at H
  have HC7 := zb.mk H
  clear H
  go_enter Tryd.func5, Tryd.ntmps5
  go_upto_region 7 with (first | ((with_reducible refine zf (f := 14) rfl ?_); refine zs (some 19) rfl rfl Tryd.func14 (by kernel_rfl) rfl #[.slice A0 l0.length c0, .int .i64 a1] rfl hq ?_; (with_reducible refine (zI.calls k _ _ l0 a1 t377 t378 _ ?side3 ?side1 ?side2 A3.out).mono ?_); (case side1 => exact Kd.cx HR0.out); (case side2 => exact HC0.out); (case side3 => exact gb HG HB); rintro e w8 ⟨v379, rfl, ho0, hb⟩; refine ⟨_, rfl, ?_⟩; have HO380 := zb.mk (Kd.rlo ho0 HB); replace HB := bst HB hb; (try clear hb); (try clear ho0); obtain ⟨Ao9, co9, eo9⟩ := Kd.qg HO380.out; subst eo9) | ((with_reducible refine zf (f := 18) rfl ?_); refine zs (some 58) rfl rfl Tryd.func18 (by kernel_rfl) rfl #[.slice Ao9 t377.length co9] rfl hq ?_; (with_reducible refine (zw.calls k _ _ t377 t384 t385 _ ?side3 ?side1 ?side2 A5.out).mono ?_); (case side1 => repeat (exact (Kd.zx HO380.out).2.2)); (case side2 => exact (Kd.zx HO380.out).2.1); (case side3 => exact gb HG HB); rintro e w10 ⟨rfl, hb⟩; refine ⟨_, rfl, ?_⟩; replace HO380 := Kd.rbl HO380 hb; replace HB := bst HB hb; (try clear hb)) | ((with_reducible refine zf (f := 14) rfl ?_); refine zs (some 64) rfl rfl Tryd.func14 (by kernel_rfl) rfl #[.slice Ao9 t377.length co9, .int .i64 a1] rfl hq ?_; (with_reducible refine (zI.calls k _ _ t377 a1 t386 t387 _ ?side3 ?side1 ?side2 A6.out).mono ?_); (case side1 => repeat (exact (Kd.zx HO380.out).2.2)); (case side2 => exact (Kd.zx HO380.out).2.1); (case side3 => exact gb HG HB); rintro e w11 ⟨v388, rfl, ho0, hb⟩; refine ⟨_, rfl, ?_⟩; have HO389 := zb.mk (Kd.rlo (Kd.R_new' ho0 (Kd.R_lt (Kd.rx HO380.out))) HB); replace HO380 := Kd.eld HO380 ho0 hb; replace HB := bst HB hb; (try clear hb); (try clear ho0)))
  go_cut [85] (fun v85 wc => ∃ (kq : Nat) (x85_6 : Bool), v85 = .bool x85_6 ∧ zb (zh.j0 kq a1 t377 x85_6 = some r) ∧ zb (kq ≤ k) ∧ zb (Kd.R k34 34 wc w.heap.size (fun _ => True) (.slice Ao9 t377.length co9) t377) ∧ zb (Below w.heap.size w wc))
  case first =>
   have H := HC7.out
   clear HC7
   by_cases c12 : t385 = 0
   ·rw [if_pos c12] at H
    have c12b0 := beq_iff_eq.mpr c12
    have c12b1 := bne_eq_false_iff_eq.mpr c12
    clear c12
    (skip)
    by_cases c13 : t387 = 0
    ·rw [if_pos c13] at H
     have c13b0 := beq_iff_eq.mpr c13
     have c13b1 := bne_eq_false_iff_eq.mpr c13
     clear c13
     by_cases c14 : (t377.length : Int) > (l0.length : Int)
     ·rw [if_pos c14] at H
      have c14b0 := decide_eq_true c14
      have c14b1 : decide (l0.length < t377.length) = true := decide_eq_true (Int.ofNat_lt.mp c14)
      clear c14
      have H' := zb.mk H
      clear H
      go_wp2
      go_meet
      case rel => exact ⟨_, (true), eq0, H', ⟨by omega⟩, ⟨Kd.rx (Kd.zT HO380.out (fun _ hk => trivial))⟩, ⟨bl HB.out⟩⟩
     ·rw [if_neg c14] at H
      have c14b0 := decide_eq_false c14
      have c14b1 : decide (l0.length < t377.length) = false := decide_eq_false (fun h => c14 (Int.ofNat_lt.mpr h))
      clear c14
      replace H := qe H; obtain ⟨t390, A15, H⟩ := H
      have H' := zb.mk H
      clear H
      obtain ⟨Ao16, co16, eo16⟩ := Kd.qg HO389.out
      subst eo16
      go_wp2_with ((go_at_call 16; (with_reducible refine (zM.calls k _ _ t377 _ _ t386 t390 _ ?side5 ?side1 ?side2 ?side3 ?side4 A15.out).mono ?_); (case side1 => repeat (exact (Kd.zx HO380.out).2.2)); (case side2 => exact (Kd.zx HO380.out).2.1); (case side3 => repeat (exact (Kd.zx HO389.out).2.2)); (case side4 => exact (Kd.zx HO389.out).2.1); (case side5 => exact gb HG HB); rintro e w' ⟨rfl, ⟨nd, rfl⟩⟩))
      go_meet
      case rel => exact ⟨_, (!t390), eq0, H', ⟨by omega⟩, ⟨Kd.rx (Kd.zT HO380.out (fun _ hk => trivial))⟩, ⟨bl HB.out⟩⟩
    ·rw [if_neg c13] at H
     have c13b0 := beq_eq_false_iff_ne.mpr c13
     have c13b1 := bne_iff_ne.mpr c13
     have H' := zb.mk H
     clear H
     go_wp2
     go_meet
     case rel => exact ⟨_, (true), eq0, H', ⟨by omega⟩, ⟨Kd.rx (Kd.zT HO380.out (fun _ hk => trivial))⟩, ⟨bl HB.out⟩⟩
   ·rw [if_neg c12] at H
    have c12b0 := beq_eq_false_iff_ne.mpr c12
    have c12b1 := bne_iff_ne.mpr c12
    (skip)
    have H' := zb.mk H
    clear H
    go_wp2
    go_meet
    case rel => exact ⟨_, (true), eq0, H', ⟨by omega⟩, ⟨Kd.rx (Kd.zT HO380.out (fun _ hk => trivial))⟩, ⟨bl HB.out⟩⟩
  case rest =>
   clear HC7
   (try clear c4b0); (try clear c4b1)
   obtain ⟨kq, x85_6, rfl, HA, HJ6, HO_5, HB⟩ := hcut
   cases kq with
   | zero => exact absurd HA.out (by simp [zh.j0])
   | succ kj6 =>
    have H := HA.out
    clear HA
    simp only [zh.j0] at H
    by_cases c17 : x85_6 = true
    ·subst c17
     replace H := ifT H
     obtain rfl := Option.some.inj H
     go_wp2
     go_ret
     exact ⟨eq1, bl HB.out⟩
    ·replace c17 := Bool.eq_false_iff.mpr c17
     subst c17
     replace H := ifF H
     by_cases c18 : (Int.tmod (wrap64 (Int.tdiv a1 64)) 2) = 0
     ·rw [if_pos c18] at H
      have c18b0 := beq_iff_eq.mpr c18
      have c18b1 := bne_eq_false_iff_eq.mpr c18
      clear c18
      replace H := qe H; obtain ⟨t391, A19, H⟩ := H
      obtain rfl := Option.some.inj H
      go_wp2_with (((with_reducible refine zf (f := 11) rfl ?_); refine zs (some 90) rfl rfl Tryd.func11 (by kernel_rfl) rfl #[] rfl hq ?_; (with_reducible refine (zV.calls kj6  t391 _ ?side1 A19.out).mono ?_); (case side1 => exact gb HG HB); rintro e w20 ⟨rfl, hb⟩; refine ⟨_, rfl, ?_⟩; replace HO_5 := Kd.rbl HO_5 hb; replace HB := bst HB hb; (try clear hb)))
      go_ret
      exact ⟨eq1, bl HB.out⟩
     ·rw [if_neg c18] at H
      have c18b0 := beq_eq_false_iff_ne.mpr c18
      have c18b1 := bne_iff_ne.mpr c18
      replace H := qe H; obtain ⟨⟨t392, t393⟩, A21, H⟩ := H; try dsimp only at H
      have HC22 := zb.mk H
      clear H
      go_upto_region 12 with (((with_reducible refine zf (f := 12) rfl ?_); refine zs (some 93) rfl rfl Tryd.func12 (by kernel_rfl) rfl #[.slice Ao9 t377.length co9] rfl hq ?_; (with_reducible refine (zL.calls kj6 _ _ t377 t392 t393 _ ?side3 ?side1 ?side2 A21.out).mono ?_); (case side1 => repeat (exact (Kd.zx HO_5.out).2.2)); (case side2 => exact (Kd.zx HO_5.out).2.1); (case side3 => exact gb HG HB); rintro e w23 ⟨v394, rfl, ho0, hb⟩; refine ⟨_, rfl, ?_⟩; replace HO_5 := Kd.rbl HO_5 hb; have HO395 := zb.mk (Kd.rlo ho0 HB); replace HB := bst HB hb; (try clear hb); (try clear ho0)))
      go_cut [104] (fun v104 wc => ∃ (kq : Nat) (x104_21 : Bool), v104 = .bool x104_21 ∧ zb (zh.j1 kq t377 t392 x104_21 = some r) ∧ zb (kq ≤ kj6) ∧ zb (Kd.R k34 34 wc w.heap.size (fun _ => True) (.slice Ao9 t377.length co9) t377) ∧ zb (Kd.R Kd.bool 4 wc w.heap.size (fun _ => True) v394 t392) ∧ zb (Below w.heap.size w wc))
      case first =>
       have H := HC22.out
       clear HC22
       by_cases c24 : t393 = 0
       ·rw [if_pos c24] at H
        have c24b0 := beq_iff_eq.mpr c24
        have c24b1 := bne_eq_false_iff_eq.mpr c24
        clear c24
        (skip)
        have H' := zb.mk H
        clear H
        obtain ⟨Ao25, co25, eo25⟩ := Kd.qg HO395.out
        subst eo25
        go_wp2
        go_meet
        case rel => exact ⟨_, (((t392.length : Int) != (t377.length : Int))), eq0, H', ⟨by have := HJ6.out; omega⟩, ⟨Kd.rx HO_5.out⟩, ⟨Kd.rx HO395.out⟩, ⟨bl HB.out⟩⟩
       ·rw [if_neg c24] at H
        have c24b0 := beq_eq_false_iff_ne.mpr c24
        have c24b1 := bne_iff_ne.mpr c24
        (skip)
        have H' := zb.mk H
        clear H
        go_wp2
        go_meet
        case rel => exact ⟨_, (true), eq0, H', ⟨by have := HJ6.out; omega⟩, ⟨Kd.rx HO_5.out⟩, ⟨Kd.rx HO395.out⟩, ⟨bl HB.out⟩⟩
      case rest =>
       clear HC22
       (try clear c18); (try clear c18b0); (try clear c18b1)
       obtain ⟨kq, x104_21, rfl, HA, HJ21, HO_5, HO_13, HB⟩ := hcut
       cases kq with
       | zero => exact absurd HA.out (by simp [zh.j1])
       | succ kj21 =>
        have H := HA.out
        clear HA
        simp only [zh.j1] at H
        by_cases c26 : x104_21 = true
        ·subst c26
         replace H := ifT H
         obtain rfl := Option.some.inj H
         go_wp2
         go_ret
         exact ⟨eq1, bl HB.out⟩
        ·replace c26 := Bool.eq_false_iff.mpr c26
         subst c26
         replace H := ifF H
         have H' := zb.mk H
         clear H
         go_wp2
         go_loopg [15] kj21 (fun kq v15 w' => ∃ (x15_3 : Int), v15 = .int .i64 x15_3 ∧ zb (zh.l0 kq t377 t392 x15_3 = some r) ∧ zb (kq ≤ kj21) ∧ zb (Kd.R k34 34 w' w.heap.size (fun _ => True) (.slice Ao9 t377.length co9) t377) ∧ zb (Kd.R Kd.bool 4 w' w.heap.size (fun _ => True) v394 t392) ∧ zb (Below w.heap.size w w'))
         case atStart => exact ⟨(0), eq0, H', ⟨Nat.le_refl _⟩, ⟨Kd.rx HO_5.out⟩, ⟨Kd.rx HO_13.out⟩, ⟨bl HB.out⟩⟩
         case round =>
          clear H'
          obtain ⟨x15_3, rfl, HA, HK3, HO_5, HO_13, HB⟩ := hrel
          cases gk with
          | zero => exact absurd HA.out (by simp [zh.l0])
          | succ k3 =>
           have H := HA.out
           clear HA
           simp only [zh.l0] at H
           by_cases c27 : x15_3 < (t377.length : Int)
           ·rw [if_pos c27] at H
            have c27b0 := decide_eq_true c27
            clear c27
            have HC28 := zb.mk H
            clear H
            go_upto_region 17 with (fail)
            go_cut [131] (fun v131 wc => ∃ (kq : Nat) (x131_27 : Bool), v131 = .bool x131_27 ∧ zb (zh.j3 kq t377 t392 x15_3 x131_27 = some r) ∧ zb (kq ≤ k3) ∧ zb (Kd.R k34 34 wc w.heap.size (fun _ => True) (.slice Ao9 t377.length co9) t377) ∧ zb (Kd.R Kd.bool 4 wc w.heap.size (fun _ => True) v394 t392) ∧ zb (Below w.heap.size w wc))
            case first =>
             have H := HC28.out
             clear HC28
             replace H := qm H; obtain ⟨c29, H⟩ := H
             have c29b0 := decide_eq_true c29
             clear c29
             (skip)
             replace H := qm H; obtain ⟨c30, H⟩ := H
             have c30b0 := decide_eq_true c30
             clear c30
             obtain ⟨bq31, hbq31⟩ : ∃ b_ : Bool, b_ = (rdOf false t392 x15_3) := ⟨_, rfl⟩
             rw [← hbq31] at H
             have Nbq31 := zb.mk hbq31
             clear hbq31
             by_cases c32 : bq31 = true
             ·subst c32
              replace H := ifT H
              by_cases c33 : ((za t377 x15_3).f0) = 14
              ·rw [if_pos c33] at H
               have c33b0 := beq_iff_eq.mpr c33
               have c33b1 := bne_eq_false_iff_eq.mpr c33
               clear c33
               have H' := zb.mk H
               clear H
               obtain ⟨Ao34, co34, eo34⟩ := Kd.qg HO_13.out
               subst eo34
               have p397 : 0 ≤ (x15_3 : Int) := dq
               have q397 : x15_3 < (t392.length : Int) := dq
               obtain ⟨ad397, e397, hx397_0⟩ := Kd.at_bool (Kd.zx HO_13.out).2.2 x15_3 p397 q397
               (try rw [← Nbq31.out] at hx397_0)
               cases e397
               replace p397 := eq_true p397
               replace q397 := eq_true q397
               have p398 : 0 ≤ (x15_3 : Int) := dq
               have q398 : x15_3 < (t377.length : Int) := dq
               obtain ⟨ad398, e398, hx398_0, hx398_1, hx398_2, hx398_3, hx398_4, hx398_5, hx398_6, hx398_7, hx398_8⟩ := z3 (Kd.zx HO_5.out).2.2 x15_3 p398 q398
               cases e398
               replace p398 := eq_true p398
               replace q398 := eq_true q398
               have p399 : 0 ≤ (x15_3 : Int) := dq
               have q399 : x15_3 < (t377.length : Int) := dq
               obtain ⟨ad399, e399, hx399_0, hx399_1, hx399_2, hx399_3, hx399_4, hx399_5, hx399_6, hx399_7, hx399_8⟩ := z3 (Kd.zx HO_5.out).2.2 x15_3 p399 q399
               obtain rfl : ad398 = ad399 := (by injection e399)
               replace p399 := eq_true p399
               replace q399 := eq_true q399
               go_wp2
               go_meet
               case rel => exact ⟨_, ((((za t377 x15_3).f1) == 1)), eq0, H', ⟨by have := HJ6.out; have := HJ21.out; have := HK3.out; omega⟩, ⟨Kd.rx HO_5.out⟩, ⟨Kd.rx HO_13.out⟩, ⟨bl HB.out⟩⟩
              ·rw [if_neg c33] at H
               have c33b0 := beq_eq_false_iff_ne.mpr c33
               have c33b1 := bne_iff_ne.mpr c33
               have H' := zb.mk H
               clear H
               obtain ⟨Ao35, co35, eo35⟩ := Kd.qg HO_13.out
               subst eo35
               have p397 : 0 ≤ (x15_3 : Int) := dq
               have q397 : x15_3 < (t392.length : Int) := dq
               obtain ⟨ad397, e397, hx397_0⟩ := Kd.at_bool (Kd.zx HO_13.out).2.2 x15_3 p397 q397
               (try rw [← Nbq31.out] at hx397_0)
               cases e397
               replace p397 := eq_true p397
               replace q397 := eq_true q397
               have p398 : 0 ≤ (x15_3 : Int) := dq
               have q398 : x15_3 < (t377.length : Int) := dq
               obtain ⟨ad398, e398, hx398_0, hx398_1, hx398_2, hx398_3, hx398_4, hx398_5, hx398_6, hx398_7, hx398_8⟩ := z3 (Kd.zx HO_5.out).2.2 x15_3 p398 q398
               cases e398
               replace p398 := eq_true p398
               replace q398 := eq_true q398
               go_wp2
               go_meet
               case rel => exact ⟨_, (false), eq0, H', ⟨by have := HJ6.out; have := HJ21.out; have := HK3.out; omega⟩, ⟨Kd.rx HO_5.out⟩, ⟨Kd.rx HO_13.out⟩, ⟨bl HB.out⟩⟩
             ·replace c32 := Bool.eq_false_iff.mpr c32
              subst c32
              replace H := ifF H
              have H' := zb.mk H
              clear H
              obtain ⟨Ao36, co36, eo36⟩ := Kd.qg HO_13.out
              subst eo36
              have p397 : 0 ≤ (x15_3 : Int) := dq
              have q397 : x15_3 < (t392.length : Int) := dq
              obtain ⟨ad397, e397, hx397_0⟩ := Kd.at_bool (Kd.zx HO_13.out).2.2 x15_3 p397 q397
              (try rw [← Nbq31.out] at hx397_0)
              cases e397
              replace p397 := eq_true p397
              replace q397 := eq_true q397
              go_wp2
              go_meet
              case rel => exact ⟨_, (true), eq0, H', ⟨by have := HJ6.out; have := HJ21.out; have := HK3.out; omega⟩, ⟨Kd.rx HO_5.out⟩, ⟨Kd.rx HO_13.out⟩, ⟨bl HB.out⟩⟩
            case rest =>
             clear HC28
             (try clear c27b0)
             obtain ⟨kq, x131_27, rfl, HA, HJ27, HO_5, HO_13, HB⟩ := hcut
             cases kq with
             | zero => exact absurd HA.out (by simp [zh.j3])
             | succ kj27 =>
              have H := HA.out
              clear HA
              simp only [zh.j3] at H
              by_cases c37 : x131_27 = true
              ·subst c37
               replace H := ifT H
               obtain rfl := Option.some.inj H
               go_wp2
               go_ret
               exact ⟨eq1, bl HB.out⟩
              ·replace c37 := Bool.eq_false_iff.mpr c37
               subst c37
               replace H := ifF H
               replace H := qm H; obtain ⟨c38, H⟩ := H
               have c38b0 := decide_eq_true c38
               clear c38
               replace H := qm H; obtain ⟨c39, H⟩ := H
               have c39b0 := decide_eq_true c39
               clear c39
               replace H := qe H; obtain ⟨t401, A40, H⟩ := H
               by_cases c41 : t401 = true
               ·subst c41
                replace H := ifT H
                obtain ⟨ji42, hji42⟩ : ∃ j_ : Int, (wrap64 (x15_3 + ((za t377 x15_3).f1))) = j_ := ⟨_, rfl⟩
                rw [hji42] at H
                have hji42w : (IntKind.i64.wrap (x15_3 + ((za t377 x15_3).f1))) = ji42 := (z5 _).trans hji42
                replace H := qm H; obtain ⟨c43, H⟩ := H
                have c43b0 := decide_eq_true c43
                clear c43
                replace H := qm H; obtain ⟨c44, H⟩ := H
                have c44b0 := decide_eq_true c44
                clear c44
                by_cases c45 : ((za t377 (ji42)).f0) = 14
                ·rw [if_pos c45] at H
                 have c45b0 := beq_iff_eq.mpr c45
                 have c45b1 := bne_eq_false_iff_eq.mpr c45
                 clear c45
                 replace H := qe H; obtain ⟨t405, A46, H⟩ := H
                 by_cases c47 : t405 = true
                 ·subst c47
                  replace H := ifT H
                  have H' := zb.mk H
                  clear H
                  have p400 : 0 ≤ (x15_3 : Int) := dq
                  have q400 : x15_3 < (t377.length : Int) := dq
                  obtain ⟨ad400, e400, hx400_0, hx400_1, hx400_2, hx400_3, hx400_4, hx400_5, hx400_6, hx400_7, hx400_8⟩ := z3 (Kd.zx HO_5.out).2.2 x15_3 p400 q400
                  cases e400
                  replace p400 := eq_true p400
                  replace q400 := eq_true q400
                  go_wp2_with (first | ((with_reducible refine zf (f := 19) rfl ?_); refine zs (some 137) rfl rfl Tryd.func19 (by kernel_rfl) rfl #[.int .i64 ((za t377 x15_3).f0)] rfl hq ?_; (with_reducible refine (zN.calls ((za t377 x15_3).f0) true _ ?side1 A40.out).mono ?_); (case side1 => exact gb HG HB); rintro e w' ⟨rfl, ⟨nd, rfl⟩⟩; refine ⟨_, rfl, ?_⟩; have p402 : 0 ≤ (x15_3 : Int) := dq; have q402 : x15_3 < (t377.length : Int) := dq; obtain ⟨ad402, e402, hx402_0, hx402_1, hx402_2, hx402_3, hx402_4, hx402_5, hx402_6, hx402_7, hx402_8⟩ := z3 (Kd.zx HO_5.out).2.2 x15_3 p402 q402; obtain rfl : ad400 = ad402 := (by injection e402); replace p402 := eq_true p402; replace q402 := eq_true q402; have p403 : 0 ≤ ((ji42) : Int) := dq; have q403 : (ji42) < (t377.length : Int) := dq; obtain ⟨ad403, e403, hx403_0, hx403_1, hx403_2, hx403_3, hx403_4, hx403_5, hx403_6, hx403_7, hx403_8⟩ := z3 (Kd.zx HO_5.out).2.2 (ji42) p403 q403; obtain rfl : ad400 = ad403 := (by injection e403); replace p403 := eq_true p403; replace q403 := eq_true q403; have p404 : 0 ≤ (x15_3 : Int) := dq; have q404 : x15_3 < (t377.length : Int) := dq; obtain ⟨ad404, e404, hx404_0, hx404_1, hx404_2, hx404_3, hx404_4, hx404_5, hx404_6, hx404_7, hx404_8⟩ := z3 (Kd.zx HO_5.out).2.2 x15_3 p404 q404; obtain rfl : ad400 = ad404 := (by injection e404); replace p404 := eq_true p404; replace q404 := eq_true q404) | (go_at_call 20; (with_reducible refine (qa.calls kj27 _ _ t377 ji42 true _ ?side3 ?side1 ?side2 A46.out).mono ?_); (case side1 => repeat (exact (Kd.zx HO_5.out).2.2)); (case side2 => exact (Kd.zx HO_5.out).2.1); (case side3 => exact gb HG HB); rintro e w' ⟨rfl, ⟨nd, rfl⟩⟩))
                  go_roundg kj27
                  case measure => have := HJ6.out; have := HJ21.out; have := HK3.out; have := HJ27.out; omega
                  case rel => exact ⟨(wrap64 (x15_3 + 1)), eq0, H', ⟨by have := HJ6.out; have := HJ21.out; have := HK3.out; have := HJ27.out; omega⟩, ⟨Kd.rx HO_5.out⟩, ⟨Kd.rx HO_13.out⟩, ⟨bl HB.out⟩⟩
                 ·replace c47 := Bool.eq_false_iff.mpr c47
                  subst c47
                  replace H := ifF H
                  obtain rfl := Option.some.inj H
                  have p400 : 0 ≤ (x15_3 : Int) := dq
                  have q400 : x15_3 < (t377.length : Int) := dq
                  obtain ⟨ad400, e400, hx400_0, hx400_1, hx400_2, hx400_3, hx400_4, hx400_5, hx400_6, hx400_7, hx400_8⟩ := z3 (Kd.zx HO_5.out).2.2 x15_3 p400 q400
                  cases e400
                  replace p400 := eq_true p400
                  replace q400 := eq_true q400
                  go_wp2_with (first | ((with_reducible refine zf (f := 19) rfl ?_); refine zs (some 137) rfl rfl Tryd.func19 (by kernel_rfl) rfl #[.int .i64 ((za t377 x15_3).f0)] rfl hq ?_; (with_reducible refine (zN.calls ((za t377 x15_3).f0) true _ ?side1 A40.out).mono ?_); (case side1 => exact gb HG HB); rintro e w' ⟨rfl, ⟨nd, rfl⟩⟩; refine ⟨_, rfl, ?_⟩; have p402 : 0 ≤ (x15_3 : Int) := dq; have q402 : x15_3 < (t377.length : Int) := dq; obtain ⟨ad402, e402, hx402_0, hx402_1, hx402_2, hx402_3, hx402_4, hx402_5, hx402_6, hx402_7, hx402_8⟩ := z3 (Kd.zx HO_5.out).2.2 x15_3 p402 q402; obtain rfl : ad400 = ad402 := (by injection e402); replace p402 := eq_true p402; replace q402 := eq_true q402; have p403 : 0 ≤ ((ji42) : Int) := dq; have q403 : (ji42) < (t377.length : Int) := dq; obtain ⟨ad403, e403, hx403_0, hx403_1, hx403_2, hx403_3, hx403_4, hx403_5, hx403_6, hx403_7, hx403_8⟩ := z3 (Kd.zx HO_5.out).2.2 (ji42) p403 q403; obtain rfl : ad400 = ad403 := (by injection e403); replace p403 := eq_true p403; replace q403 := eq_true q403; have p404 : 0 ≤ (x15_3 : Int) := dq; have q404 : x15_3 < (t377.length : Int) := dq; obtain ⟨ad404, e404, hx404_0, hx404_1, hx404_2, hx404_3, hx404_4, hx404_5, hx404_6, hx404_7, hx404_8⟩ := z3 (Kd.zx HO_5.out).2.2 x15_3 p404 q404; obtain rfl : ad400 = ad404 := (by injection e404); replace p404 := eq_true p404; replace q404 := eq_true q404) | (go_at_call 20; (with_reducible refine (qa.calls kj27 _ _ t377 ji42 false _ ?side3 ?side1 ?side2 A46.out).mono ?_); (case side1 => repeat (exact (Kd.zx HO_5.out).2.2)); (case side2 => exact (Kd.zx HO_5.out).2.1); (case side3 => exact gb HG HB); rintro e w' ⟨rfl, ⟨nd, rfl⟩⟩))
                  go_ret
                  exact ⟨by rfl, bl HB.out⟩
                ·rw [if_neg c45] at H
                 have c45b0 := beq_eq_false_iff_ne.mpr c45
                 have c45b1 := bne_iff_ne.mpr c45
                 have H' := zb.mk H
                 clear H
                 have p400 : 0 ≤ (x15_3 : Int) := dq
                 have q400 : x15_3 < (t377.length : Int) := dq
                 obtain ⟨ad400, e400, hx400_0, hx400_1, hx400_2, hx400_3, hx400_4, hx400_5, hx400_6, hx400_7, hx400_8⟩ := z3 (Kd.zx HO_5.out).2.2 x15_3 p400 q400
                 cases e400
                 replace p400 := eq_true p400
                 replace q400 := eq_true q400
                 go_wp2_with (((with_reducible refine zf (f := 19) rfl ?_); refine zs (some 137) rfl rfl Tryd.func19 (by kernel_rfl) rfl #[.int .i64 ((za t377 x15_3).f0)] rfl hq ?_; (with_reducible refine (zN.calls ((za t377 x15_3).f0) true _ ?side1 A40.out).mono ?_); (case side1 => exact gb HG HB); rintro e w' ⟨rfl, ⟨nd, rfl⟩⟩; refine ⟨_, rfl, ?_⟩; have p402 : 0 ≤ (x15_3 : Int) := dq; have q402 : x15_3 < (t377.length : Int) := dq; obtain ⟨ad402, e402, hx402_0, hx402_1, hx402_2, hx402_3, hx402_4, hx402_5, hx402_6, hx402_7, hx402_8⟩ := z3 (Kd.zx HO_5.out).2.2 x15_3 p402 q402; obtain rfl : ad400 = ad402 := (by injection e402); replace p402 := eq_true p402; replace q402 := eq_true q402; have p403 : 0 ≤ ((ji42) : Int) := dq; have q403 : (ji42) < (t377.length : Int) := dq; obtain ⟨ad403, e403, hx403_0, hx403_1, hx403_2, hx403_3, hx403_4, hx403_5, hx403_6, hx403_7, hx403_8⟩ := z3 (Kd.zx HO_5.out).2.2 (ji42) p403 q403; obtain rfl : ad400 = ad403 := (by injection e403); replace p403 := eq_true p403; replace q403 := eq_true q403))
                 go_roundg kj27
                 case measure => have := HJ6.out; have := HJ21.out; have := HK3.out; have := HJ27.out; omega
                 case rel => exact ⟨(wrap64 (x15_3 + 1)), eq0, H', ⟨by have := HJ6.out; have := HJ21.out; have := HK3.out; have := HJ27.out; omega⟩, ⟨Kd.rx HO_5.out⟩, ⟨Kd.rx HO_13.out⟩, ⟨bl HB.out⟩⟩
               ·replace c41 := Bool.eq_false_iff.mpr c41
                subst c41
                replace H := ifF H
                have H' := zb.mk H
                clear H
                have p400 : 0 ≤ (x15_3 : Int) := dq
                have q400 : x15_3 < (t377.length : Int) := dq
                obtain ⟨ad400, e400, hx400_0, hx400_1, hx400_2, hx400_3, hx400_4, hx400_5, hx400_6, hx400_7, hx400_8⟩ := z3 (Kd.zx HO_5.out).2.2 x15_3 p400 q400
                cases e400
                replace p400 := eq_true p400
                replace q400 := eq_true q400
                go_wp2_with (((with_reducible refine zf (f := 19) rfl ?_); refine zs (some 137) rfl rfl Tryd.func19 (by kernel_rfl) rfl #[.int .i64 ((za t377 x15_3).f0)] rfl hq ?_; (with_reducible refine (zN.calls ((za t377 x15_3).f0) false _ ?side1 A40.out).mono ?_); (case side1 => exact gb HG HB); rintro e w' ⟨rfl, ⟨nd, rfl⟩⟩; refine ⟨_, rfl, ?_⟩))
                go_roundg kj27
                case measure => have := HJ6.out; have := HJ21.out; have := HK3.out; have := HJ27.out; omega
                case rel => exact ⟨(wrap64 (x15_3 + 1)), eq0, H', ⟨by have := HJ6.out; have := HJ21.out; have := HK3.out; have := HJ27.out; omega⟩, ⟨Kd.rx HO_5.out⟩, ⟨Kd.rx HO_13.out⟩, ⟨bl HB.out⟩⟩
           ·rw [if_neg c27] at H
            have c27b0 := decide_eq_false c27
            clear c27
            replace H := qe H; obtain ⟨t396, A48, H⟩ := H
            obtain rfl := Option.some.inj H
            go_wp2_with (((with_reducible refine zf (f := 11) rfl ?_); refine zs (some 164) rfl rfl Tryd.func11 (by kernel_rfl) rfl #[] rfl hq ?_; (with_reducible refine (zV.calls k3  t396 _ ?side1 A48.out).mono ?_); (case side1 => exact gb HG HB); rintro e w49 ⟨rfl, hb⟩; refine ⟨_, rfl, ?_⟩; replace HO_5 := Kd.rbl HO_5 hb; replace HO_13 := Kd.rbl HO_13 hb; replace HB := bst HB hb; (try clear hb)))
            go_ret
            exact ⟨eq1, bl HB.out⟩
 ·rw [if_neg c4] at H
  have c4b0 := beq_eq_false_iff_ne.mpr c4
  have c4b1 := bne_iff_ne.mpr c4
  replace H := qe H; obtain ⟨⟨t381, t382⟩, A50, H⟩ := H; try dsimp only at H
  replace H := qe H; obtain ⟨t383, A51, H⟩ := H
  by_cases c52 : t383 = true
  ·subst c52
   replace H := ifT H
   by_cases c53 : (t377.length : Int) = 0
   ·rw [if_pos c53] at H
    have c53b0 := beq_iff_eq.mpr c53
    have c53b1 := bne_eq_false_iff_eq.mpr c53
    clear c53
    by_cases c54 : t382 = t378
    ·rw [if_pos c54] at H
     have c54b0 := beq_iff_eq.mpr c54
     have c54b1 := bne_eq_false_iff_eq.mpr c54
     clear c54
     obtain rfl := Option.some.inj H
     go_enter Tryd.func5, Tryd.ntmps5
     go_wp2_with (first | ((with_reducible refine zf (f := 14) rfl ?_); refine zs (some 19) rfl rfl Tryd.func14 (by kernel_rfl) rfl #[.slice A0 l0.length c0, .int .i64 a1] rfl hq ?_; (with_reducible refine (zI.calls k _ _ l0 a1 t377 t378 _ ?side3 ?side1 ?side2 A3.out).mono ?_); (case side1 => exact Kd.cx HR0.out); (case side2 => exact HC0.out); (case side3 => exact gb HG HB); rintro e w55 ⟨v379, rfl, ho0, hb⟩; refine ⟨_, rfl, ?_⟩; have HO380 := zb.mk (Kd.rlo ho0 HB); replace HB := bst HB hb; (try clear hb); (try clear ho0)) | ((with_reducible refine zf (f := 18) rfl ?_); refine zs (some 26) rfl rfl Tryd.func18 (by kernel_rfl) rfl #[.slice A0 l0.length c0] rfl hq ?_; (with_reducible refine (zw.calls k _ _ l0 t381 t382 _ ?side3 ?side1 ?side2 A50.out).mono ?_); (case side1 => exact Kd.cx (Kd.qq HR0.out HB.out)); (case side2 => exact HC0.out); (case side3 => exact gb HG HB); rintro e w56 ⟨rfl, hb⟩; refine ⟨_, rfl, ?_⟩; replace HO380 := Kd.rbl HO380 hb; replace HB := bst HB hb; (try clear hb)) | ((with_reducible refine zf (f := 11) rfl ?_); refine zs (some 29) rfl rfl Tryd.func11 (by kernel_rfl) rfl #[] rfl hq ?_; (with_reducible refine (zV.calls k  true _ ?side1 A51.out).mono ?_); (case side1 => exact gb HG HB); rintro e w57 ⟨rfl, hb⟩; refine ⟨_, rfl, ?_⟩; replace HO380 := Kd.rbl HO380 hb; replace HB := bst HB hb; (try clear hb); obtain ⟨Ao58, co58, eo58⟩ := Kd.qg HO380.out; subst eo58))
     go_ret
     exact ⟨eq1, bl HB.out⟩
    ·rw [if_neg c54] at H
     have c54b0 := beq_eq_false_iff_ne.mpr c54
     have c54b1 := bne_iff_ne.mpr c54
     by_cases c59 : t382 = 0
     ·rw [if_pos c59] at H
      have c59b0 := beq_iff_eq.mpr c59
      have c59b1 := bne_eq_false_iff_eq.mpr c59
      clear c59
      by_cases c60 : t378 = 1
      ·rw [if_pos c60] at H
       have c60b0 := beq_iff_eq.mpr c60
       have c60b1 := bne_eq_false_iff_eq.mpr c60
       clear c60
       by_cases c61 : a1 < 0
       ·rw [if_pos c61] at H
        have c61b0 := decide_eq_true c61
        clear c61
        obtain rfl := Option.some.inj H
        go_enter Tryd.func5, Tryd.ntmps5
        go_wp2_with (first | ((with_reducible refine zf (f := 14) rfl ?_); refine zs (some 19) rfl rfl Tryd.func14 (by kernel_rfl) rfl #[.slice A0 l0.length c0, .int .i64 a1] rfl hq ?_; (with_reducible refine (zI.calls k _ _ l0 a1 t377 t378 _ ?side3 ?side1 ?side2 A3.out).mono ?_); (case side1 => exact Kd.cx HR0.out); (case side2 => exact HC0.out); (case side3 => exact gb HG HB); rintro e w62 ⟨v379, rfl, ho0, hb⟩; refine ⟨_, rfl, ?_⟩; have HO380 := zb.mk (Kd.rlo ho0 HB); replace HB := bst HB hb; (try clear hb); (try clear ho0)) | ((with_reducible refine zf (f := 18) rfl ?_); refine zs (some 26) rfl rfl Tryd.func18 (by kernel_rfl) rfl #[.slice A0 l0.length c0] rfl hq ?_; (with_reducible refine (zw.calls k _ _ l0 t381 t382 _ ?side3 ?side1 ?side2 A50.out).mono ?_); (case side1 => exact Kd.cx (Kd.qq HR0.out HB.out)); (case side2 => exact HC0.out); (case side3 => exact gb HG HB); rintro e w63 ⟨rfl, hb⟩; refine ⟨_, rfl, ?_⟩; replace HO380 := Kd.rbl HO380 hb; replace HB := bst HB hb; (try clear hb)) | ((with_reducible refine zf (f := 11) rfl ?_); refine zs (some 29) rfl rfl Tryd.func11 (by kernel_rfl) rfl #[] rfl hq ?_; (with_reducible refine (zV.calls k  true _ ?side1 A51.out).mono ?_); (case side1 => exact gb HG HB); rintro e w64 ⟨rfl, hb⟩; refine ⟨_, rfl, ?_⟩; replace HO380 := Kd.rbl HO380 hb; replace HB := bst HB hb; (try clear hb); obtain ⟨Ao65, co65, eo65⟩ := Kd.qg HO380.out; subst eo65))
        go_ret
        exact ⟨eq1, bl HB.out⟩
       ·rw [if_neg c61] at H
        have c61b0 := decide_eq_false c61
        clear c61
        obtain rfl := Option.some.inj H
        go_enter Tryd.func5, Tryd.ntmps5
        go_wp2_with (first | ((with_reducible refine zf (f := 14) rfl ?_); refine zs (some 19) rfl rfl Tryd.func14 (by kernel_rfl) rfl #[.slice A0 l0.length c0, .int .i64 a1] rfl hq ?_; (with_reducible refine (zI.calls k _ _ l0 a1 t377 t378 _ ?side3 ?side1 ?side2 A3.out).mono ?_); (case side1 => exact Kd.cx HR0.out); (case side2 => exact HC0.out); (case side3 => exact gb HG HB); rintro e w66 ⟨v379, rfl, ho0, hb⟩; refine ⟨_, rfl, ?_⟩; have HO380 := zb.mk (Kd.rlo ho0 HB); replace HB := bst HB hb; (try clear hb); (try clear ho0)) | ((with_reducible refine zf (f := 18) rfl ?_); refine zs (some 26) rfl rfl Tryd.func18 (by kernel_rfl) rfl #[.slice A0 l0.length c0] rfl hq ?_; (with_reducible refine (zw.calls k _ _ l0 t381 t382 _ ?side3 ?side1 ?side2 A50.out).mono ?_); (case side1 => exact Kd.cx (Kd.qq HR0.out HB.out)); (case side2 => exact HC0.out); (case side3 => exact gb HG HB); rintro e w67 ⟨rfl, hb⟩; refine ⟨_, rfl, ?_⟩; replace HO380 := Kd.rbl HO380 hb; replace HB := bst HB hb; (try clear hb)) | ((with_reducible refine zf (f := 11) rfl ?_); refine zs (some 29) rfl rfl Tryd.func11 (by kernel_rfl) rfl #[] rfl hq ?_; (with_reducible refine (zV.calls k  true _ ?side1 A51.out).mono ?_); (case side1 => exact gb HG HB); rintro e w68 ⟨rfl, hb⟩; refine ⟨_, rfl, ?_⟩; replace HO380 := Kd.rbl HO380 hb; replace HB := bst HB hb; (try clear hb); obtain ⟨Ao69, co69, eo69⟩ := Kd.qg HO380.out; subst eo69))
        go_ret
        exact ⟨eq1, bl HB.out⟩
      ·rw [if_neg c60] at H
       have c60b0 := beq_eq_false_iff_ne.mpr c60
       have c60b1 := bne_iff_ne.mpr c60
       obtain rfl := Option.some.inj H
       go_enter Tryd.func5, Tryd.ntmps5
       go_wp2_with (first | ((with_reducible refine zf (f := 14) rfl ?_); refine zs (some 19) rfl rfl Tryd.func14 (by kernel_rfl) rfl #[.slice A0 l0.length c0, .int .i64 a1] rfl hq ?_; (with_reducible refine (zI.calls k _ _ l0 a1 t377 t378 _ ?side3 ?side1 ?side2 A3.out).mono ?_); (case side1 => exact Kd.cx HR0.out); (case side2 => exact HC0.out); (case side3 => exact gb HG HB); rintro e w70 ⟨v379, rfl, ho0, hb⟩; refine ⟨_, rfl, ?_⟩; have HO380 := zb.mk (Kd.rlo ho0 HB); replace HB := bst HB hb; (try clear hb); (try clear ho0)) | ((with_reducible refine zf (f := 18) rfl ?_); refine zs (some 26) rfl rfl Tryd.func18 (by kernel_rfl) rfl #[.slice A0 l0.length c0] rfl hq ?_; (with_reducible refine (zw.calls k _ _ l0 t381 t382 _ ?side3 ?side1 ?side2 A50.out).mono ?_); (case side1 => exact Kd.cx (Kd.qq HR0.out HB.out)); (case side2 => exact HC0.out); (case side3 => exact gb HG HB); rintro e w71 ⟨rfl, hb⟩; refine ⟨_, rfl, ?_⟩; replace HO380 := Kd.rbl HO380 hb; replace HB := bst HB hb; (try clear hb)) | ((with_reducible refine zf (f := 11) rfl ?_); refine zs (some 29) rfl rfl Tryd.func11 (by kernel_rfl) rfl #[] rfl hq ?_; (with_reducible refine (zV.calls k  true _ ?side1 A51.out).mono ?_); (case side1 => exact gb HG HB); rintro e w72 ⟨rfl, hb⟩; refine ⟨_, rfl, ?_⟩; replace HO380 := Kd.rbl HO380 hb; replace HB := bst HB hb; (try clear hb); obtain ⟨Ao73, co73, eo73⟩ := Kd.qg HO380.out; subst eo73))
       go_ret
       exact ⟨eq1, bl HB.out⟩
     ·rw [if_neg c59] at H
      have c59b0 := beq_eq_false_iff_ne.mpr c59
      have c59b1 := bne_iff_ne.mpr c59
      obtain rfl := Option.some.inj H
      go_enter Tryd.func5, Tryd.ntmps5
      go_wp2_with (first | ((with_reducible refine zf (f := 14) rfl ?_); refine zs (some 19) rfl rfl Tryd.func14 (by kernel_rfl) rfl #[.slice A0 l0.length c0, .int .i64 a1] rfl hq ?_; (with_reducible refine (zI.calls k _ _ l0 a1 t377 t378 _ ?side3 ?side1 ?side2 A3.out).mono ?_); (case side1 => exact Kd.cx HR0.out); (case side2 => exact HC0.out); (case side3 => exact gb HG HB); rintro e w74 ⟨v379, rfl, ho0, hb⟩; refine ⟨_, rfl, ?_⟩; have HO380 := zb.mk (Kd.rlo ho0 HB); replace HB := bst HB hb; (try clear hb); (try clear ho0)) | ((with_reducible refine zf (f := 18) rfl ?_); refine zs (some 26) rfl rfl Tryd.func18 (by kernel_rfl) rfl #[.slice A0 l0.length c0] rfl hq ?_; (with_reducible refine (zw.calls k _ _ l0 t381 t382 _ ?side3 ?side1 ?side2 A50.out).mono ?_); (case side1 => exact Kd.cx (Kd.qq HR0.out HB.out)); (case side2 => exact HC0.out); (case side3 => exact gb HG HB); rintro e w75 ⟨rfl, hb⟩; refine ⟨_, rfl, ?_⟩; replace HO380 := Kd.rbl HO380 hb; replace HB := bst HB hb; (try clear hb)) | ((with_reducible refine zf (f := 11) rfl ?_); refine zs (some 29) rfl rfl Tryd.func11 (by kernel_rfl) rfl #[] rfl hq ?_; (with_reducible refine (zV.calls k  true _ ?side1 A51.out).mono ?_); (case side1 => exact gb HG HB); rintro e w76 ⟨rfl, hb⟩; refine ⟨_, rfl, ?_⟩; replace HO380 := Kd.rbl HO380 hb; replace HB := bst HB hb; (try clear hb); obtain ⟨Ao77, co77, eo77⟩ := Kd.qg HO380.out; subst eo77))
      go_ret
      exact ⟨eq1, bl HB.out⟩
   ·rw [if_neg c53] at H
    have c53b0 := beq_eq_false_iff_ne.mpr c53
    have c53b1 := bne_iff_ne.mpr c53
    have c53b2 : ¬ (t377 = []) := fun h_ => c53 (by rw [h_]; rfl)
    obtain rfl := Option.some.inj H
    go_enter Tryd.func5, Tryd.ntmps5
    go_wp2_with (first | ((with_reducible refine zf (f := 14) rfl ?_); refine zs (some 19) rfl rfl Tryd.func14 (by kernel_rfl) rfl #[.slice A0 l0.length c0, .int .i64 a1] rfl hq ?_; (with_reducible refine (zI.calls k _ _ l0 a1 t377 t378 _ ?side3 ?side1 ?side2 A3.out).mono ?_); (case side1 => exact Kd.cx HR0.out); (case side2 => exact HC0.out); (case side3 => exact gb HG HB); rintro e w78 ⟨v379, rfl, ho0, hb⟩; refine ⟨_, rfl, ?_⟩; have HO380 := zb.mk (Kd.rlo ho0 HB); replace HB := bst HB hb; (try clear hb); (try clear ho0)) | ((with_reducible refine zf (f := 18) rfl ?_); refine zs (some 26) rfl rfl Tryd.func18 (by kernel_rfl) rfl #[.slice A0 l0.length c0] rfl hq ?_; (with_reducible refine (zw.calls k _ _ l0 t381 t382 _ ?side3 ?side1 ?side2 A50.out).mono ?_); (case side1 => exact Kd.cx (Kd.qq HR0.out HB.out)); (case side2 => exact HC0.out); (case side3 => exact gb HG HB); rintro e w79 ⟨rfl, hb⟩; refine ⟨_, rfl, ?_⟩; replace HO380 := Kd.rbl HO380 hb; replace HB := bst HB hb; (try clear hb)) | ((with_reducible refine zf (f := 11) rfl ?_); refine zs (some 29) rfl rfl Tryd.func11 (by kernel_rfl) rfl #[] rfl hq ?_; (with_reducible refine (zV.calls k  true _ ?side1 A51.out).mono ?_); (case side1 => exact gb HG HB); rintro e w80 ⟨rfl, hb⟩; refine ⟨_, rfl, ?_⟩; replace HO380 := Kd.rbl HO380 hb; replace HB := bst HB hb; (try clear hb); obtain ⟨Ao81, co81, eo81⟩ := Kd.qg HO380.out; subst eo81))
    go_ret
    exact ⟨eq1, bl HB.out⟩
  ·replace c52 := Bool.eq_false_iff.mpr c52
   subst c52
   replace H := ifF H
   obtain rfl := Option.some.inj H
   go_enter Tryd.func5, Tryd.ntmps5
   go_wp2_with (first | ((with_reducible refine zf (f := 14) rfl ?_); refine zs (some 19) rfl rfl Tryd.func14 (by kernel_rfl) rfl #[.slice A0 l0.length c0, .int .i64 a1] rfl hq ?_; (with_reducible refine (zI.calls k _ _ l0 a1 t377 t378 _ ?side3 ?side1 ?side2 A3.out).mono ?_); (case side1 => exact Kd.cx HR0.out); (case side2 => exact HC0.out); (case side3 => exact gb HG HB); rintro e w82 ⟨v379, rfl, ho0, hb⟩; refine ⟨_, rfl, ?_⟩; have HO380 := zb.mk (Kd.rlo ho0 HB); replace HB := bst HB hb; (try clear hb); (try clear ho0)) | ((with_reducible refine zf (f := 18) rfl ?_); refine zs (some 26) rfl rfl Tryd.func18 (by kernel_rfl) rfl #[.slice A0 l0.length c0] rfl hq ?_; (with_reducible refine (zw.calls k _ _ l0 t381 t382 _ ?side3 ?side1 ?side2 A50.out).mono ?_); (case side1 => exact Kd.cx (Kd.qq HR0.out HB.out)); (case side2 => exact HC0.out); (case side3 => exact gb HG HB); rintro e w83 ⟨rfl, hb⟩; refine ⟨_, rfl, ?_⟩; replace HO380 := Kd.rbl HO380 hb; replace HB := bst HB hb; (try clear hb)) | ((with_reducible refine zf (f := 11) rfl ?_); refine zs (some 29) rfl rfl Tryd.func11 (by kernel_rfl) rfl #[] rfl hq ?_; (with_reducible refine (zV.calls k  false _ ?side1 A51.out).mono ?_); (case side1 => exact gb HG HB); rintro e w84 ⟨rfl, hb⟩; refine ⟨_, rfl, ?_⟩; replace HO380 := Kd.rbl HO380 hb; replace HB := bst HB hb; (try clear hb)))
   go_ret
   exact ⟨eq1, bl HB.out⟩
mutual
def zX.l0 : Nat → List (S34) → List Bool → List Int → Int → Option ((List (S34)))
 | 0, _, _, _, _ => none
 | k + 1, x0, x1, x5, x6 => if x6 < (x0.length : Int) then (if 0 ≤ x6 then (if x6 < (x5.length : Int) then (if 0 ≤ (wrap64 (x6 + 1)) then (if (wrap64 (x6 + 1)) < (x5.length : Int) then ((some (x5.set ((wrap64 (x6 + 1)) : Int).toNat (rd x5 x6) : List Int)).bind fun y434 => (if x6 < (x1.length : Int) then (if rdOf false x1 x6 = true then (zX.l0 k x0 x1 y434 (wrap64 (x6 + 1))) else (zX.l0 k x0 x1 (y434.set ((wrap64 (x6 + 1)) : Int).toNat (wrap64 ((rd y434 (wrap64 (x6 + 1))) + 1))) (wrap64 (x6 + 1)))) else (none))) else (none)) else (none)) else (none)) else (none)) else (zX.l1 k x0 x1 x5 ([] : List (S34)) 0)
def zX.l1 : Nat → List (S34) → List Bool → List Int → List (S34) → Int → Option ((List (S34)))
 | 0, _, _, _, _, _ => none
 | k + 1, x0, x1, x5, x7, x8 => if x8 < (x0.length : Int) then (if 0 ≤ x8 then (if x8 < (x1.length : Int) then (if rdOf false x1 x8 = true then (zX.l1 k x0 x1 x5 x7 (wrap64 (x8 + 1))) else ((zN.f ((za x0 x8).f0)).bind fun t441 => (if t441 = true then (if 0 ≤ (wrap64 (x8 + ((za x0 x8).f1))) then (if (wrap64 (x8 + ((za x0 x8).f1))) < (x5.length : Int) then (if x8 < (x5.length : Int) then (if x7.length < 1759218604441 then (zX.l1 k x0 x1 x5 (x7 ++ [(⟨(za x0 x8).f0, wrap64 ((rd x5 (wrap64 (x8 + ((za x0 x8).f1)))) - (rd x5 x8)), (za x0 x8).f2, (za x0 x8).f3, (za x0 x8).f4, (⟨(za x0 x8).f5.f0, (za x0 x8).f5.f1, (za x0 x8).f5.f2, (za x0 x8).f5.f3⟩ : S32)⟩ : S34)]) (wrap64 (x8 + 1))) else (none)) else (none)) else (none)) else (none)) else (if x7.length < 1759218604441 then (zX.l1 k x0 x1 x5 (x7 ++ [(⟨(za x0 x8).f0, (za x0 x8).f1, (za x0 x8).f2, (za x0 x8).f3, (za x0 x8).f4, (⟨(za x0 x8).f5.f0, (za x0 x8).f5.f1, (za x0 x8).f5.f2, (za x0 x8).f5.f3⟩ : S32)⟩ : S34)]) (wrap64 (x8 + 1))) else (none))))) else (none)) else (none)) else (some x7)
end
def zX.f (k : Nat) (l0 : List (S34)) (l1 : List Bool) : Option ((List (S34))) := if 0 ≤ (wrap64 ((l0.length : Int) + 1)) then (if (wrap64 ((l0.length : Int) + 1) : Int).toNat ≤ 35184372088832 then (zX.l0 k l0 l1 (List.replicate (wrap64 ((l0.length : Int) + 1) : Int).toNat 0) 0) else (none)) else (none)
def zX.T15 : Bool × List (List Nat × List Nat) := (true, [([], []), ([], []), ([], []), ([2], [2]), ([1, 3], [1, 3]), ([0, 4], [0, 4]), ([5], [5]), ([], []), ([], []), ([7, 8], [7, 8]), ([9], [9]), ([6, 10], [6, 10]), ([0, 1, 2, 3, 4, 5, 6, 7, 8, 9, 10, 11], []), ([12, 11, 0, 1, 2, 3, 4, 5, 6, 7, 8, 9, 10, 11], [11, 12])])
def zX.B15 : List Nat := [0, 0, 0, 4, 14, 31, 63, 0, 0, 384, 896, 2047, 4095, 8191]
theorem zX.tab15 : rtab .any (opsOf Tryd.f54 15) = zX.T15 := by kernel_rfl
theorem zX.bits15 : waitsOk zX.T15.2 zX.B15 = true := by kernel_rfl
def xM.l0 : Nat → List (S34) → List Bool → Int → Option ((List (S34)))
 | 0, _, _, _ => none
 | k + 1, x0, x3, x4 => if x4 < (x0.length : Int) then (if 0 ≤ x4 then (if ((za x0 x4).f0) = 14 then (if x4 < (x3.length : Int) then (xM.l0 k x0 (x3.set (x4 : Int).toNat (((za x0 x4).f1) == 1)) (wrap64 (x4 + 1))) else (none)) else (if x4 < (x3.length : Int) then (xM.l0 k x0 (x3.set (x4 : Int).toNat false) (wrap64 (x4 + 1))) else (none))) else (none)) else ((zX.f k x0 x3).bind fun t457 => (some t457))
def xM.f (k : Nat) (l0 : List (S34)) : Option ((List (S34))) := if 0 ≤ (l0.length : Int) then (if ((l0.length : Int) : Int).toNat ≤ 281474976710656 then (xM.l0 k l0 (List.replicate ((l0.length : Int) : Int).toNat false) 0) else (none)) else (none)
mutual
def xf.j0 : Nat → Int → List Int → Bool → Bool → Int → Int → Int → Int → ByteArray → Int → Int → Int → Int → Option (List Int)
 | 0, _, _, _, _, _, _, _, _, _, _, _, _, _ => none
 | k + 1, x1, x6, x9, x32, x462000, x462001, x462002, x462003, x462004, x462005, x462006, x462007, x462008 => if x32 = true then (if x6.length < 17592186044416 then (xf.j1 k x1 (x6 ++ [wrap64 (x1 + x462001)]) x9 x462000 x462001 x462002 x462003 x462004 x462005 x462006 x462007 x462008) else (none)) else (xf.j1 k x1 x6 x9 x462000 x462001 x462002 x462003 x462004 x462005 x462006 x462007 x462008)
def xf.j1 : Nat → Int → List Int → Bool → Int → Int → Int → Int → ByteArray → Int → Int → Int → Int → Option (List Int)
 | 0, _, _, _, _, _, _, _, _, _, _, _, _ => none
 | k + 1, x1, x6, x9, x462000, x462001, x462002, x462003, x462004, x462005, x462006, x462007, x462008 => if x9 = true then (if x6.length < 17592186044416 then ((some (x6 ++ [wrap64 (x1 + 1)] : List Int)).bind fun y469 => ((zN.f x462000).bind fun t472 => (if t472 = true then (if (wrap64 (x1 + x462001)) > (wrap64 (x1 + 1)) then (if y469.length < 17592186044416 then (some (y469 ++ [wrap64 (x1 + x462001)])) else (none)) else (if (wrap64 (x1 + x462001)) = (wrap64 (x1 + 1)) then (some y469) else (some y469))) else (some y469)))) else (none)) else ((zN.f x462000).bind fun t476 => (if t476 = true then (if (wrap64 (x1 + x462001)) > (wrap64 (x1 + 1)) then (if x6.length < 17592186044416 then (some (x6 ++ [wrap64 (x1 + x462001)])) else (none)) else (if (wrap64 (x1 + x462001)) = (wrap64 (x1 + 1)) then (if x6.length < 17592186044416 then (some (x6 ++ [wrap64 (x1 + x462001)])) else (none)) else (some x6))) else (some x6)))
end
def xf.f (k : Nat) (l0 : List (S34)) (a1 : Int) : Option (List Int) := if 0 ≤ a1 then (if a1 < (l0.length : Int) then ((zK.f ((za l0 a1).f0)).bind fun bt462 => ((zN.f ((za l0 a1).f0)).bind fun t465 => (if t465 = true then (xf.j0 k a1 ([] : List Int) bt462.2.2 (decide ((wrap64 (a1 + ((za l0 a1).f1))) < (wrap64 (a1 + 1)))) ((za l0 a1).f0) ((za l0 a1).f1) ((za l0 a1).f2) ((za l0 a1).f3) ((za l0 a1).f4) ((za l0 a1).f5.f0) ((za l0 a1).f5.f1) ((za l0 a1).f5.f2) ((za l0 a1).f5.f3)) else (xf.j0 k a1 ([] : List Int) bt462.2.2 false ((za l0 a1).f0) ((za l0 a1).f1) ((za l0 a1).f2) ((za l0 a1).f3) ((za l0 a1).f4) ((za l0 a1).f5.f0) ((za l0 a1).f5.f1) ((za l0 a1).f5.f2) ((za l0 a1).f5.f3))))) else (none)) else (none)
mutual
def qX.l0 : Nat → List (S34) → List Bool → List Int → Option (List Bool × Int)
 | 0, _, _, _ => none
 | k + 1, x0, x6, x7 => if (x7.length : Int) > 0 then (if 0 < (x7.length : Int) then ((xf.f k x0 (rd x7 0)).bind fun t493 => (if 1 ≤ (x7.length : Int) then (qX.l1 k x0 x6 (x7.drop (1 : Int).toNat) t493 0) else (none))) else (none)) else (some (x6, 0))
def qX.l1 : Nat → List (S34) → List Bool → List Int → List Int → Int → Option (List Bool × Int)
 | 0, _, _, _, _, _ => none
 | k + 1, x0, x6, x7, x8, x9 => if x9 < (x8.length : Int) then (if 0 ≤ x9 then (if 0 ≤ (rd x8 x9) then (if (rd x8 x9) < (x6.length : Int) then (if (rdOf false x6 (rd x8 x9) = true) then (qX.l1 k x0 x6 x7 x8 (wrap64 (x9 + 1))) else (if x7.length < 17592186044416 then (qX.l1 k x0 (x6.set ((rd x8 x9) : Int).toNat true) (x7 ++ [rd x8 x9]) x8 (wrap64 (x9 + 1))) else (none))) else (none)) else (none)) else (none)) else (qX.l0 k x0 x6 x7)
end
def qX.f (k : Nat) (l0 : List (S34)) : Option (List Bool × Int) := (zw.f k l0).bind fun bt483 => (if bt483.2 = 0 then (if 0 ≤ (l0.length : Int) then (if ((l0.length : Int) : Int).toNat ≤ 281474976710656 then ((some (List.replicate ((l0.length : Int) : Int).toNat false : List Bool)).bind fun y485 => (if 0 < (y485.length : Int) then (qX.l0 k l0 (y485.set (0 : Int).toNat true) (([0] : List Int))) else (none))) else (none)) else (none)) else (some (([] : List Bool), bt483.2)))
def harrowref20_dead.l0 : Nat → List (S34) → List Bool → List Bool → Int → Option ((List (S34)))
 | 0, _, _, _, _ => none
 | k + 1, x0, x3, x5, x6 => if x6 < (x0.length : Int) then (if 0 ≤ x6 then (if x6 < (x3.length : Int) then (if x6 < (x5.length : Int) then (harrowref20_dead.l0 k x0 x3 (x5.set (x6 : Int).toNat (!(rdOf false x3 x6))) (wrap64 (x6 + 1))) else (none)) else (none)) else (none)) else ((zX.f k x0 x5).bind fun t516 => (some t516))
def harrowref20_dead.f (k : Nat) (l0 : List (S34)) : Option ((List (S34))) := (qX.f k l0).bind fun bt507 => (if 0 ≤ (l0.length : Int) then (if ((l0.length : Int) : Int).toNat ≤ 281474976710656 then (harrowref20_dead.l0 k l0 bt507.1 (List.replicate ((l0.length : Int) : Int).toNat false) 0) else (none)) else (none))
def xO.l0 : Nat → List (S34) → Int → Int → Option (Int × Bool)
 | 0, _, _, _ => none
 | k + 1, x0, x1, x6 => if 0 ≤ x1 then (if x1 < (x0.length : Int) then (if ((za x0 x1).f0) = 14 then (if x6 > (x0.length : Int) then (some (0, false)) else (xO.l0 k x0 (wrap64 (x1 + ((za x0 x1).f1))) (wrap64 (x6 + 1)))) else (some (x1, true))) else (none)) else (none)
def xO.f (k : Nat) (l0 : List (S34)) (a1 : Int) : Option (Int × Bool) := if 0 ≤ a1 then (if a1 < (l0.length : Int) then (xO.l0 k l0 (wrap64 (a1 + ((za l0 a1).f1))) 0) else (none)) else (none)
@[reducible] def moreOf : Value → Value
 | .slice a n c => .slice a (n + 1) c
 | v => v
def harrowbook_LendCode.f (l0 : List (S34)) : Option ((List (S34))) := (some (([] : List (S34)) : List (S34))).bind fun y406 => (if y406.length + l0.length < 1759218604441 then ((some (y406 ++ l0 : List (S34))).bind fun y409 => (if y409.length < 1759218604441 then ((some (y409 ++ [(⟨(-77), 0, 0, 0, (⟨#[]⟩ : ByteArray), (⟨0, 0, 0, 0⟩ : S32)⟩ : S34)] : List (S34))).bind fun y412 => (if 0 ≤ (l0.length : Int) then (if (l0.length : Int) ≤ (y412.length : Int) then (some (y412.take ((l0.length : Int) : Int).toNat)) else (none)) else (none))) else (none))) else (none))
def harrowref20_copied.f (l0 : List (S34)) : Option ((List (S34))) := (some (([] : List (S34)) : List (S34))).bind fun y418 => (if y418.length + l0.length < 1759218604441 then (some (y418 ++ l0)) else (none))
def xr.l0 : Nat → List (S34) → List (S34) → Int → Option ((List (S34)))
 | 0, _, _, _ => none
 | k + 1, x0, x3, x4 => if (wrap64 (x4 + 1)) < (x0.length : Int) then (if 0 ≤ x4 then (if x4 < (x0.length : Int) then (if ((za x0 x4).f0) = 15 then (if 0 ≤ (wrap64 (x4 + 1)) then (if ((za x0 (wrap64 (x4 + 1))).f0) = 16 then (if x4 < (x3.length : Int) then (xr.l0 k x0 (x3.set (x4 : Int).toNat (⟨14, (za x3 x4).f1, (za x3 x4).f2, (za x3 x4).f3, (za x3 x4).f4, (⟨(za x3 x4).f5.f0, (za x3 x4).f5.f1, (za x3 x4).f5.f2, (za x3 x4).f5.f3⟩ : S32)⟩ : S34)) (wrap64 (x4 + 1))) else (none)) else (xr.l0 k x0 x3 (wrap64 (x4 + 1)))) else (none)) else (xr.l0 k x0 x3 (wrap64 (x4 + 1)))) else (none)) else (none)) else (some x3)
def xr.f (k : Nat) (l0 : List (S34)) : Option ((List (S34))) := (harrowref20_copied.f l0).bind fun t424 => (xr.l0 k l0 t424 0)
end Go.Proofs.YtnpeabmlcakegaaDoor.PAll
namespace Go.Proofs.YtnpeabmlcakegaaDoor.PAll
open Go.RowKit Go.Proofs.YtnpeabmlcakegaaDoorW.PrintWords Go.Proofs.YtnpeabmlcakegaaDoorW.PrintLast Go.Proofs.YtnpeabmlcakegaaDoorW.PrintMore
attribute [local go_sem] zR zY z4 qH qF qN qO qv qu qE qG
set_option linter.unusedVariables false
set_option linter.unusedSimpArgs false
attribute [local go_sem high] eqA34
def qz.l0 : Nat → List (S34) → List (S34) → Int → Option ((List (S34)))
 | 0, _, _, _ => none
 | k + 1, x0, x3, x4 => if x4 < (x0.length : Int) then (if 0 ≤ x4 then ((zN.f ((za x0 x4).f0)).bind fun t526 => (if t526 = true then ((xO.f k x0 x4).bind fun bt527 => (if bt527.2 = true then (if x4 < (x3.length : Int) then ((some (x3.set (x4 : Int).toNat (⟨(za x3 x4).f0, wrap64 (bt527.1 - x4), (za x3 x4).f2, (za x3 x4).f3, (za x3 x4).f4, (⟨(za x3 x4).f5.f0, (za x3 x4).f5.f1, (za x3 x4).f5.f2, (za x3 x4).f5.f3⟩ : S32)⟩ : S34) : List (S34))).bind fun y529 => (if 0 ≤ bt527.1 then (if bt527.1 < (x0.length : Int) then (if ((za x0 x4).f0) = 14 then (if ((za x0 bt527.1).f0) = 16 then (qz.l0 k x0 (y529.set (x4 : Int).toNat (⟨(za x0 bt527.1).f0, 0, 0, 0, (⟨#[]⟩ : ByteArray), (⟨0, 0, 0, 0⟩ : S32)⟩ : S34)) (wrap64 (x4 + 1))) else (if ((za x0 bt527.1).f0) = 17 then (qz.l0 k x0 (y529.set (x4 : Int).toNat (⟨(za x0 bt527.1).f0, 0, 0, 0, (⟨#[]⟩ : ByteArray), (⟨0, 0, 0, 0⟩ : S32)⟩ : S34)) (wrap64 (x4 + 1))) else (if ((za x0 bt527.1).f0) = 13 then (qz.l0 k x0 (y529.set (x4 : Int).toNat (⟨(za x0 bt527.1).f0, 0, 0, 0, (⟨#[]⟩ : ByteArray), (⟨0, 0, 0, 0⟩ : S32)⟩ : S34)) (wrap64 (x4 + 1))) else (if ((za x0 bt527.1).f0) = 12 then (qz.l0 k x0 (y529.set (x4 : Int).toNat (⟨(za x0 bt527.1).f0, 0, 0, 0, (⟨#[]⟩ : ByteArray), (⟨0, 0, 0, 0⟩ : S32)⟩ : S34)) (wrap64 (x4 + 1))) else (qz.l0 k x0 y529 (wrap64 (x4 + 1))))))) else (qz.l0 k x0 y529 (wrap64 (x4 + 1)))) else (none)) else (none))) else (none)) else (qz.l0 k x0 x3 (wrap64 (x4 + 1))))) else (qz.l0 k x0 x3 (wrap64 (x4 + 1))))) else (none)) else (some x3)
def qz.f (k : Nat) (l0 : List (S34)) : Option ((List (S34))) := (harrowref20_copied.f l0).bind fun t522 => (qz.l0 k l0 t522 0)
def harrowref20_same.l0 : Nat → List (S34) → List (S34) → Int → Option (Bool)
 | 0, _, _, _ => none
 | k + 1, x0, x1, x5 => if x5 < (x0.length : Int) then (if 0 ≤ x5 then (if x5 < (x1.length : Int) then (if (!(((za x0 x5).f0) == ((za x1 x5).f0)) || (!(((za x0 x5).f1) == ((za x1 x5).f1)) || (!(((za x0 x5).f2) == ((za x1 x5).f2)) || (!(((za x0 x5).f3) == ((za x1 x5).f3)) || (!((((za x0 x5).f4).toList) == (((za x1 x5).f4).toList)) || ((!(((za x0 x5).f5.f0) == ((za x1 x5).f5.f0)) || (!(((za x0 x5).f5.f1) == ((za x1 x5).f5.f1)) || (!(((za x0 x5).f5.f2) == ((za x1 x5).f5.f2)) || (!(((za x0 x5).f5.f3) == ((za x1 x5).f5.f3)))))))))))) = true then (some false) else (harrowref20_same.l0 k x0 x1 (wrap64 (x5 + 1)))) else (none)) else (none)) else (some true)
def harrowref20_same.f (k : Nat) (l0 : List (S34)) (l1 : List (S34)) : Option (Bool) := if (l0.length : Int) = (l1.length : Int) then (harrowref20_same.l0 k l0 l1 0) else (some false)
end Go.Proofs.YtnpeabmlcakegaaDoor.PAll
namespace Go.Proofs.YtnpeabmlcakegaaDoor.PAll
open Go.RowKit Go.Proofs.YtnpeabmlcakegaaDoorW.PrintWords
set_option linter.unusedVariables false
set_option linter.unusedSimpArgs false
section
variable {α β : Type} {c : Prop} [Decidable c] {a b : Nat → Option α} {r : α}
theorem zd (h : c) (k : Ev a r) : Ev (fun n => if c then a n else b n) r := by simpa only [if_pos h] using k
theorem ze (h : ¬ c) (k : Ev b r) : Ev (fun n => if c then a n else b n) r := by simpa only [if_neg h] using k
theorem zo : Ev (fun _ => some r) r := Ev.now r
theorem zz {g : Nat → Option β} {f : Nat → β → Option α} {y : β} (h : Ev g y) (k : Ev (fun n => f n y) r) : Ev (fun n => (g n).bind (f n)) r := Ev.bind h k
theorem zC {g : Option β} {f : Nat → β → Option α} {y : β} (h : g = some y) (k : Ev (fun n => f n y) r) : Ev (fun n => g.bind (f n)) r := Ev.bind ⟨0, fun _ _ => h⟩ k
theorem zA {g f : Nat → Option α} (h : ∀ k, g (k + 1) = f k) (k : Ev f r) : Ev g r := Ev.step h k
theorem ev_same {g : Nat → Option α} {r q : α} (h : Ev g r) (h' : Ev g q) : r = q := by
  obtain ⟨K, h⟩ := h
  obtain ⟨K', h'⟩ := h'
  have h1 := h (max K K') (Nat.le_max_left _ _)
  rw [h' (max K K') (Nat.le_max_right _ _)] at h1
  exact (Option.some.inj h1).symm
end
theorem qR {x : Int} (h0 : -9223372036854775808 ≤ x) (h1 : x ≤ 9223372036854775807) : wrap64 x = x := by unfold wrap64; omega
theorem qS {i : Nat} (h : i < 9223372036854775807) : wrap64 ((i : Int) + 1) = ((i + 1 : Nat) : Int) := by rw [qR (by omega) (by omega)]; omega
def arF (op : Int) : Int := if op = 7 ∨ op = 8 then 2 else if (1 ≤ op ∧ op ≤ 6) ∨ op = 17 then 0 else if 8 < op ∧ op ≤ 23 then 1 else -1
theorem arity_j1 (op : Int) (b : Bool) : Ev (fun k => zF.j1 k op b) (if b = true then 0 else if 8 < op ∧ op ≤ 23 then 1 else -1) := by
  refine zA (fun k => zF.j1.eq_2 _ _ _) ?_
  cases b with
  | true => refine zd rfl ?_; exact zo
  | false =>
    refine ze (by decide) ?_
    by_cases h1 : op > 8
    · refine zd h1 ?_
      by_cases h2 : op ≤ 23
      · refine zd h2 ?_
        simp only [Bool.false_eq_true, if_false]
        rw [if_pos ⟨by omega, h2⟩]
        exact zo
      · refine ze h2 ?_
        simp only [Bool.false_eq_true, if_false]
        rw [if_neg (by omega)]
        exact zo
    · refine ze h1 ?_
      simp only [Bool.false_eq_true, if_false]
      rw [if_neg (by omega)]
      exact zo
theorem arity_j0 (op : Int) (b : Bool) : Ev (fun k => zF.j0 k op b) (if b = true then 2 else if (1 ≤ op ∧ op ≤ 6) ∨ op = 17 then 0 else if 8 < op ∧ op ≤ 23 then 1 else -1) := by
  refine zA (fun k => zF.j0.eq_2 _ _ _) ?_
  cases b with
  | true => refine zd rfl ?_; exact zo
  | false =>
    refine ze (by decide) ?_
    simp only [Bool.false_eq_true, if_false]
    by_cases h1 : op ≥ 1
    · refine zd h1 ?_
      by_cases h2 : op ≤ 6
      · refine zd h2 ?_
        rw [if_pos (Or.inl ⟨h1, h2⟩)]
        exact arity_j1 op true
      · refine ze h2 ?_
        by_cases h3 : op = 17
        · rw [if_pos (Or.inr h3), show (op == 17) = true by simpa using h3]
          exact arity_j1 op true
        · rw [if_neg (by omega), show (op == 17) = false by simpa using h3]
          exact arity_j1 op false
    · refine ze h1 ?_
      rw [if_neg (by omega), show (op == 17) = false by simp; omega]
      exact arity_j1 op false
theorem arity_ev (op : Int) : Ev (fun k => zF.f k op) (arF op) := by
  unfold zF.f arF
  by_cases h : op = 7
  · refine zd h ?_
    rw [if_pos (Or.inl h)]
    exact arity_j0 op true
  · refine ze h ?_
    by_cases h8 : op = 8
    · rw [if_pos (Or.inr h8), show (op == 8) = true by simpa using h8]
      exact arity_j0 op true
    · rw [if_neg (by omega), show (op == 8) = false by simpa using h8]
      exact arity_j0 op false
theorem head_some (c : Int) : ∃ b, qU.f c = some b := by
  unfold qU.f
  repeat' split
  all_goals exact ⟨_, rfl⟩
theorem counted_some (c : Int) : ∃ b, xl.f c = some b := by
  unfold xl.f
  repeat' split
  all_goals exact ⟨_, rfl⟩
theorem name_loop (s : ByteArray) (hs : s.size ≤ 140737488351232) (d : Nat) : ∀ i : Nat, i + d = s.size → ∃ b, Ev (fun k => zq.l0 k s (s.size : Int) (i : Int)) b := by
  induction d with
  | zero =>
    intro i hi
    refine ⟨true, zA (fun k => zq.l0.eq_2 _ _ _ _) ?_⟩
    refine ze (by omega) ?_
    exact zo
  | succ d ih =>
    intro i hi
    obtain ⟨b, hb⟩ := head_some (bt s (i : Int))
    obtain ⟨q, hq⟩ := ih (i + 1) (by omega)
    have hw := qS (i := i) (by omega)
    have pre : ∀ r, Ev (fun k => if b = true then zq.l0 k s (s.size : Int) (wrap64 ((i : Int) + 1)) else if bt s (i : Int) < 48 then some false else if bt s (i : Int) > 57 then some false else zq.l0 k s (s.size : Int) (wrap64 ((i : Int) + 1))) r → Ev (fun k => zq.l0 k s (s.size : Int) (i : Int)) r := by
      intro r h
      refine zA (fun k => zq.l0.eq_2 _ _ _ _) ?_
      refine zd (by omega) ?_
      refine zd (by omega) ?_
      refine zd (by omega) ?_
      exact zC hb h
    cases b with
    | true =>
      refine ⟨q, pre _ ?_⟩
      refine zd rfl ?_
      rw [hw]; exact hq
    | false =>
      by_cases h1 : bt s (i : Int) < 48
      · refine ⟨false, pre _ ?_⟩
        refine ze (by decide) ?_
        refine zd h1 ?_
        exact zo
      · by_cases h2 : bt s (i : Int) > 57
        · refine ⟨false, pre _ ?_⟩
          refine ze (by decide) ?_
          refine ze h1 ?_
          refine zd h2 ?_
          exact zo
        · refine ⟨q, pre _ ?_⟩
          refine ze (by decide) ?_
          refine ze h1 ?_
          refine ze h2 ?_
          rw [hw]; exact hq
theorem name_j0 (s : ByteArray) (hs : s.size ≤ 140737488351232) (b : Bool) : ∃ r, Ev (fun k => zq.j0 k s b) r := by
  cases b with
  | true =>
    refine ⟨false, zA (fun k => zq.j0.eq_2 _ _ _) ?_⟩
    refine zd rfl ?_
    exact zo
  | false =>
    obtain ⟨q, hq⟩ := name_loop s hs s.size 0 (by omega)
    refine ⟨q, zA (fun k => zq.j0.eq_2 _ _ _) ?_⟩
    refine ze (by decide) ?_
    exact hq
theorem name_total (s : ByteArray) (hs : s.size ≤ 140737488351232) : ∃ r, Ev (fun k => zq.f k s) r := by
  unfold zq.f
  by_cases h : s.toList = ([] : List UInt8)
  · obtain ⟨r, hr⟩ := name_j0 s hs true
    exact ⟨r, zd h hr⟩
  · by_cases h1 : (s.size : Int) > 32
    · obtain ⟨r, hr⟩ := name_j0 s hs true
      exact ⟨r, ze h (zd h1 hr)⟩
    · have h2 : 0 < (s.size : Int) := by
        rcases Nat.eq_zero_or_pos s.size with h0 | h0
        · exfalso
          apply h
          have : s.toList.length = 0 := by rw [ByteArray.toList_eq]; simpa using h0
          exact List.eq_nil_of_length_eq_zero this
        · omega
      obtain ⟨b, hb⟩ := head_some (bt s 0)
      obtain ⟨r, hr⟩ := name_j0 s hs (!b)
      exact ⟨r, ze h (ze h1 (zd h2 (zC hb hr)))⟩
theorem template_loop (s : ByteArray) (hs : s.size ≤ 140737488351232) (d : Nat) : ∀ i : Nat, s.size ≤ i + d → i ≤ s.size + 1 → ∃ b, Ev (fun k => zt.l0 k s (i : Int)) b := by
  induction d with
  | zero =>
    intro i hi _
    refine ⟨true, zA (fun k => zt.l0.eq_2 _ _ _) ?_⟩
    refine ze (by omega) ?_
    exact zo
  | succ d ih =>
    intro i hi hi2
    by_cases h0 : (i : Int) < (s.size : Int)
    · have hw := qS (i := i) (by omega)
      have hw2 := qS (i := i + 1) (by omega)
      have pre : ∀ r, Ev (fun k => if bt s (i : Int) = 37 then (if (((i + 1 : Nat) : Int)) = (s.size : Int) then some false else if 0 ≤ ((i + 1 : Nat) : Int) then if ((i + 1 : Nat) : Int) < (s.size : Int) then if bt s ((i + 1 : Nat) : Int) = 37 then zt.l0 k s (((i + 1 + 1 : Nat) : Int)) else if bt s ((i + 1 : Nat) : Int) < 48 then some false else if bt s ((i + 1 : Nat) : Int) > 57 then some false else zt.l0 k s (((i + 1 + 1 : Nat) : Int)) else none else none) else zt.l0 k s ((i + 1 : Nat) : Int)) r → Ev (fun k => zt.l0 k s (i : Int)) r := by
        intro r h
        refine zA (fun k => zt.l0.eq_2 _ _ _) ?_
        refine zd h0 ?_
        refine zd (by omega) ?_
        rw [hw, hw2]
        exact h
      obtain ⟨q, hq⟩ := ih (i + 1) (by omega) (by omega)
      by_cases h1 : bt s (i : Int) = 37
      · by_cases h2 : (((i + 1 : Nat) : Int)) = (s.size : Int)
        · exact ⟨false, pre _ (zd h1 (zd h2 zo))⟩
        · obtain ⟨q2, hq2⟩ := ih (i + 1 + 1) (by omega) (by omega)
          by_cases h3 : bt s ((i + 1 : Nat) : Int) = 37
          · exact ⟨q2, pre _ (zd h1 (ze h2 (zd (by omega) (zd (by omega) (zd h3 hq2)))))⟩
          · by_cases h4 : bt s ((i + 1 : Nat) : Int) < 48
            · exact ⟨false, pre _ (zd h1 (ze h2 (zd (by omega) (zd (by omega) (ze h3 (zd h4 zo))))))⟩
            · by_cases h5 : bt s ((i + 1 : Nat) : Int) > 57
              · exact ⟨false, pre _ (zd h1 (ze h2 (zd (by omega) (zd (by omega) (ze h3 (ze h4 (zd h5 zo)))))))⟩
              · exact ⟨q2, pre _ (zd h1 (ze h2 (zd (by omega) (zd (by omega) (ze h3 (ze h4 (ze h5 hq2)))))))⟩
      · exact ⟨q, pre _ (ze h1 hq)⟩
    · refine ⟨true, zA (fun k => zt.l0.eq_2 _ _ _) ?_⟩
      exact ze h0 zo
theorem template_total (s : ByteArray) (hs : s.size ≤ 140737488351232) : ∃ r, Ev (fun k => zt.f k s) r := by
  unfold zt.f
  by_cases h : (s.size : Int) > 255
  · exact ⟨false, zd h zo⟩
  · obtain ⟨q, hq⟩ := template_loop s hs s.size 0 (by omega) (by omega)
    exact ⟨q, ze h hq⟩
theorem fields_j1 (x : Bool) (op n : Int) (s : ByteArray) (hs : s.size ≤ 140737488351232) (w0 w1 w2 w3 : Int) : ∃ r, Ev (fun k => zp.j1 k x op n s w0 w1 w2 w3) r := by
  have pre : ∀ r, Ev (fun k => if x = true then some false else if op = 4 then (if s.toList = ([] : List UInt8) then some false else some (decide ((s.size : Int) ≤ 255))) else if op = 6 then (zq.f k s).bind fun t => some t else if op = 19 then (if s.toList = ([] : List UInt8) then some true else (zq.f k s).bind fun t => some t) else if op = 22 then (zt.f k s).bind fun t => some t else some (s.toList == ([] : List UInt8))) r → Ev (fun k => zp.j1 k x op n s w0 w1 w2 w3) r :=
    fun r h => zA (fun k => zp.j1.eq_2 _ _ _ _ _ _ _ _ _) h
  obtain ⟨a, ha⟩ := name_total s hs
  obtain ⟨b, hb⟩ := template_total s hs
  cases x with
  | true => exact ⟨_, pre _ (zd rfl zo)⟩
  | false =>
    by_cases h4 : op = 4
    · by_cases he : s.toList = ([] : List UInt8)
      · exact ⟨_, pre _ (ze (by decide) (zd h4 (zd he zo)))⟩
      · exact ⟨_, pre _ (ze (by decide) (zd h4 (ze he zo)))⟩
    · by_cases h6 : op = 6
      · exact ⟨_, pre _ (ze (by decide) (ze h4 (zd h6 (zz ha zo))))⟩
      · by_cases h19 : op = 19
        · by_cases he : s.toList = ([] : List UInt8)
          · exact ⟨_, pre _ (ze (by decide) (ze h4 (ze h6 (zd h19 (zd he zo)))))⟩
          · exact ⟨_, pre _ (ze (by decide) (ze h4 (ze h6 (zd h19 (ze he (zz ha zo))))))⟩
        · by_cases h22 : op = 22
          · exact ⟨_, pre _ (ze (by decide) (ze h4 (ze h6 (ze h19 (zd h22 (zz hb zo))))))⟩
          · exact ⟨_, pre _ (ze (by decide) (ze h4 (ze h6 (ze h19 (ze h22 zo)))))⟩
theorem fields_j0 (x : Bool) (op n : Int) (s : ByteArray) (hs : s.size ≤ 140737488351232) (w0 w1 w2 w3 : Int) : ∃ r, Ev (fun k => zp.j0 k x op n s w0 w1 w2 w3) r := by
  have pre : ∀ r, Ev (fun k => if x = true then some false else if n < 0 then zp.j1 k true op n s w0 w1 w2 w3 else if n > 50 then zp.j1 k true op n s w0 w1 w2 w3 else if n > 0 then (xl.f op).bind fun t => zp.j1 k (!t) op n s w0 w1 w2 w3 else zp.j1 k false op n s w0 w1 w2 w3) r → Ev (fun k => zp.j0 k x op n s w0 w1 w2 w3) r :=
    fun r h => zA (fun k => zp.j0.eq_2 _ _ _ _ _ _ _ _ _) h
  cases x with
  | true => exact ⟨_, pre _ (zd rfl zo)⟩
  | false =>
    obtain ⟨a, ha⟩ := fields_j1 true op n s hs w0 w1 w2 w3
    obtain ⟨b, hb⟩ := fields_j1 false op n s hs w0 w1 w2 w3
    by_cases h1 : n < 0
    · exact ⟨_, pre _ (ze (by decide) (zd h1 ha))⟩
    · by_cases h2 : n > 50
      · exact ⟨_, pre _ (ze (by decide) (ze h1 (zd h2 ha)))⟩
      · by_cases h3 : n > 0
        · obtain ⟨c, hc⟩ := counted_some op
          obtain ⟨d, hd⟩ := fields_j1 (!c) op n s hs w0 w1 w2 w3
          exact ⟨_, pre _ (ze (by decide) (ze h1 (ze h2 (zd h3 (zC hc hd)))))⟩
        · exact ⟨_, pre _ (ze (by decide) (ze h1 (ze h2 (ze h3 hb))))⟩
theorem fields_total (op n : Int) (s : ByteArray) (hs : s.size ≤ 140737488351232) (w0 w1 w2 w3 : Int) : ∃ r, Ev (fun k => zp.f k op n s w0 w1 w2 w3) r := by
  unfold zp.f
  by_cases h : op = 5
  · obtain ⟨r, hr⟩ := fields_j0 false op n s hs w0 w1 w2 w3
    exact ⟨r, zd h hr⟩
  · obtain ⟨r, hr⟩ := fields_j0 _ op n s hs w0 w1 w2 w3
    exact ⟨r, ze h hr⟩
def pany : S63 := ⟨3, 0, ⟨#[]⟩, ⟨0, 0, 0, 0⟩⟩
theorem any_fields : Ev (fun k => zp.f k 3 0 ⟨#[]⟩ 0 0 0 0) true := by
  unfold zp.f
  refine ze (by decide) ?_
  refine zA (fun k => zp.j0.eq_2 _ _ _ _ _ _ _ _ _) ?_
  refine ze (by decide) (ze (by decide) (ze (by decide) (ze (by decide) ?_)))
  refine zA (fun k => zp.j1.eq_2 _ _ _ _ _ _ _ _ _) ?_
  refine ze (by decide) (ze (by decide) (ze (by decide) (ze (by decide) (ze (by decide) ?_))))
  have h : ((⟨#[]⟩ : ByteArray).toList == ([] : List UInt8)) = true := by decide +kernel
  rw [h]
  exact zo
theorem w01 : wrap64 (0 + 1) = 1 := qR (by decide) (by decide)
theorem w11 : wrap64 (1 + 1) = 2 := qR (by decide) (by decide)
theorem w1m : wrap64 (1 - 1) = 0 := qR (by decide) (by decide)
theorem w2m : wrap64 (2 - 1) = 1 := qR (by decide) (by decide)
theorem each_any (rest : List S63) (r : Int × Int)
    (h : Ev (fun k => zB.l0 k (pany :: rest) [⟨0, 1⟩] (pany :: rest) (((pany :: rest).length : Nat) : Int) 1) r) :
    Ev (fun k => zB.l0 k (pany :: rest) [] (pany :: rest) (((pany :: rest).length : Nat) : Int) 0) r := by
  have hl : (((pany :: rest).length : Nat) : Int) = (rest.length : Int) + 1 := by simp
  have hr : zi (pany :: rest) 0 = pany := rfl
  refine zA (fun k => zB.l0.eq_2 _ _ _ _ _ _) ?_
  refine zd (by omega) (zd (by omega) (zd (by omega) ?_))
  rw [hr]
  refine zz (y := 0) (arity_ev 3) ?_
  refine ze (by decide) ?_
  refine zz (y := true) any_fields ?_
  refine zd rfl ?_
  refine zA (fun k => zB.l1.eq_2 _ _ _ _ _ _ _ _ _ _ _ _ _ _ _ _ _ _) ?_
  refine ze (by decide) ?_
  rw [w01]
  refine ze (by decide) (zd (by decide) ?_)
  exact zC (y := ()) rfl h
theorem check_any : Ev (fun k => qJ.f k [pany]) (0, 0) := by
  unfold qJ.f
  refine ze (by decide) ?_
  refine zz (y := (0, 0)) ?_ zo
  unfold zB.f
  refine zd (by decide) (zd (by decide) ?_)
  refine each_any [] _ ?_
  refine zA (fun k => zB.l0.eq_2 _ _ _ _ _ _) ?_
  have hl : (([pany].length : Nat) : Int) = 1 := rfl
  rw [hl, w1m]
  refine ze (by decide) (ze (by decide) ?_)
  refine zd (by decide) (zd (by decide) (zd (by decide) ?_))
  exact zo
theorem check_pair (op n : Int) (s : ByteArray) (w0 w1 w2 w3 : Int) (har : arF op = 1) (b : Bool) (hb : Ev (fun k => zp.f k op n s w0 w1 w2 w3) b) :
    Ev (fun k => qJ.f k [pany, ⟨op, n, s, ⟨w0, w1, w2, w3⟩⟩]) (if b = true then (0, 0) else (1, 41)) := by
  unfold qJ.f
  refine ze (by simp) ?_
  refine zz (y := (if b = true then (0, 0) else (1, 41))) ?_ zo
  unfold zB.f
  refine zd (by simp) (zd (by simp) ?_)
  refine each_any [⟨op, n, s, ⟨w0, w1, w2, w3⟩⟩] _ ?_
  have hr : zi [pany, ⟨op, n, s, ⟨w0, w1, w2, w3⟩⟩] 1 = ⟨op, n, s, ⟨w0, w1, w2, w3⟩⟩ := rfl
  refine zA (fun k => zB.l0.eq_2 _ _ _ _ _ _) ?_
  refine zd (by simp) (zd (by decide) (zd (by simp) ?_))
  rw [hr]
  refine zz (y := 1) (har ▸ arity_ev op) ?_
  refine ze (by decide) ?_
  refine zz hb ?_
  cases b with
  | false => exact ze (by decide) zo
  | true =>
    refine zd rfl ?_
    simp only [if_true]
    refine zA (fun k => zB.l1.eq_2 _ _ _ _ _ _ _ _ _ _ _ _ _ _ _ _ _ _) ?_
    rw [w1m, w01]
    refine zd (by decide) (ze (by decide) (zd (by decide) (zd (by decide) (ze (by decide) ?_))))
    refine zA (fun k => zB.l1.eq_2 _ _ _ _ _ _ _ _ _ _ _ _ _ _ _ _ _ _) ?_
    have hm : mx 0 ((zH [⟨0, 1⟩] 0).f1) = 1 := by decide
    rw [hm, w11]
    refine ze (by decide) (ze (by decide) (zd (by decide) ?_))
    refine zC (y := ()) rfl ?_
    refine zA (fun k => zB.l0.eq_2 _ _ _ _ _ _) ?_
    have hl : (([pany, ⟨op, n, s, ⟨w0, w1, w2, w3⟩⟩].length : Nat) : Int) = 2 := rfl
    rw [hl, w2m]
    refine ze (by decide) (ze (by decide) (zd (by decide) (zd (by decide) (zd (by decide) ?_))))
    exact zo
theorem join_ev (op n : Int) (s : ByteArray) (w0 w1 w2 w3 : Int) (har : arF op = 1) (b : Bool) (hb : Ev (fun k => zp.f k op n s w0 w1 w2 w3) b) :
    ∃ l, Ev (fun k => ql.f k op n s w0 w1 w2 w3 [[pany]]) (l, if b = true then 0 else 41) := by
  unfold ql.f
  cases b with
  | false =>
    refine ⟨[], ?_⟩
    refine zz (y := 1) (har ▸ arity_ev op) ?_
    refine ze (by decide) (zz hb ?_)
    exact ze (by decide) zo
  | true =>
    refine ⟨[pany, ⟨op, n, s, ⟨w0, w1, w2, w3⟩⟩], ?_⟩
    refine zz (y := 1) (har ▸ arity_ev op) ?_
    refine ze (by decide) (zz hb ?_)
    refine zd rfl (zd (by decide) ?_)
    refine zA (fun k => ql.l0.eq_2 _ _ _ _ _ _ _ _ _ _ _ _) ?_
    refine zd (by decide) (zd (by decide) (zd (by decide) ?_))
    have hr : rd_L6 [[pany]] 0 = [pany] := rfl
    rw [hr]
    refine zz check_any ?_
    refine zd rfl (zd (by decide) ?_)
    rw [w01]
    refine zA (fun k => ql.l0.eq_2 _ _ _ _ _ _ _ _ _ _ _ _) ?_
    refine ze (by decide) (zd (by decide) ?_)
    refine zz (y := ([pany, ⟨op, n, s, ⟨w0, w1, w2, w3⟩⟩], 0)) ?_ zo
    unfold xb.f
    refine zz (check_pair op n s w0 w1 w2 w3 har true hb) ?_
    exact zd rfl zo
theorem capture_ev (c n : Int) (s : ByteArray) (h2 : 2 ≤ c) (h7 : c ≤ 7) (b : Bool) (hb : Ev (fun k => zp.f k (c + 16) n s 0 0 0 0) b) : Ev (fun k => qb.f k c n s) b := by
  unfold qb.f
  refine ze (by omega) ?_
  have hw : wrap64 (wrap64 (c - 2) + 18) = c + 16 := by rw [qR (x := c - 2) (by omega) (by omega), qR (by omega) (by omega)]; omega
  rw [hw]
  have har : arF (c + 16) = 1 := by
    unfold arF
    rw [if_neg (by omega), if_neg (by omega), if_pos (by omega)]
  obtain ⟨l, hl⟩ := join_ev (c + 16) n s 0 0 0 0 har b hb
  refine zz hl ?_
  cases b with
  | true => exact zo
  | false => exact zo
theorem capture_total (c n : Int) (s : ByteArray) (hs : s.size ≤ 140737488351232) (h1 : 1 ≤ c) (h7 : c ≤ 7) : ∃ b, Ev (fun k => qb.f k c n s) b := by
  by_cases hc : c = 1
  · subst hc
    unfold qb.f
    by_cases hn : n = 0
    · exact ⟨_, zd rfl (zd hn zo)⟩
    · exact ⟨_, zd rfl (ze hn zo)⟩
  · obtain ⟨b, hb⟩ := fields_total (c + 16) n s hs 0 0 0 0
    exact ⟨b, capture_ev c n s (by omega) h7 b hb⟩
theorem fits_j0 (op : Int) (x9 : Bool) (a0 a1 a2 a3 : Int) (a4 : ByteArray) (a5 a6 a7 a8 : Int) (hs : a4.size ≤ 140737488351232) : ∃ b, Ev (fun k => zO.j0 k op x9 a0 a1 a2 a3 a4 a5 a6 a7 a8) b := by
  have pre : ∀ r, Ev (fun k => if x9 = true then (if a2 ≥ 0 then some (decide (a2 ≤ 255)) else some false) else if op = 18 then (if a2 ≥ 2 then (if a2 ≤ 7 then (qb.f k a2 a3 a4).bind fun t => some t else some false) else some false) else if op = 20 then (if a2 < 1 then some false else if a2 > 7 then some false else if a1 < 0 then some false else if a1 > 255 then some false else if a2 = 1 then (if a1 > 0 then some false else (qb.f k a2 a3 a4).bind fun t => some t) else (qb.f k a2 a3 a4).bind fun t => some t) else some true) r → Ev (fun k => zO.j0 k op x9 a0 a1 a2 a3 a4 a5 a6 a7 a8) r :=
    fun r h => zA (fun k => zO.j0.eq_2 _ _ _ _ _ _ _ _ _ _ _ _) h
  cases x9 with
  | true =>
    by_cases h : a2 ≥ 0
    · exact ⟨_, pre _ (zd rfl (zd h zo))⟩
    · exact ⟨_, pre _ (zd rfl (ze h zo))⟩
  | false =>
    by_cases h18 : op = 18
    · by_cases h2 : a2 ≥ 2
      · by_cases h7 : a2 ≤ 7
        · obtain ⟨b, hb⟩ := capture_total a2 a3 a4 hs (by omega) h7
          exact ⟨_, pre _ (ze (by decide) (zd h18 (zd h2 (zd h7 (zz hb zo)))))⟩
        · exact ⟨_, pre _ (ze (by decide) (zd h18 (zd h2 (ze h7 zo))))⟩
      · exact ⟨_, pre _ (ze (by decide) (zd h18 (ze h2 zo)))⟩
    · by_cases h20 : op = 20
      · by_cases c1 : a2 < 1
        · exact ⟨_, pre _ (ze (by decide) (ze h18 (zd h20 (zd c1 zo))))⟩
        · by_cases c2 : a2 > 7
          · exact ⟨_, pre _ (ze (by decide) (ze h18 (zd h20 (ze c1 (zd c2 zo)))))⟩
          · by_cases c3 : a1 < 0
            · exact ⟨_, pre _ (ze (by decide) (ze h18 (zd h20 (ze c1 (ze c2 (zd c3 zo))))))⟩
            · by_cases c4 : a1 > 255
              · exact ⟨_, pre _ (ze (by decide) (ze h18 (zd h20 (ze c1 (ze c2 (ze c3 (zd c4 zo)))))))⟩
              · obtain ⟨b, hb⟩ := capture_total a2 a3 a4 hs (by omega) (by omega)
                by_cases c5 : a2 = 1
                · by_cases c6 : a1 > 0
                  · exact ⟨_, pre _ (ze (by decide) (ze h18 (zd h20 (ze c1 (ze c2 (ze c3 (ze c4 (zd c5 (zd c6 zo)))))))))⟩
                  · exact ⟨_, pre _ (ze (by decide) (ze h18 (zd h20 (ze c1 (ze c2 (ze c3 (ze c4 (zd c5 (ze c6 (zz hb zo))))))))))⟩
                · exact ⟨_, pre _ (ze (by decide) (ze h18 (zd h20 (ze c1 (ze c2 (ze c3 (ze c4 (ze c5 (zz hb zo)))))))))⟩
      · exact ⟨_, pre _ (ze (by decide) (ze h18 (ze h20 zo)))⟩
theorem fits_total (x : S34) (h0 : 1 ≤ x.f0) (h1 : x.f0 ≤ 20) (hs : x.f4.size ≤ 140737488351232) : ∃ b, Ev (fun k => zO.f k x.f0 x.f1 x.f2 x.f3 x.f4 x.f5.f0 x.f5.f1 x.f5.f2 x.f5.f3) b := by
  unfold zO.f
  have hp : ∃ t, qc.f x.f0 x.f1 x.f2 x.f3 x.f4 x.f5.f0 x.f5.f1 x.f5.f2 x.f5.f3 = some t := by
    unfold qc.f
    rw [if_pos (by omega), if_pos (by omega)]
    exact ⟨_, rfl⟩
  obtain ⟨t, ht⟩ := hp
  have key : ∀ c : Bool, ∃ b, Ev (fun k => if c = true then some false else if x.f0 = 2 then zO.j0 k x.f0 (x.f0 == 2) x.f0 x.f1 x.f2 x.f3 x.f4 x.f5.f0 x.f5.f1 x.f5.f2 x.f5.f3 else zO.j0 k x.f0 (x.f0 == 5) x.f0 x.f1 x.f2 x.f3 x.f4 x.f5.f0 x.f5.f1 x.f5.f2 x.f5.f3) b := by
    intro c
    cases c with
    | true => exact ⟨_, zd rfl zo⟩
    | false =>
      by_cases h2 : x.f0 = 2
      · obtain ⟨b, hb⟩ := fits_j0 x.f0 (x.f0 == 2) x.f0 x.f1 x.f2 x.f3 x.f4 x.f5.f0 x.f5.f1 x.f5.f2 x.f5.f3 hs
        exact ⟨b, ze (by decide) (zd h2 hb)⟩
      · obtain ⟨b, hb⟩ := fits_j0 x.f0 (x.f0 == 5) x.f0 x.f1 x.f2 x.f3 x.f4 x.f5.f0 x.f5.f1 x.f5.f2 x.f5.f3 hs
        exact ⟨b, ze (by decide) (ze h2 hb)⟩
  obtain ⟨b, hb⟩ := key _
  exact ⟨b, zC ht hb⟩
theorem has_ev (op bit : Int) (h0 : 0 ≤ op) (h1 : op < 21) : zy.f op bit = some (hasB op bit) := by
  unfold zy.f
  rw [if_pos h0, if_pos h1]
  rfl
structure xc (l : List S34) : Prop where
  pos : 0 < l.length
  len : l.length ≤ 8192
  op : ∀ (i : Nat) (h : i < l.length), 1 ≤ l[i].f0 ∧ l[i].f0 ≤ 20
  goes : ∀ (i : Nat) (h : i < l.length), hasB l[i].f0 32 = true → 0 ≤ (i : Int) + l[i].f1 ∧ (i : Int) + l[i].f1 < l.length
  last : ∀ (h : l.length - 1 < l.length), hasB l[l.length - 1].f0 64 = false
theorem rd34 (l : List S34) (i : Nat) (h : i < l.length) : za l (i : Int) = l[i] := by simp [za, List.getD_eq_getElem?_getD, List.getElem?_eq_getElem h]
theorem check_loop (l : List S34) (hl : l.length ≤ 8192) (hp : 0 < l.length) (hs : ∀ x ∈ l, x.f4.size ≤ 140737488351232) (d : Nat) : ∀ i : Nat, i + d = l.length →
    (∀ (j : Nat) (h : j < l.length), j < i → (1 ≤ l[j].f0 ∧ l[j].f0 ≤ 20) ∧ (hasB l[j].f0 32 = true → 0 ≤ (j : Int) + l[j].f1 ∧ (j : Int) + l[j].f1 < l.length)) →
    ∃ r : Int × Int, Ev (fun k => zu.l0 k l l (l.length : Int) (i : Int)) r ∧ (r.2 = 0 → r = (0, 0) ∧ xc l) := by
  induction d with
  | zero =>
    intro i hi hj
    have hw : wrap64 ((l.length : Int) - 1) = ((l.length - 1 : Nat) : Int) := by rw [qR (by omega) (by omega)]; omega
    have hlast := (hj (l.length - 1) (by omega) (by omega)).1
    have hh := has_ev (l[l.length - 1].f0) 64 (by omega) (by omega)
    have pre : ∀ r, Ev (fun k => if hasB l[l.length - 1].f0 64 = true then some (((l.length - 1 : Nat) : Int), (163 : Int)) else some (0, 0)) r → Ev (fun k => zu.l0 k l l (l.length : Int) (i : Int)) r := by
      intro r h
      refine zA (fun k => zu.l0.eq_2 _ _ _ _ _) ?_
      refine ze (by omega) ?_
      rw [hw, rd34 l (l.length - 1) (by omega)]
      refine zd (by omega) (zd (by omega) ?_)
      exact zC hh h
    cases hb : hasB l[l.length - 1].f0 64 with
    | true =>
      exact ⟨(((l.length - 1 : Nat) : Int), (163 : Int)), pre _ (zd hb zo), fun h => absurd h (by simp)⟩
    | false =>
      exact ⟨(0, 0), pre _ (ze (by rw [hb]; decide) zo), fun _ => ⟨rfl, hp, hl, fun j h => (hj j h (by omega)).1, fun j h => (hj j h (by omega)).2, fun _ => hb⟩⟩
  | succ d ih =>
    intro i hi hj
    have hil : i < l.length := by omega
    have hw := qS (i := i) (by omega)
    have hrd := rd34 l i hil
    have hn : wrap64 (-(i : Int)) = -(i : Int) := qR (by omega) (by omega)
    have hn2 : wrap64 ((l.length : Int) - (i : Int)) = (l.length : Int) - (i : Int) := qR (by omega) (by omega)
    have pre : ∀ r, Ev (fun k => (xp.f l[i].f0).bind fun t => if t = true then ((zO.f k l[i].f0 l[i].f1 l[i].f2 l[i].f3 l[i].f4 l[i].f5.f0 l[i].f5.f1 l[i].f5.f2 l[i].f5.f3).bind fun t => if t = true then ((zy.f l[i].f0 32).bind fun t => if t = true then (if l[i].f1 < -(i : Int) then some ((i : Int), (162 : Int)) else if l[i].f1 ≥ (l.length : Int) - (i : Int) then some ((i : Int), 162) else zu.l0 k l l (l.length : Int) ((i + 1 : Nat) : Int)) else zu.l0 k l l (l.length : Int) ((i + 1 : Nat) : Int)) else some ((i : Int), 161)) else some ((i : Int), 160)) r → Ev (fun k => zu.l0 k l l (l.length : Int) (i : Int)) r := by
      intro r h
      refine zA (fun k => zu.l0.eq_2 _ _ _ _ _) ?_
      refine zd (by omega) (zd (by omega) (zd (by omega) ?_))
      rw [hrd, hw, hn, hn2]
      exact h
    have his : xp.f l[i].f0 = some (decide (1 ≤ l[i].f0 ∧ l[i].f0 ≤ 20)) := by
      unfold xp.f
      by_cases h1 : l[i].f0 ≥ 1
      · rw [if_pos h1]; congr 1; simp; omega
      · rw [if_neg h1]; congr 1; simp; omega
    by_cases hop : 1 ≤ l[i].f0 ∧ l[i].f0 ≤ 20
    · rw [decide_eq_true hop] at his
      obtain ⟨b, hb⟩ := fits_total l[i] hop.1 hop.2 (hs _ (List.getElem_mem hil))
      have hh := has_ev l[i].f0 32 (by omega) (by omega)
      cases b with
      | false => exact ⟨_, pre _ (zC his (zd rfl (zz hb (ze (by decide) zo)))), fun h => absurd h (by simp)⟩
      | true =>
        cases hg : hasB l[i].f0 32 with
        | false =>
          obtain ⟨r, hr, hr2⟩ := ih (i + 1) (by omega) (fun j h hj1 => by
            by_cases hji : j < i
            · exact hj j h hji
            · obtain rfl : j = i := by omega
              exact ⟨hop, fun h => by rw [hg] at h; cases h⟩)
          rw [hg] at hh
          exact ⟨r, pre _ (zC his (zd rfl (zz hb (zd rfl (zC hh (ze (by decide) hr)))))), hr2⟩
        | true =>
          rw [hg] at hh
          by_cases c1 : l[i].f1 < -(i : Int)
          · exact ⟨_, pre _ (zC his (zd rfl (zz hb (zd rfl (zC hh (zd rfl (zd c1 zo))))))), fun h => absurd h (by simp)⟩
          · by_cases c2 : l[i].f1 ≥ (l.length : Int) - (i : Int)
            · exact ⟨_, pre _ (zC his (zd rfl (zz hb (zd rfl (zC hh (zd rfl (ze c1 (zd c2 zo)))))))), fun h => absurd h (by simp)⟩
            · obtain ⟨r, hr, hr2⟩ := ih (i + 1) (by omega) (fun j h hj1 => by
                by_cases hji : j < i
                · exact hj j h hji
                · obtain rfl : j = i := by omega
                  exact ⟨hop, fun _ => by omega⟩)
              exact ⟨r, pre _ (zC his (zd rfl (zz hb (zd rfl (zC hh (zd rfl (ze c1 (ze c2 hr)))))))), hr2⟩
    · rw [decide_eq_false hop] at his
      exact ⟨_, pre _ (zC his (ze (by decide) zo)), fun h => absurd h (by simp)⟩
theorem check_total (l : List S34) (hs : ∀ x ∈ l, x.f4.size ≤ 140737488351232) : ∃ r : Int × Int, Ev (fun k => zu.f k l) r ∧ (r.2 = 0 → r = (0, 0) ∧ xc l) := by
  unfold zu.f
  by_cases h1 : (l.length : Int) > 8192
  · exact ⟨_, zd h1 zo, fun h => absurd h (by simp)⟩
  · by_cases h2 : (l.length : Int) = 0
    · exact ⟨_, ze h1 (zd h2 zo), fun h => absurd h (by simp)⟩
    · obtain ⟨r, hr, hr2⟩ := check_loop l (by omega) (by omega) hs l.length 0 (by omega) (fun j h hj => absurd hj (by omega))
      exact ⟨r, ze h1 (ze h2 hr), hr2⟩
def mix {α : Type} (T l : List α) (i : Nat) : List α := T.take i ++ l.drop i
section
variable {α : Type} {T l : List α} {i : Nat}
theorem mix_zero : mix T l 0 = l := by simp [mix]
theorem mix_full (h : T.length = l.length) : mix T l l.length = T := by unfold mix; rw [List.drop_length, List.append_nil, ← h, List.take_length]
theorem mix_length (h : T.length = l.length) (hi : i ≤ l.length) : (mix T l i).length = l.length := by simp [mix]; omega
theorem mix_get (h : T.length = l.length) (hi : i < l.length) (hm : i < (mix T l i).length) : (mix T l i)[i] = l[i] := by
  have e : (mix T l i)[i]? = some l[i] := by
    unfold mix
    rw [List.getElem?_append_right (by simp; omega)]
    simp [h, Nat.min_eq_left (Nat.le_of_lt hi), List.getElem?_eq_getElem hi]
  exact (List.getElem?_eq_some_iff.1 e).2
theorem mix_set (h : T.length = l.length) (hi : i < l.length) (v : α) (hv : T[i]? = some v) : (mix T l i).set i v = mix T l (i + 1) := by
  unfold mix
  have hiT : i < T.length := by omega
  have e : v = T[i] := by rw [List.getElem?_eq_getElem hiT] at hv; exact (Option.some.inj hv).symm
  subst e
  rw [List.set_append_right _ _ (by simp; omega), List.take_succ_eq_append_getElem hiT, List.append_assoc]
  congr 1
  rw [List.length_take, Nat.min_eq_left (Nat.le_of_lt hiT), Nat.sub_self, List.drop_eq_getElem_cons hi]
  rfl
theorem mix_same (h : T.length = l.length) (hi : i < l.length) (hv : T[i]? = some l[i]) : mix T l i = mix T l (i + 1) := by
  rw [← mix_set h hi _ hv]
  have hm : i < (mix T l i).length := by rw [mix_length h (Nat.le_of_lt hi)]; exact hi
  rw [← mix_get h hi hm, List.set_getElem_self]
end
theorem eta34 (x : S34) : (⟨x.f0, x.f1, x.f2, x.f3, x.f4, ⟨x.f5.f0, x.f5.f1, x.f5.f2, x.f5.f3⟩⟩ : S34) = x := rfl
theorem clone_ev (l : List S34) (h : l.length ≤ 8192) : qn.f l = some l := by
  unfold qn.f
  simp only [Option.bind_some, List.length_nil, List.nil_append]
  rw [if_pos (by omega)]
theorem rdm (T l : List S34) (i : Nat) (h : T.length = l.length) (hi : i < l.length) : za (mix T l i) (i : Int) = l[i] := by
  have hm : i < (mix T l i).length := by rw [mix_length h (Nat.le_of_lt hi)]; exact hi
  rw [rd34 _ _ hm, mix_get h hi hm]
def tailAt (l : List S34) (i : Nat) (x : S34) : S34 := if x.f0 = 15 ∧ (l.getD (i + 1) z34).f0 = 16 then { x with f0 := 14 } else x
def tailF (l : List S34) : List S34 := l.mapIdx (tailAt l)
theorem q7 (l : List S34) : (tailF l).length = l.length := by simp [tailF]
theorem tailF_get (l : List S34) (i : Nat) (h : i < l.length) : (tailF l)[i]? = some (tailAt l i l[i]) := by simp [tailF, List.getElem?_eq_getElem h]
theorem on15 : hasB 15 64 = true := by decide +kernel
theorem tails_loop (l : List S34) (R : xc l) (d : Nat) : ∀ i : Nat, i + d = l.length → Ev (fun k => qD.l0 k l (mix (tailF l) l i) l (l.length : Int) (i : Int)) (tailF l) := by
  have hl := R.len
  induction d with
  | zero =>
    intro i hi
    refine zA (fun k => qD.l0.eq_2 _ _ _ _ _ _) ?_
    refine ze (by omega) ?_
    obtain rfl : i = l.length := by omega
    rw [mix_full (q7 l)]
    exact zo
  | succ d ih =>
    intro i hi
    have hil : i < l.length := by omega
    have hw := qS (i := i) (by omega)
    have hrd := rd34 l i hil
    have hT := tailF_get l i hil
    have hn := ih (i + 1) (by omega)
    refine zA (fun k => qD.l0.eq_2 _ _ _ _ _ _) ?_
    refine zd (by omega) (zd (by omega) (zd (by omega) ?_))
    rw [hrd, hw, rdm _ _ _ (q7 l) hil]
    by_cases h15 : l[i].f0 = 15
    · have hi1 : i + 1 < l.length := by
        rcases Nat.lt_or_ge (i + 1) l.length with h | h
        · exact h
        · exfalso
          have := R.last (by omega)
          have hq : l.length - 1 = i := by omega
          simp only [hq, h15, on15] at this
          cases this
      have hrd1 := rd34 l (i + 1) hi1
      refine zd h15 (zd (by omega) (zd (by omega) ?_))
      rw [hrd1]
      have hg : l.getD (i + 1) z34 = l[i + 1] := by simp [List.getD_eq_getElem?_getD, List.getElem?_eq_getElem hi1]
      by_cases h16 : l[i + 1].f0 = 16
      · refine zd h16 (zd (by rw [mix_length (q7 l) (by omega)]; omega) ?_)
        have ht : (tailF l)[i]? = some (⟨14, l[i].f1, l[i].f2, l[i].f3, l[i].f4, ⟨l[i].f5.f0, l[i].f5.f1, l[i].f5.f2, l[i].f5.f3⟩⟩ : S34) := by
          rw [hT]; unfold tailAt; rw [if_pos ⟨h15, by rw [hg]; exact h16⟩]
        rw [Int.toNat_natCast, mix_set (q7 l) hil _ ht]
        exact hn
      · refine ze h16 ?_
        rw [mix_same (q7 l) hil (by rw [hT]; unfold tailAt; rw [if_neg (by rw [hg]; exact fun h => h16 h.2)])]
        exact hn
    · refine ze h15 ?_
      rw [mix_same (q7 l) hil (by rw [hT]; unfold tailAt; rw [if_neg (fun h => h15 h.1)])]
      exact hn
theorem tails_ev (l : List S34) (R : xc l) : Ev (fun k => qD.f k l) (tailF l) := by
  unfold qD.f
  refine zC (clone_ev l R.len) ?_
  have := tails_loop l R l.length 0 (by omega)
  rwa [mix_zero] at this
theorem goes_ev (op : Int) (h0 : 1 ≤ op) (h1 : op ≤ 20) : xA.f op = some (hasB op 32) := by
  have h : ∀ i : Fin 21, 1 ≤ i.val → xA.f (i.val : Int) = some (hasB (i.val : Int) 32) := by decide +kernel
  have := h ⟨op.toNat, by omega⟩ (by simp; omega)
  rwa [Int.toNat_of_nonneg (by omega)] at this
theorem jump14 : hasB 14 32 = true := by decide +kernel
def tgt (l : List S34) (i : Nat) : Nat := ((i : Int) + (l.getD i z34).f1).toNat
def chain (l : List S34) : Nat → Nat → Option Nat
  | 0, i => if (l.getD i z34).f0 = 14 then none else some i
  | m + 1, i => if (l.getD i z34).f0 = 14 then chain l m (tgt l i) else some i
theorem qT (l : List S34) (i : Nat) (h : i < l.length) : l.getD i z34 = l[i] := by simp [List.getD_eq_getElem?_getD, List.getElem?_eq_getElem h]
theorem xJ {l : List S34} (R : xc l) (i : Nat) (h : i < l.length) (hg : hasB l[i].f0 32 = true) : tgt l i < l.length ∧ ((tgt l i : Nat) : Int) = (i : Int) + l[i].f1 := by
  have := R.goes i h hg
  unfold tgt
  rw [qT l i h]
  omega
theorem chain_lt {l : List S34} (R : xc l) : ∀ (m i t : Nat), i < l.length → chain l m i = some t → t < l.length ∧ (l.getD t z34).f0 ≠ 14 := by
  intro m
  induction m with
  | zero =>
    intro i t hi h
    unfold chain at h
    split at h
    · cases h
    · rename_i h14; cases h; exact ⟨hi, h14⟩
  | succ m ih =>
    intro i t hi h
    unfold chain at h
    split at h
    · rename_i h14
      rw [qT l i hi] at h14
      exact ih _ _ (xJ R i hi (by rw [h14]; exact jump14)).1 h
    · rename_i h14; cases h; exact ⟨hi, h14⟩
def endR : Option Nat → Int × Bool
  | some t => ((t : Int), true)
  | none => (0, false)
theorem end_loop (l : List S34) (R : xc l) (m : Nat) : ∀ (i s : Nat), i < l.length → s + m = l.length + 1 → Ev (fun k => xi.l0 k l (i : Int) (s : Int)) (endR (chain l m i)) := by
  have hl := R.len
  induction m with
  | zero =>
    intro i s hi hs
    refine zA (fun k => xi.l0.eq_2 _ _ _ _) ?_
    refine zd (by omega) (zd (by omega) ?_)
    rw [rd34 l i hi]
    unfold chain
    rw [qT l i hi]
    by_cases h : l[i].f0 = 14
    · rw [if_pos h]
      exact zd h (zd (by omega) zo)
    · rw [if_neg h]
      exact ze h zo
  | succ m ih =>
    intro i s hi hs
    refine zA (fun k => xi.l0.eq_2 _ _ _ _) ?_
    refine zd (by omega) (zd (by omega) ?_)
    rw [rd34 l i hi]
    unfold chain
    rw [qT l i hi]
    by_cases h : l[i].f0 = 14
    · rw [if_pos h]
      have ht := xJ R i hi (by rw [h]; exact jump14)
      refine zd h (ze (by omega) ?_)
      rw [qS (i := s) (by omega), qR (x := (i : Int) + l[i].f1) (by omega) (by omega), ← ht.2]
      exact ih _ _ ht.1 (by omega)
    · rw [if_neg h]
      exact ze h zo
def endOf (l : List S34) (i : Nat) : Option Nat := chain l (l.length + 1) (tgt l i)
theorem end_ev (l : List S34) (R : xc l) (i : Nat) (hi : i < l.length) (hg : hasB l[i].f0 32 = true) : Ev (fun k => xi.f k l (i : Int)) (endR (endOf l i)) := by
  have hl := R.len
  have ht := xJ R i hi hg
  unfold xi.f
  refine zd (by omega) (zd (by omega) ?_)
  rw [rd34 l i hi, qR (x := (i : Int) + l[i].f1) (by omega) (by omega), ← ht.2]
  exact end_loop l R (l.length + 1) _ 0 ht.1 (by omega)
def stops (op : Int) : Bool := op == 16 || (op == 17 || (op == 13 || op == 12))
def xy (l : List S34) (i : Nat) (x : S34) : S34 :=
  if hasB x.f0 32 = true then match endOf l i with
    | some t => if stops (l.getD t z34).f0 = true ∧ x.f0 = 14 then l.getD t z34 else { x with f1 := (t : Int) - (i : Int) }
    | none => x
  else x
def zE (l : List S34) : List S34 := l.mapIdx (xy l)
theorem qB (l : List S34) : (zE l).length = l.length := by simp [zE]
theorem threadF_get (l : List S34) (i : Nat) (h : i < l.length) : (zE l)[i]? = some (xy l i l[i]) := by simp [zE, List.getElem?_eq_getElem h]
theorem threads_loop (l : List S34) (R : xc l) (d : Nat) : ∀ i : Nat, i + d = l.length → Ev (fun k => zU.l0 k l (mix (zE l) l i) l (l.length : Int) (i : Int)) (zE l) := by
  have hl := R.len
  induction d with
  | zero =>
    intro i hi
    refine zA (fun k => zU.l0.eq_2 _ _ _ _ _ _) ?_
    refine ze (by omega) ?_
    obtain rfl : i = l.length := by omega
    rw [mix_full (qB l)]
    exact zo
  | succ d ih =>
    intro i hi
    have hil : i < l.length := by omega
    have hw := qS (i := i) (by omega)
    have hT := threadF_get l i hil
    have hn := ih (i + 1) (by omega)
    have hop := R.op i hil
    have hge := goes_ev l[i].f0 hop.1 hop.2
    refine zA (fun k => zU.l0.eq_2 _ _ _ _ _ _) ?_
    refine zd (by omega) (zd (by omega) (zd (by omega) ?_))
    rw [rd34 l i hil, hw, rdm _ _ _ (qB l) hil]
    refine zC hge ?_
    cases hg : hasB l[i].f0 32 with
    | false =>
      refine ze (by decide) ?_
      rw [mix_same (qB l) hil (by rw [hT]; unfold xy; rw [hg]; rfl)]
      exact hn
    | true =>
      refine zd rfl ?_
      have hend := end_ev l R i hil hg
      cases he : endOf l i with
      | none =>
        rw [he] at hend
        refine zz (y := (0, false)) hend ?_
        refine ze (by decide) ?_
        rw [mix_same (qB l) hil (by rw [hT]; unfold xy; rw [hg, he]; rfl)]
        exact hn
      | some t =>
        obtain ⟨ht, ht14⟩ := chain_lt R _ _ t (xJ R i hil hg).1 he
        have htg := qT l t ht
        rw [he] at hend
        refine zz (y := ((t : Int), true)) hend ?_
        refine zd rfl ?_
        have hml := mix_length (qB l) (Nat.le_of_lt hil)
        refine zd (by rw [hml]; omega) ?_
        have hwt : wrap64 ((t : Int) - (i : Int)) = (t : Int) - (i : Int) := qR (by omega) (by omega)
        rw [hwt, Int.toNat_natCast]
        refine zC rfl ?_
        have j1 : ∀ b : Bool, b = stops l[t].f0 → Ev (fun k => zU.j1 k l ((mix (zE l) l i).set i (⟨l[i].f0, (t : Int) - (i : Int), l[i].f2, l[i].f3, l[i].f4, ⟨l[i].f5.f0, l[i].f5.f1, l[i].f5.f2, l[i].f5.f3⟩⟩ : S34)) (i : Int) (t : Int) l (l.length : Int) (i : Int) b l[i].f0 l[i].f1 l[i].f2 l[i].f3 l[i].f4 l[i].f5.f0 l[i].f5.f1 l[i].f5.f2 l[i].f5.f3) (zE l) := by
          intro b hb
          refine zA (fun k => zU.j1.eq_2 _ _ _ _ _ _ _ _ _ _ _ _ _ _ _ _ _ _) ?_
          rw [hw]
          cases b with
          | false =>
            refine ze (by decide) ?_
            rw [mix_set (qB l) hil _ (by rw [hT]; unfold xy; rw [hg, he]; simp only [if_true]; rw [htg, ← hb, if_neg (fun h => by cases h.1)])]
            exact hn
          | true =>
            refine zd rfl ?_
            by_cases h14 : l[i].f0 = 14
            · refine zd h14 (zd (by omega) (zd (by omega) (zd (by omega) (zd (by rw [List.length_set, hml]; omega) ?_))))
              rw [rd34 l t ht, Int.toNat_natCast, eta34, List.set_set, mix_set (qB l) hil _ (by rw [hT]; unfold xy; rw [hg, he]; simp only [if_true]; rw [htg, ← hb, if_pos ⟨rfl, h14⟩])]
              exact hn
            · refine ze h14 ?_
              rw [mix_set (qB l) hil _ (by rw [hT]; unfold xy; rw [hg, he]; simp only [if_true]; rw [htg, if_neg (fun h => h14 h.2)])]
              exact hn
        refine zd (by show 0 ≤ (t : Int); omega) (zd (by show (t : Int) < (l.length : Int); omega) ?_)
        rw [rd34 l t ht]
        by_cases h16 : l[t].f0 = 16
        · exact zd h16 (j1 _ (by unfold stops; rw [h16]; rfl))
        · refine ze h16 ?_
          by_cases h17 : l[t].f0 = 17
          · exact zd h17 (j1 _ (by unfold stops; rw [h17]; rfl))
          · refine ze h17 ?_
            by_cases h13 : l[t].f0 = 13
            · exact zd h13 (j1 _ (by unfold stops; rw [h13]; rfl))
            · refine ze h13 (j1 _ ?_)
              unfold stops
              rw [show (l[t].f0 == 16) = false by simpa using h16, show (l[t].f0 == 17) = false by simpa using h17, show (l[t].f0 == 13) = false by simpa using h13]
              rfl
theorem threads_ev (l : List S34) (R : xc l) : Ev (fun k => zU.f k l) (zE l) := by
  unfold zU.f
  refine zC (clone_ev l R.len) ?_
  have := threads_loop l R l.length 0 (by omega)
  rwa [mix_zero] at this
theorem len_total (a : Int) (h0 : 0 ≤ a) (h1 : a < 256) : ∃ r, Ev (fun k => xx.f k a) r := by
  unfold xx.f qh.f
  have h : ∃ r, Ev (fun k => qh.j0 k a 0) r := ⟨_, zA (fun k => qh.j0.eq_2 _ _ _) (ze (by omega) (ze (by omega) (zd (by omega) (zd (by omega) zo))))⟩
  obtain ⟨r, hr⟩ := h
  exact ⟨r, zz (ze (by omega) hr) zo⟩
theorem less_ev (a b : Int) : xG.f a b = some (decide (a < b)) := by
  unfold xG.f qQ.f
  simp
def sort2 : List Int → List Int
  | [a, b] => if b < a then [b, a] else [a, b]
  | l => l
theorem ins_done (l : List Int) (n x : Int) (h : ¬ x < n) : Ev (fun k => zc.l0 k l 0 n x) l := by
  refine zA (fun k => zc.l0.eq_2 _ _ _ _ _) ?_
  exact ze h zo
theorem ins_ev (l : List Int) (h : l.length ≤ 2) : Ev (fun k => zc.f k l 0 (l.length : Int)) (sort2 l) := by
  unfold zc.f
  rw [w01]
  match l, h with
  | [], _ => exact ins_done [] _ _ (by decide)
  | [a], _ => exact ins_done [a] _ _ (by simp)
  | [a, b], _ =>
    refine zA (fun k => zc.l0.eq_2 _ _ _ _ _) ?_
    refine zd (by simp) ?_
    refine zA (fun k => zc.l1.eq_2 _ _ _ _ _ _) ?_
    rw [w1m]
    refine zd (by decide) (zd (by decide) (zd (by simp) (zd (by decide) (zd (by simp) ?_))))
    refine zC (less_ev _ _) ?_
    have h1 : rd [a, b] 1 = b := rfl
    have h0 : rd [a, b] 0 = a := rfl
    rw [h1, h0]
    by_cases hab : b < a
    · refine zd (by simpa using hab) ?_
      have hs : (([a, b].set (1 : Int).toNat a).set (0 : Int).toNat b) = [b, a] := rfl
      rw [hs]
      have e : sort2 [a, b] = [b, a] := by simp [sort2, hab]
      rw [e]
      refine zA (fun k => zc.l1.eq_2 _ _ _ _ _ _) ?_
      refine ze (by decide) ?_
      rw [w11]
      exact ins_done _ _ _ (by simp)
    · refine ze (by simpa using hab) ?_
      have e : sort2 [a, b] = [a, b] := by simp [sort2, hab]
      rw [e, w11]
      exact ins_done _ _ _ (by simp)
theorem sort_ev (l : List Int) (h : l.length ≤ 2) : Ev (fun k => zS.f k l) (sort2 l) := by
  unfold zS.f
  have hw : IntKind.u64.wrap (l.length : Int) = (l.length : Int) := by
    simp [IntKind.wrap, IntKind.bits, IntKind.signed]
    omega
  rw [hw]
  obtain ⟨r, hr⟩ := len_total (l.length : Int) (by omega) (by omega)
  refine zz hr (zz (y := sort2 l) ?_ zo)
  refine zA (fun k => zm.f.eq_2 _ _ _ _ _) ?_
  refine zA (fun k => zm.l0.eq_2 _ _ _ _ _ _) ?_
  rw [qR (x := (l.length : Int) - 0) (by omega) (by omega)]
  refine zd (by omega) (zz (ins_ev l h) zo)
theorem sort2_mem (l : List Int) (x : Int) : x ∈ sort2 l ↔ x ∈ l := by
  match l with
  | [] => rfl
  | [a] => rfl
  | [a, b] =>
    show (x ∈ if b < a then [b, a] else [a, b]) ↔ _
    split
    · simp; exact Or.comm
    · rfl
  | a :: b :: c :: r => rfl
theorem sort2_length (l : List Int) : (sort2 l).length = l.length := by
  match l with
  | [] => rfl
  | [a] => rfl
  | [a, b] =>
    show (if b < a then [b, a] else [a, b]).length = _
    split <;> rfl
  | a :: b :: c :: r => rfl
def xE (l : List S34) (i : Nat) : List Int := (if hasB (l.getD i z34).f0 64 = true then [((i + 1 : Nat) : Int)] else []) ++ (if hasB (l.getD i z34).f0 32 = true ∧ ¬ (hasB (l.getD i z34).f0 64 = true ∧ (l.getD i z34).f1 = 1) then [((tgt l i : Nat) : Int)] else [])
theorem nexts_length (l : List S34) (i : Nat) : (xE l i).length ≤ 2 := by
  unfold xE
  split <;> split <;> simp
theorem next_on {l : List S34} (R : xc l) (i : Nat) (h : i < l.length) (ho : hasB l[i].f0 64 = true) : i + 1 < l.length := by
  rcases Nat.lt_or_ge (i + 1) l.length with h1 | h1
  · exact h1
  · exfalso
    have := R.last (by omega)
    have hq : l.length - 1 = i := by omega
    simp only [hq, ho] at this
    cases this
theorem nexts_lt {l : List S34} (R : xc l) (i : Nat) (h : i < l.length) : ∀ x ∈ xE l i, ∃ j : Nat, x = (j : Int) ∧ j < l.length := by
  intro x hx
  unfold xE at hx
  rw [qT l i h] at hx
  rcases List.mem_append.1 hx with hx | hx
  · split at hx
    · rename_i ho
      simp only [List.mem_singleton] at hx
      exact ⟨i + 1, hx, next_on R i h ho⟩
    · cases hx
  · split at hx
    · rename_i ho
      simp only [List.mem_singleton] at hx
      exact ⟨_, hx, (xJ R i h ho.1).1⟩
    · cases hx
theorem iGoes_ev (l : List S34) (R : xc l) (i : Nat) (hi : i < l.length) : Ev (fun k => z9.f k l (i : Int)) (sort2 (xE l i)) := by
  have hl := R.len
  have hop := R.op i hi
  have h64 := has_ev l[i].f0 64 (by omega) (by omega)
  have h32 := has_ev l[i].f0 32 (by omega) (by omega)
  have hw := qS (i := i) (by omega)
  have hnl := nexts_length l i
  have j0 : ∀ xs : List Int, xs = (if hasB l[i].f0 64 = true then [((i + 1 : Nat) : Int)] else []) → Ev (fun k => z9.j0 k (i : Int) xs l[i].f0 l[i].f1 l[i].f2 l[i].f3 l[i].f4 l[i].f5.f0 l[i].f5.f1 l[i].f5.f2 l[i].f5.f3) (sort2 (xE l i)) := by
    intro xs hxs
    have hxl : xs.length ≤ 1 := by rw [hxs]; split <;> simp
    refine zA (fun k => z9.j0.eq_2 _ _ _ _ _ _ _ _ _ _ _ _) ?_
    refine zC h32 ?_
    cases hg : hasB l[i].f0 32 with
    | false =>
      have e : xE l i = xs := by unfold xE; rw [qT l i hi, hg, hxs]; simp
      refine ze (by decide) (zz (y := sort2 (xE l i)) ?_ zo)
      rw [e]
      exact sort_ev xs (by omega)
    | true =>
      have ht := xJ R i hi hg
      refine zd rfl (zC h64 ?_)
      have hwt : wrap64 ((i : Int) + l[i].f1) = ((tgt l i : Nat) : Int) := by rw [qR (by omega) (by omega), ht.2]
      cases ho : hasB l[i].f0 64 with
      | false =>
        have e : xE l i = xs ++ [((tgt l i : Nat) : Int)] := by unfold xE; rw [qT l i hi, hg, ho, hxs, ho]; simp
        refine ze (by decide) (zd (by omega) (zz (y := sort2 (xE l i)) ?_ zo))
        rw [hwt, e]
        exact sort_ev _ (by simp; omega)
      | true =>
        refine zd rfl ?_
        by_cases h1 : l[i].f1 = 1
        · have e : xE l i = xs := by unfold xE; rw [qT l i hi, hg, ho, hxs, ho, h1]; simp
          refine zd h1 (zz (y := sort2 (xE l i)) ?_ zo)
          rw [e]
          exact sort_ev xs (by omega)
        · have e : xE l i = xs ++ [((tgt l i : Nat) : Int)] := by unfold xE; rw [qT l i hi, hg, ho, hxs, ho]; simp [h1]
          refine ze h1 (zd (by omega) (zz (y := sort2 (xE l i)) ?_ zo))
          rw [hwt, e]
          exact sort_ev _ (by simp; omega)
  unfold z9.f
  refine zd (by omega) (zd (by omega) ?_)
  rw [rd34 l i hi, hw]
  refine zC h64 ?_
  cases ho : hasB l[i].f0 64 with
  | false => exact ze (by decide) (j0 [] (by rw [ho]; rfl))
  | true => exact zd rfl (zd (by decide) (j0 _ (by rw [ho]; rfl)))
theorem rdBool (l : List Bool) (i : Nat) : rdOf false l (i : Int) = l.getD i false := by simp [rdOf]
def lack (out : List Bool) : Nat := (out.filter (fun b => !b)).length
theorem lack_set (out : List Bool) : ∀ (i : Nat), out.getD i true = false → i < out.length → lack (out.set i true) + 1 = lack out := by
  induction out with
  | nil => intro i _ h; simp at h
  | cons b r ih =>
    intro i hb hi
    cases i with
    | zero =>
      simp at hb
      subst hb
      simp [lack]
    | succ i =>
      have := ih i (by simpa using hb) (by simpa using hi)
      unfold lack at this ⊢
      cases b <;> simp at this ⊢ <;> omega
theorem live_loop (l : List S34) (R : xc l) (I : List Bool → List Int → Prop)
    (hpop : ∀ out w (i : Nat), I out (w ++ [(i : Int)]) → i < l.length → out.getD i false = true → I out w)
    (hmark : ∀ out w (i : Nat), I out (w ++ [(i : Int)]) → i < l.length → out.length = l.length → out.getD i false = false → I (out.set i true) (w ++ sort2 (xE l i))) (m : Nat) :
    ∀ (out : List Bool) (w : List Int), out.length = l.length → (∀ x ∈ w, ∃ j : Nat, x = (j : Int) ∧ j < l.length) → 3 * lack out + w.length ≤ m → w.length ≤ 100000 - 3 * lack out → lack out ≤ 8192 → I out w →
    ∃ out' : List Bool, Ev (fun k => zL.l0 k l out w) (out', 0) ∧ out'.length = l.length ∧ I out' [] := by
  have hl := R.len
  induction m with
  | zero =>
    intro out w ho hw hm _ _ hI
    have : w = [] := List.eq_nil_of_length_eq_zero (by omega)
    subst this
    refine ⟨out, zA (fun k => zL.l0.eq_2 _ _ _ _) ?_, ho, hI⟩
    exact ze (by simp) zo
  | succ m ih =>
    intro out w ho hw hm hb hlk hI
    rcases List.eq_nil_or_concat w with rfl | ⟨w', x, rfl⟩
    · refine ⟨out, zA (fun k => zL.l0.eq_2 _ _ _ _) ?_, ho, hI⟩
      exact ze (by simp) zo
    · rw [List.concat_eq_append] at *
      obtain ⟨i, rfl, hi⟩ := hw x (by simp)
      have hlen : ((w' ++ [(i : Int)]).length : Int) = (w'.length : Int) + 1 := by simp
      have hbw : w'.length + 1 ≤ 100000 := by simp at hb; omega
      have hwl : wrap64 (((w' ++ [(i : Int)]).length : Int) - 1) = (w'.length : Int) := by rw [hlen, qR (by omega) (by omega)]; omega
      have hrd : rd (w' ++ [(i : Int)]) (w'.length : Int) = (i : Int) := by simp [rd, List.getD_eq_getElem?_getD]
      have htk : (w' ++ [(i : Int)]).take w'.length = w' := by simp
      have pre : ∀ r, Ev (fun k => if rdOf false out (i : Int) = true then zL.l0 k l out w' else (z9.f k l (i : Int)).bind fun t => if w'.length + t.length < 17592186044416 then zL.l0 k l (out.set i true) (w' ++ t) else none) r → Ev (fun k => zL.l0 k l out (w' ++ [(i : Int)])) r := by
        intro r h
        refine zA (fun k => zL.l0.eq_2 _ _ _ _) ?_
        rw [hwl, hrd, Int.toNat_natCast, htk]
        refine zd (by omega) (zd (by omega) (zd (by omega) (zd (by omega) ?_)))
        refine zC rfl ?_
        exact zd (by omega) (zd (by omega) h)
      cases hout : out.getD i false with
      | true =>
        obtain ⟨out', h1, h2, h3⟩ := ih out w' ho (fun x hx => hw x (List.mem_append_left _ hx)) (by simp at hm; omega) (by simp at hb; omega) hlk (hpop out w' i hI hi hout)
        exact ⟨out', pre _ (zd (by rw [rdBool]; exact hout) h1), h2, h3⟩
      | false =>
        have hls := lack_set out i (by
          have : i < out.length := by omega
          simp [List.getD_eq_getElem?_getD, List.getElem?_eq_getElem this] at hout ⊢
          exact hout) (by omega)
        have hsl := sort2_length (xE l i)
        have hnl := nexts_length l i
        obtain ⟨out', h1, h2, h3⟩ := ih (out.set i true) (w' ++ sort2 (xE l i)) (by simpa using ho) (fun x hx => by
            rcases List.mem_append.1 hx with hx | hx
            · exact hw x (List.mem_append_left _ hx)
            · exact nexts_lt R i hi x ((sort2_mem _ _).1 hx)) (by simp at hm ⊢; omega) (by simp at hb ⊢; omega) (by omega) (hmark out w' i hI hi ho hout)
        exact ⟨out', pre _ (ze (by rw [rdBool, hout]; decide) (zz (iGoes_ev l R i hi) (zd (by omega) h1))), h2, h3⟩
theorem live_ev (l : List S34) (R : xc l) (hc : Ev (fun k => zu.f k l) (0, 0)) (I : List Bool → List Int → Prop)
    (hpop : ∀ out w (i : Nat), I out (w ++ [(i : Int)]) → i < l.length → out.getD i false = true → I out w)
    (hmark : ∀ out w (i : Nat), I out (w ++ [(i : Int)]) → i < l.length → out.length = l.length → out.getD i false = false → I (out.set i true) (w ++ sort2 (xE l i)))
    (h0 : I (List.replicate l.length false) [0]) :
    ∃ out : List Bool, Ev (fun k => zL.f k l) (out, 0) ∧ out.length = l.length ∧ I out [] := by
  have hl := R.len
  have hlk : lack (List.replicate l.length false) = l.length := by simp [lack]
  obtain ⟨out, h1, h2, h3⟩ := live_loop l R I hpop hmark _ (List.replicate l.length false) [0] (by simp) (fun x hx => ⟨0, by simpa using hx, R.pos⟩) (Nat.le_refl _) (by rw [hlk]; simp; omega) (by omega) h0
  refine ⟨out, ?_, h2, h3⟩
  unfold zL.f
  refine zz hc (zd rfl (zd (by omega) (zd (by omega) ?_)))
  rw [Int.toNat_natCast]
  exact h1
def kept (g : List Bool) (i : Nat) : Nat := ((g.take i).filter (fun b => !b)).length
theorem kept_zero (g : List Bool) : kept g 0 = 0 := by simp [kept]
theorem kept_succ (g : List Bool) (i : Nat) (h : i < g.length) : kept g (i + 1) = kept g i + if g.getD i false = true then 0 else 1 := by
  unfold kept
  rw [List.take_succ_eq_append_getElem h, List.filter_append, List.length_append]
  have e : g.getD i false = g[i] := by simp [List.getD_eq_getElem?_getD, List.getElem?_eq_getElem h]
  rw [e]
  cases g[i] <;> simp
theorem kept_le (g : List Bool) (i : Nat) : kept g i ≤ i := by
  unfold kept
  have h1 := List.length_filter_le (fun b => !b) (g.take i)
  have h2 : (g.take i).length ≤ i := List.length_take_le _ _
  omega
theorem kept_mono (g : List Bool) (i j : Nat) (h : i ≤ j) : kept g i ≤ kept g j := by
  unfold kept
  have e : g.take i = (g.take j).take i := by rw [List.take_take, Nat.min_eq_left h]
  rw [e]
  exact (List.Sublist.filter _ (List.take_sublist _ _)).length_le
def moved (l : List S34) (g : List Bool) (i : Nat) (x : S34) : S34 := if hasB x.f0 32 = true then { x with f1 := (kept g (tgt l i) : Int) - (kept g i : Int) } else x
def restAt (l : List S34) (g : List Bool) (i : Nat) : Option S34 := if g.getD i false = true then none else some (moved l g i (l.getD i z34))
def restTo (l : List S34) (g : List Bool) (i : Nat) : List S34 := (List.range i).filterMap (restAt l g)
def rest (l : List S34) (g : List Bool) : List S34 := restTo l g l.length
theorem restTo_succ (l : List S34) (g : List Bool) (i : Nat) : restTo l g (i + 1) = restTo l g i ++ (restAt l g i).toList := by
  unfold restTo
  rw [List.range_succ, List.filterMap_append]
  congr 1
theorem restTo_length_le (l : List S34) (g : List Bool) (i : Nat) : (restTo l g i).length ≤ i := by
  unfold restTo
  have := List.length_filterMap_le (restAt l g) (List.range i)
  simpa using this
theorem restTo_length (l : List S34) (g : List Bool) (i : Nat) (h : i ≤ g.length) : (restTo l g i).length = kept g i := by
  induction i with
  | zero => simp [restTo, kept]
  | succ i ih =>
    rw [restTo_succ, List.length_append, ih (by omega), kept_succ g i (by omega)]
    unfold restAt
    split <;> simp
def Cnt (g : List Bool) (b : List Int) (n i : Nat) : Prop := b.length = n + 1 ∧ ∀ j : Nat, j ≤ i → rd b (j : Int) = (kept g j : Int)
theorem rd_set_same (b : List Int) (i : Nat) (v : Int) (h : i < b.length) : rd (b.set i v) (i : Int) = v := by simp [rd, List.getD_eq_getElem?_getD, h]
theorem rd_set_ne (b : List Int) (i j : Nat) (v : Int) (h : j ≠ i) : rd (b.set i v) (j : Int) = rd b (j : Int) := by
  simp only [rd, Int.toNat_natCast, List.getD_eq_getElem?_getD]
  rw [List.getElem?_set_ne (fun e => h e.symm)]
theorem without_l1 (l : List S34) (R : xc l) (g : List Bool) (hg : g.length = l.length) (b : List Int) (hb : Cnt g b l.length l.length) (d : Nat) : ∀ i : Nat, i + d = l.length →
    Ev (fun k => zr.l1 k g b (restTo l g i) l (l.length : Int) (i : Int)) (rest l g) := by
  have hl := R.len
  induction d with
  | zero =>
    intro i hi
    refine zA (fun k => zr.l1.eq_2 _ _ _ _ _ _ _) ?_
    refine ze (by omega) ?_
    obtain rfl : i = l.length := by omega
    exact zo
  | succ d ih =>
    intro i hi
    have hil : i < l.length := by omega
    have hw := qS (i := i) (by omega)
    have hop := R.op i hil
    have hge := goes_ev l[i].f0 hop.1 hop.2
    have hn := ih (i + 1) (by omega)
    have hrl := restTo_length_le l g i
    rw [restTo_succ] at hn
    refine zA (fun k => zr.l1.eq_2 _ _ _ _ _ _ _) ?_
    refine zd (by omega) (zd (by omega) (zd (by omega) (zd (by omega) ?_)))
    rw [rdBool, rd34 l i hil, hw]
    cases hgi : g.getD i false with
    | true =>
      have e : restAt l g i = none := by unfold restAt; rw [hgi]; rfl
      rw [e] at hn
      simp only [Option.toList_none, List.append_nil] at hn
      exact zd rfl hn
    | false =>
      have e : restAt l g i = some (moved l g i l[i]) := by unfold restAt; rw [hgi, qT l i hil]; rfl
      rw [e] at hn
      simp only [Option.toList_some] at hn
      refine ze (by decide) (zC hge ?_)
      cases ho : hasB l[i].f0 32 with
      | true =>
        have ht := xJ R i hil ho
        refine zd rfl ?_
        have hwt : wrap64 ((i : Int) + l[i].f1) = ((tgt l i : Nat) : Int) := by rw [qR (by omega) (by omega), ht.2]
        have k1 := kept_le g (tgt l i)
        have k2 := kept_le g i
        rw [hwt, hb.2 _ (by omega), hb.2 _ (by omega), qR (x := (kept g (tgt l i) : Int) - (kept g i : Int)) (by omega) (by omega)]
        have hbl := hb.1
        refine zd (by omega) (zd (by omega) (zd (by omega) (zd (by omega) ?_)))
        have em : moved l g i l[i] = (⟨l[i].f0, (kept g (tgt l i) : Int) - (kept g i : Int), l[i].f2, l[i].f3, l[i].f4, ⟨l[i].f5.f0, l[i].f5.f1, l[i].f5.f2, l[i].f5.f3⟩⟩ : S34) := by unfold moved; rw [ho]; rfl
        rw [← em]
        exact hn
      | false =>
        refine ze (by decide) (zd (by omega) ?_)
        have em : moved l g i l[i] = l[i] := by unfold moved; rw [ho]; rfl
        rw [eta34, ← em]
        rw [em]
        rw [em] at hn
        exact hn
theorem without_l0 (l : List S34) (R : xc l) (g : List Bool) (hg : g.length = l.length) (d : Nat) : ∀ (i : Nat) (b : List Int), i + d = l.length → Cnt g b l.length i →
    Ev (fun k => zr.l0 k l g b (l.length : Int) (i : Int)) (rest l g) := by
  have hl := R.len
  induction d with
  | zero =>
    intro i b hi hb
    obtain rfl : i = l.length := by omega
    have hk := kept_le g l.length
    have hbl := hb.1
    refine zA (fun k => zr.l0.eq_2 _ _ _ _ _ _) ?_
    refine ze (by omega) ?_
    rw [hb.2 _ (Nat.le_refl _)]
    refine zd (by omega) (zd (by omega) (zd (by omega) (zd (by omega) ?_)))
    have := without_l1 l R g hg b hb l.length 0 (by omega)
    exact this
  | succ d ih =>
    intro i b hi hb
    have hil : i < l.length := by omega
    have hw := qS (i := i) (by omega)
    have hbl := hb.1
    have hk := kept_le g i
    refine zA (fun k => zr.l0.eq_2 _ _ _ _ _ _) ?_
    rw [hw]
    refine zd (by omega) (zd (by omega) (zd (by omega) (zd (by omega) (zd (by omega) ?_))))
    refine zC rfl (zd (by omega) ?_)
    rw [rdBool, Int.toNat_natCast, hb.2 i (Nat.le_refl _), rd_set_same _ _ _ (by omega)]
    have hks := kept_succ g i (by omega)
    cases hgi : g.getD i false with
    | true =>
      rw [hgi] at hks
      refine zd rfl (ih (i + 1) _ (by omega) ⟨by simpa using hbl, fun j hj => ?_⟩)
      by_cases e : j = i + 1
      · subst e
        rw [rd_set_same _ _ _ (by omega), hks]
        simp
      · rw [rd_set_ne _ _ _ _ e]
        exact hb.2 j (by omega)
    | false =>
      rw [hgi] at hks
      rw [qR (x := (kept g i : Int) + 1) (by omega) (by omega), List.set_set]
      refine ze (by decide) (ih (i + 1) _ (by omega) ⟨by simpa using hbl, fun j hj => ?_⟩)
      by_cases e : j = i + 1
      · subst e
        rw [rd_set_same _ _ _ (by omega), hks]
        simp
      · rw [rd_set_ne _ _ _ _ e]
        exact hb.2 j (by omega)
theorem without_ev (l : List S34) (R : xc l) (g : List Bool) (hg : g.length = l.length) : Ev (fun k => zr.f k l g) (rest l g) := by
  have hl := R.len
  unfold zr.f
  rw [qS (i := l.length) (by omega), Int.toNat_natCast]
  refine zd (by omega) (zd (by omega) ?_)
  refine without_l0 l R g hg l.length 0 _ (by omega) ⟨by simp, fun j hj => ?_⟩
  obtain rfl : j = 0 := by omega
  simp [rd, kept, List.getD_eq_getElem?_getD]
def hopG (l : List S34) : List Bool := l.map fun x => decide (x.f0 = 14) && x.f1 == 1
theorem hopG_length (l : List S34) : (hopG l).length = l.length := by simp [hopG]
theorem hopG_get (l : List S34) (i : Nat) (h : i < l.length) : (hopG l)[i]? = some (decide (l[i].f0 = 14) && l[i].f1 == 1) := by simp [hopG, List.getElem?_eq_getElem h]
theorem hops_loop (l : List S34) (R : xc l) (d : Nat) : ∀ i : Nat, i + d = l.length → Ev (fun k => qI.l0 k l (mix (hopG l) (List.replicate l.length false) i) l (l.length : Int) (i : Int)) (rest l (hopG l)) := by
  have hl := R.len
  have hrep : (hopG l).length = (List.replicate l.length false).length := by simp [hopG]
  induction d with
  | zero =>
    intro i hi
    obtain rfl : i = l.length := by omega
    refine zA (fun k => qI.l0.eq_2 _ _ _ _ _ _) ?_
    refine ze (by omega) ?_
    have e : mix (hopG l) (List.replicate l.length false) l.length = hopG l := by have := mix_full hrep; simpa using this
    rw [e]
    exact zz (without_ev l R (hopG l) (hopG_length l)) zo
  | succ d ih =>
    intro i hi
    have hil : i < l.length := by omega
    have hir : i < (List.replicate l.length false).length := by simpa using hil
    have hw := qS (i := i) (by omega)
    have hT := hopG_get l i hil
    have hn := ih (i + 1) (by omega)
    have hml : (mix (hopG l) (List.replicate l.length false) i).length = l.length := by rw [mix_length hrep (by simp; omega)]; simp
    refine zA (fun k => qI.l0.eq_2 _ _ _ _ _ _) ?_
    refine zd (by omega) (zd (by omega) (zd (by omega) ?_))
    rw [rd34 l i hil, hw, Int.toNat_natCast]
    by_cases h14 : l[i].f0 = 14
    · refine zd h14 (zd (by omega) ?_)
      rw [mix_set hrep hir _ (by rw [hT, decide_eq_true h14]; simp)]
      exact hn
    · refine ze h14 (zd (by omega) ?_)
      rw [mix_set hrep hir _ (by rw [hT, decide_eq_false h14]; simp)]
      exact hn
theorem hops_ev (l : List S34) (R : xc l) : Ev (fun k => qI.f k l) (rest l (hopG l)) := by
  have hl := R.len
  unfold qI.f
  refine zd (by omega) (zd (by omega) ?_)
  have := hops_loop l R l.length 0 (by omega)
  rw [mix_zero] at this
  rwa [Int.toNat_natCast]
theorem dead_loop (l : List S34) (R : xc l) (v : List Bool) (hv : v.length = l.length) (d : Nat) : ∀ i : Nat, i + d = l.length →
    Ev (fun k => qf.l0 k l v (mix (v.map fun b => !b) (List.replicate l.length false) i) (l.length : Int) (i : Int)) (rest l (v.map fun b => !b)) := by
  have hl := R.len
  have hrep : (v.map fun b => !b).length = (List.replicate l.length false).length := by simp [hv]
  induction d with
  | zero =>
    intro i hi
    obtain rfl : i = l.length := by omega
    refine zA (fun k => qf.l0.eq_2 _ _ _ _ _ _) ?_
    refine ze (by omega) ?_
    have e : mix (v.map fun b => !b) (List.replicate l.length false) l.length = v.map fun b => !b := by have := mix_full hrep; simpa using this
    rw [e]
    exact zz (without_ev l R _ (by simp [hv])) zo
  | succ d ih =>
    intro i hi
    have hil : i < l.length := by omega
    have hir : i < (List.replicate l.length false).length := by simpa using hil
    have hw := qS (i := i) (by omega)
    have hn := ih (i + 1) (by omega)
    have hml : (mix (v.map fun b => !b) (List.replicate l.length false) i).length = l.length := by rw [mix_length hrep (by simp; omega)]; simp
    have hiv : i < v.length := by omega
    refine zA (fun k => qf.l0.eq_2 _ _ _ _ _ _) ?_
    refine zd (by omega) (zd (by omega) (zd (by omega) (zd (by omega) ?_)))
    rw [hw, Int.toNat_natCast, rdBool, mix_set hrep hir _ (by simp [List.getD_eq_getElem?_getD, List.getElem?_eq_getElem hiv])]
    exact hn
theorem dead_ev (l : List S34) (R : xc l) (v : List Bool) (hv : v.length = l.length) (hlive : Ev (fun k => zL.f k l) (v, 0)) : Ev (fun k => qf.f k l) (rest l (v.map fun b => !b)) := by
  have hl := R.len
  unfold qf.f
  refine zz hlive (zd (by omega) (zd (by omega) ?_))
  refine zC rfl ?_
  have := dead_loop l R v hv l.length 0 (by omega)
  rw [mix_zero] at this
  rw [Int.toNat_natCast, List.length_replicate]
  exact this
def headB (c : Int) : Bool := decide ((97 ≤ c ∧ c ≤ 122) ∨ (65 ≤ c ∧ c ≤ 90) ∨ c = 95)
def okB (c : Int) : Bool := headB c || decide (48 ≤ c ∧ c ≤ 57)
theorem bt_byte (s : ByteArray) (i : Int) : 0 ≤ bt s i ∧ bt s i < 256 := by
  have := bt_range s i
  omega
theorem head_val (c : Int) (h0 : 0 ≤ c) (h1 : c < 256) : qU.f c = some (headB c) := by
  have h : ∀ i : Fin 256, qU.f (i.val : Int) = some (headB (i.val : Int)) := by decide +kernel
  have := h ⟨c.toNat, by omega⟩
  rwa [Int.toNat_of_nonneg h0] at this
theorem refName_step (k : Nat) (s : ByteArray) (i : Int) : zk.l0 (k + 1) s i = if i < (s.size : Int) then (if 0 ≤ i then (if okB (bt s i) = true then zk.l0 k s (wrap64 (i + 1)) else some false) else none) else some true := by
  rw [zk.l0.eq_2]
  generalize bt s i = c
  generalize zk.l0 k s (wrap64 (i + 1)) = X
  have hk : okB c = true ↔ (97 ≤ c ∧ c ≤ 122) ∨ (65 ≤ c ∧ c ≤ 90) ∨ c = 95 ∨ (48 ≤ c ∧ c ≤ 57) := by
    unfold okB headB
    rw [Bool.or_eq_true, decide_eq_true_iff, decide_eq_true_iff]
    omega
  by_cases hk2 : okB c = true
  · have h := hk.1 hk2
    rw [if_pos hk2]
    repeat' split
    all_goals first | rfl | (exfalso; omega)
  · have h : ¬ _ := fun z => hk2 (hk.2 z)
    rw [if_neg hk2]
    repeat' split
    all_goals first | rfl | (exfalso; omega)
theorem name16_loop (s : ByteArray) (hs : s.size ≤ 140737488351232) (d : Nat) : ∀ i : Nat, i + d = s.size → ∃ b, Ev (fun k => zq.l0 k s (s.size : Int) (i : Int)) b ∧ Ev (fun k => zk.l0 k s (i : Int)) b := by
  induction d with
  | zero =>
    intro i hi
    exact ⟨true, zA (fun k => zq.l0.eq_2 _ _ _ _) (ze (by omega) zo), zA (fun k => refName_step _ _ _) (ze (by omega) zo)⟩
  | succ d ih =>
    intro i hi
    obtain ⟨q, hq, hq2⟩ := ih (i + 1) (by omega)
    have hw := qS (i := i) (by omega)
    obtain ⟨c0, c1⟩ := bt_byte s (i : Int)
    have hh := head_val _ c0 c1
    have pre : ∀ r, Ev (fun k => if headB (bt s (i : Int)) = true then zq.l0 k s (s.size : Int) (wrap64 ((i : Int) + 1)) else if bt s (i : Int) < 48 then some false else if bt s (i : Int) > 57 then some false else zq.l0 k s (s.size : Int) (wrap64 ((i : Int) + 1))) r → Ev (fun k => zq.l0 k s (s.size : Int) (i : Int)) r := fun r h =>
      zA (fun k => zq.l0.eq_2 _ _ _ _) (zd (by omega) (zd (by omega) (zd (by omega) (zC hh h))))
    have pre2 : ∀ r, Ev (fun k => if okB (bt s (i : Int)) = true then zk.l0 k s (wrap64 ((i : Int) + 1)) else some false) r → Ev (fun k => zk.l0 k s (i : Int)) r := fun r h =>
      zA (fun k => refName_step _ _ _) (zd (by omega) (zd (by omega) h))
    rw [hw] at pre pre2
    cases hb : headB (bt s (i : Int)) with
    | true =>
      have ho : okB (bt s (i : Int)) = true := by unfold okB; rw [hb]; rfl
      exact ⟨q, pre _ (zd hb hq), pre2 _ (zd ho hq2)⟩
    | false =>
      by_cases h1 : bt s (i : Int) < 48
      · have ho : ¬ okB (bt s (i : Int)) = true := by unfold okB; rw [hb, Bool.false_or, decide_eq_true_iff]; omega
        exact ⟨false, pre _ (ze (by rw [hb]; decide) (zd h1 zo)), pre2 _ (ze ho zo)⟩
      · by_cases h2 : bt s (i : Int) > 57
        · have ho : ¬ okB (bt s (i : Int)) = true := by unfold okB; rw [hb, Bool.false_or, decide_eq_true_iff]; omega
          exact ⟨false, pre _ (ze (by rw [hb]; decide) (ze h1 (zd h2 zo))), pre2 _ (ze ho zo)⟩
        · have ho : okB (bt s (i : Int)) = true := by unfold okB; rw [hb, Bool.false_or, decide_eq_true_iff]; omega
          exact ⟨q, pre _ (ze (by rw [hb]; decide) (ze h1 (ze h2 hq))), pre2 _ (zd ho hq2)⟩
theorem size_nil (s : ByteArray) : s.toList = ([] : List UInt8) ↔ s.size = 0 := by
  have : s.toList.length = s.size := by rw [ByteArray.toList_eq]; simp
  constructor
  · intro h; rw [h] at this; simpa using this.symm
  · intro h; exact List.eq_nil_of_length_eq_zero (by omega)
theorem name16 (s : ByteArray) (hs : s.size ≤ 140737488351232) : ∃ b, Ev (fun k => zq.f k s) b ∧ Ev (fun k => zk.f k s) b := by
  have nj1 : Ev (fun k => zq.j0 k s true) false := zA (fun k => zq.j0.eq_2 _ _ _) (zd rfl zo)
  have rj1 : Ev (fun k => zk.j0 k s true) false := zA (fun k => zk.j0.eq_2 _ _ _) (zd rfl zo)
  unfold zq.f zk.f
  by_cases h0 : s.size = 0
  · exact ⟨false, zd ((size_nil s).2 h0) nj1, zd (by omega) rj1⟩
  · have hn : ¬ s.toList = ([] : List UInt8) := fun h => h0 ((size_nil s).1 h)
    by_cases h1 : (s.size : Int) > 32
    · exact ⟨false, ze hn (zd h1 nj1), ze (by omega) (zd h1 rj1)⟩
    · obtain ⟨c0, c1⟩ := bt_byte s 0
      have hh := head_val _ c0 c1
      obtain ⟨q, hq, hq2⟩ := name16_loop s hs s.size 0 (by omega)
      have rj0 : Ev (fun k => zk.j0 k s false) q := zA (fun k => zk.j0.eq_2 _ _ _) (ze (by decide) hq2)
      have nj0 : Ev (fun k => zq.j0 k s false) q := zA (fun k => zq.j0.eq_2 _ _ _) (ze (by decide) hq)
      cases hb : headB (bt s 0) with
      | true =>
        rw [hb] at hh
        refine ⟨q, ze hn (ze h1 (zd (by omega) (zC hh nj0))), ze (by omega) (ze h1 (zd (by omega) ?_))⟩
        have hc : ¬ bt s 0 ≤ 57 := by unfold headB at hb; rw [decide_eq_true_iff] at hb; omega
        by_cases h48 : bt s 0 ≥ 48
        · refine zd h48 ?_
          rw [decide_eq_false hc]
          exact rj0
        · exact ze h48 rj0
      | false =>
        rw [hb] at hh
        refine ⟨false, ze hn (ze h1 (zd (by omega) (zC hh nj1))), ze (by omega) (ze h1 (zd (by omega) ?_))⟩
        have rl : ¬ (48 ≤ bt s 0 ∧ bt s 0 ≤ 57) → Ev (fun k => zk.j0 k s false) false := by
          intro hd
          refine zA (fun k => zk.j0.eq_2 _ _ _) (ze (by decide) ?_)
          refine zA (fun k => refName_step _ _ _) (zd (by omega) (zd (by omega) (ze ?_ zo)))
          unfold okB
          rw [hb, Bool.false_or, decide_eq_true_iff]
          exact hd
        by_cases h48 : bt s 0 ≥ 48
        · refine zd h48 ?_
          by_cases h57 : bt s 0 ≤ 57
          · rw [decide_eq_true h57]; exact rj1
          · rw [decide_eq_false h57]; exact rl (by omega)
        · exact ze h48 (rl (by omega))
theorem template16_l (s : ByteArray) : ∀ k i, zG.l0 k s i = zt.l0 k s i := by
  intro k
  induction k with
  | zero => intro i; rfl
  | succ k ih => intro i; rw [zG.l0.eq_2, zt.l0.eq_2]; simp only [ih]
theorem template16 (s : ByteArray) (k : Nat) : zG.f k s = zt.f k s := by
  unfold zG.f zt.f
  rw [template16_l]
def bitV (a b : Int) : Bool := (Int.tmod (wrap64 (Int.tdiv a b)) 2) == 1
theorem has16 (a b : Int) (h : ¬ b = 0) : zl.f a b = some (bitV a b) := by unfold zl.f; rw [if_neg h]; rfl
def usesOk (op : Int) : Bool := match zK.f op with
  | some u => !(u.2.1.toList == []) && u.2.2 == hasB op 64 && bitV u.1 1 == hasB op 32 && bitV u.1 2 == (op == 20) && bitV u.1 4 == (op == 2 || op == 5) && bitV u.1 8 == (op == 18 || op == 20) && bitV u.1 16 == hasB op 16
  | none => false
theorem uses_tab : ∀ i : Fin 20, usesOk ((i.val + 1 : Nat) : Int) = true := by decide +kernel
theorem mask_tab : ∀ i : Fin 20, hasB ((i.val + 1 : Nat) : Int) 1 = (hasB ((i.val + 1 : Nat) : Int) 32 || ((i.val + 1 : Nat) : Int) == 20) ∧ hasB ((i.val + 1 : Nat) : Int) 2 = (((i.val + 1 : Nat) : Int) == 2 || ((i.val + 1 : Nat) : Int) == 5 || ((i.val + 1 : Nat) : Int) == 18 || ((i.val + 1 : Nat) : Int) == 20) ∧ hasB ((i.val + 1 : Nat) : Int) 4 = (((i.val + 1 : Nat) : Int) == 18 || ((i.val + 1 : Nat) : Int) == 20) ∧ hasB ((i.val + 1 : Nat) : Int) 8 = (((i.val + 1 : Nat) : Int) == 18 || ((i.val + 1 : Nat) : Int) == 20) := by decide +kernel
theorem uses_at (op : Int) (h0 : 1 ≤ op) (h1 : op ≤ 20) : ∃ u, zK.f op = some u ∧ ¬ u.2.1.toList = [] ∧ u.2.2 = hasB op 64 ∧ bitV u.1 1 = hasB op 32 ∧ bitV u.1 2 = (op == 20) ∧ bitV u.1 4 = (op == 2 || op == 5) ∧ bitV u.1 8 = (op == 18 || op == 20) ∧ bitV u.1 16 = hasB op 16 := by
  have h := uses_tab ⟨(op - 1).toNat, by omega⟩
  have e : (((op - 1).toNat + 1 : Nat) : Int) = op := by omega
  rw [e] at h
  unfold usesOk at h
  cases hu : zK.f op with
  | none => rw [hu] at h; cases h
  | some u =>
    rw [hu] at h
    simp only [Bool.and_eq_true, beq_iff_eq, Bool.not_eq_true'] at h
    obtain ⟨⟨⟨⟨⟨⟨h1, h2⟩, h3⟩, h4⟩, h5⟩, h6⟩, h7⟩ := h
    exact ⟨u, rfl, (fun z => by rw [z] at h1; cases h1), h2, h3, h4, h5, h6, h7⟩
theorem mask_at (op : Int) (h0 : 1 ≤ op) (h1 : op ≤ 20) : hasB op 1 = (hasB op 32 || op == 20) ∧ hasB op 2 = (op == 2 || op == 5 || op == 18 || op == 20) ∧ hasB op 4 = (op == 18 || op == 20) ∧ hasB op 8 = (op == 18 || op == 20) := by
  have h := mask_tab ⟨(op - 1).toNat, by omega⟩
  have e : (((op - 1).toNat + 1 : Nat) : Int) = op := by omega
  simp only [e] at h
  exact h
def xI (c n : Int) (s : ByteArray) (nb tb : Bool) : Bool := decide (0 ≤ n ∧ n ≤ 50 ∧ (n = 0 ∨ c = 7)) && (if c = 3 then (s.toList == []) || nb else if c = 6 then tb else s.toList == [])
theorem catchV_n (c n : Int) (s : ByteArray) (nb tb : Bool) (h : ¬ (0 ≤ n ∧ n ≤ 50 ∧ (n = 0 ∨ c = 7))) : xI c n s nb tb = false := by unfold xI; rw [decide_eq_false h]; rfl
theorem catchV_y (c n : Int) (s : ByteArray) (nb tb : Bool) (h : 0 ≤ n ∧ n ≤ 50 ∧ (n = 0 ∨ c = 7)) : xI c n s nb tb = (if c = 3 then (s.toList == []) || nb else if c = 6 then tb else s.toList == []) := by unfold xI; rw [decide_eq_true h]; rfl
theorem nil_true {s : ByteArray} (h : s.toList = ([] : List UInt8)) : (s.toList == ([] : List UInt8)) = true := beq_iff_eq.2 h
theorem nil_false {s : ByteArray} (h : ¬ s.toList = ([] : List UInt8)) : (s.toList == ([] : List UInt8)) = false := beq_eq_false_iff_ne.2 h
theorem fields_val (c n : Int) (s : ByteArray) (h2 : 2 ≤ c) (h7 : c ≤ 7) (nb tb : Bool) (hn : Ev (fun k => zq.f k s) nb) (ht : Ev (fun k => zt.f k s) tb) : Ev (fun k => zp.f k (c + 16) n s 0 0 0 0) (xI c n s nb tb) := by
  unfold zp.f
  refine ze (by omega) ?_
  refine zA (fun k => zp.j0.eq_2 _ _ _ _ _ _ _ _ _) ?_
  refine ze (by decide) ?_
  have jt : Ev (fun k => zp.j1 k true (c + 16) n s 0 0 0 0) false := zA (fun k => zp.j1.eq_2 _ _ _ _ _ _ _ _ _) (zd rfl zo)
  have jf : Ev (fun k => zp.j1 k false (c + 16) n s 0 0 0 0) (if c = 3 then (s.toList == []) || nb else if c = 6 then tb else s.toList == []) := by
    refine zA (fun k => zp.j1.eq_2 _ _ _ _ _ _ _ _ _) (ze (by decide) (ze (by omega) (ze (by omega) ?_)))
    by_cases h3 : c = 3
    · refine zd (by omega) ?_
      rw [if_pos h3]
      by_cases he : s.toList = ([] : List UInt8)
      · rw [nil_true he]; exact zd he zo
      · rw [nil_false he]; exact ze he (zz hn zo)
    · refine ze (by omega) ?_
      rw [if_neg h3]
      by_cases h6 : c = 6
      · rw [if_pos h6]; exact zd (by omega) (zz ht zo)
      · rw [if_neg h6]; exact ze (by omega) zo
  by_cases n0 : n < 0
  · rw [catchV_n _ _ _ _ _ (by omega)]; exact zd n0 jt
  · by_cases n5 : n > 50
    · rw [catchV_n _ _ _ _ _ (by omega)]; exact ze n0 (zd n5 jt)
    · by_cases n1 : n > 0
      · refine ze n0 (ze n5 (zd n1 ?_))
        have hc : xl.f (c + 16) = some (decide (c = 7)) := by
          unfold xl.f
          rw [if_pos (by omega), if_neg (by omega)]
          congr 1
          by_cases h : c = 7
          · subst h; rfl
          · rw [decide_eq_false h]; exact beq_eq_false_iff_ne.2 (by omega)
        refine zC hc ?_
        by_cases h : c = 7
        · rw [decide_eq_true h, catchV_y _ _ _ _ _ (by omega)]; exact jf
        · rw [decide_eq_false h, catchV_n _ _ _ _ _ (by omega)]; exact jt
      · rw [catchV_y _ _ _ _ _ (by omega)]; exact ze n0 (ze n5 (ze n1 jf))
theorem capture_val (c n : Int) (s : ByteArray) (h1 : 1 ≤ c) (h7 : c ≤ 7) (nb tb : Bool) (hn : Ev (fun k => zq.f k s) nb) (ht : Ev (fun k => zt.f k s) tb) : Ev (fun k => qb.f k c n s) (xI c n s nb tb) := by
  by_cases hc : c = 1
  · subst hc
    unfold qb.f
    refine zd rfl ?_
    by_cases h : n = 0
    · rw [show xI 1 n s nb tb = (s.toList == []) by rw [catchV_y _ _ _ _ _ (by omega)]; rfl]; exact zd h zo
    · rw [catchV_n _ _ _ _ _ (by omega)]; exact ze h zo
  · exact capture_ev c n s (by omega) h7 _ (fields_val c n s (by omega) h7 nb tb hn ht)
theorem catches_val (op a b n : Int) (s : ByteArray) (w0 w1 w2 w3 : Int) (nb tb : Bool) (hn : Ev (fun k => zk.f k s) nb) (ht : Ev (fun k => zG.f k s) tb) :
    Ev (fun k => zv.f k op a b n s w0 w1 w2 w3) (decide ((if op = 18 then 2 else 1) ≤ b ∧ b ≤ 7) && xI b n s nb tb) := by
  have jt : Ev (fun k => zv.j1 k true op a b n s w0 w1 w2 w3) false := zA (fun k => zv.j1.eq_2 _ _ _ _ _ _ _ _ _ _ _) (zd rfl zo)
  have jf : Ev (fun k => zv.j1 k false op a b n s w0 w1 w2 w3) (if b = 3 then (s.toList == []) || nb else if b = 6 then tb else s.toList == []) := by
    refine zA (fun k => zv.j1.eq_2 _ _ _ _ _ _ _ _ _ _ _) (ze (by decide) ?_)
    by_cases h3 : b = 3
    · refine zd (by omega) ?_
      rw [if_pos h3]
      by_cases he : s.toList = ([] : List UInt8)
      · rw [nil_true he]; exact zd he zo
      · rw [nil_false he]; exact ze he (zz hn zo)
    · refine ze (by omega) ?_
      rw [if_neg h3]
      by_cases h6 : b = 6
      · rw [if_pos h6]; exact zd (by omega) (zz ht zo)
      · rw [if_neg h6]; exact ze (by omega) zo
  have key : ∀ m : Int, Ev (fun k => zv.j0 k m op a b n s w0 w1 w2 w3) (decide (m ≤ b ∧ b ≤ 7) && xI b n s nb tb) := by
    intro m
    refine zA (fun k => zv.j0.eq_2 _ _ _ _ _ _ _ _ _ _ _) ?_
    by_cases c1 : b < m
    · rw [decide_eq_false (by omega)]; exact zd c1 jt
    · by_cases c2 : b > 7
      · rw [decide_eq_false (by omega)]; exact ze c1 (zd c2 jt)
      · rw [decide_eq_true (by omega), Bool.true_and]
        by_cases n0 : n < 0
        · rw [catchV_n _ _ _ _ _ (by omega)]; exact ze c1 (ze c2 (zd n0 jt))
        · by_cases n5 : n > 50
          · rw [catchV_n _ _ _ _ _ (by omega)]; exact ze c1 (ze c2 (ze n0 (zd n5 jt)))
          · refine ze c1 (ze c2 (ze n0 (ze n5 ?_)))
            by_cases h : b = 7
            · rw [catchV_y _ _ _ _ _ (by omega)]; exact zd h jf
            · refine ze h ?_
              by_cases hz : n = 0
              · rw [catchV_y _ _ _ _ _ (by omega), show (n != 0) = false from bne_eq_false_iff_eq.2 hz]; exact jf
              · rw [catchV_n _ _ _ _ _ (by omega), show (n != 0) = true from bne_iff_ne.2 hz]; exact jt
  unfold zv.f
  by_cases h : op = 18
  · rw [if_pos h]; exact zd h (key 2)
  · rw [if_neg h]; exact ze h (key 1)
theorem nil_list : (⟨#[]⟩ : ByteArray).toList = ([] : List UInt8) := by decide +kernel
theorem mism_val (kA kB kN kX kS : Bool) (op a b n : Int) (s : ByteArray) (w0 w1 w2 w3 : Int) :
    (!(op == op) || (!(a == if kA = true then a else 0) || (!(b == if kB = true then b else 0) || (!(n == if kN = true then n else 0) || (!(s.toList == (if kX = true then s else ⟨#[]⟩).toList) || ((!(w0 == if kS = true then w0 else 0) || (!(w1 == if kS = true then w1 else 0) || (!(w2 == if kS = true then w2 else 0) || (!(w3 == if kS = true then w3 else 0)))))))))))
      = !((kA || a == 0) && ((kB || b == 0) && ((kN || n == 0) && ((kX || s.toList == ([] : List UInt8)) && (kS || (w0 == 0 && (w1 == 0 && (w2 == 0 && w3 == 0)))))))) := by
  cases kA <;> cases kB <;> cases kN <;> cases kX <;> cases kS <;> simp [nil_list]
def keepV (x : S34) : Bool := (hasB x.f0 1 || x.f1 == 0) && ((hasB x.f0 2 || x.f2 == 0) && ((hasB x.f0 4 || x.f3 == 0) && ((hasB x.f0 8 || x.f4.toList == ([] : List UInt8)) && (hasB x.f0 16 || (x.f5.f0 == 0 && (x.f5.f1 == 0 && (x.f5.f2 == 0 && x.f5.f3 == 0)))))))
def tailV (x : S34) (nb tb : Bool) : Bool := if x.f0 = 2 ∨ x.f0 = 5 then decide (0 ≤ x.f2 ∧ x.f2 ≤ 255) else if x.f0 = 18 then decide (2 ≤ x.f2 ∧ x.f2 ≤ 7) && xI x.f2 x.f3 x.f4 nb tb else if x.f0 = 20 then decide (1 ≤ x.f2 ∧ x.f2 ≤ 7 ∧ 0 ≤ x.f1 ∧ x.f1 ≤ 255 ∧ (x.f2 = 1 → ¬ x.f1 > 0)) && xI x.f2 x.f3 x.f4 nb tb else true
theorem fitsj_val (op : Int) (x9 : Bool) (a0 a1 a2 a3 : Int) (a4 : ByteArray) (a5 a6 a7 a8 : Int) (nb tb : Bool) (hn : Ev (fun k => zq.f k a4) nb) (ht : Ev (fun k => zt.f k a4) tb)
    (v : Bool) (hv : v = (if x9 = true then decide (0 ≤ a2 ∧ a2 ≤ 255) else if op = 18 then decide (2 ≤ a2 ∧ a2 ≤ 7) && xI a2 a3 a4 nb tb else if op = 20 then decide (1 ≤ a2 ∧ a2 ≤ 7 ∧ 0 ≤ a1 ∧ a1 ≤ 255 ∧ (a2 = 1 → ¬ a1 > 0)) && xI a2 a3 a4 nb tb else true)) : Ev (fun k => zO.j0 k op x9 a0 a1 a2 a3 a4 a5 a6 a7 a8) v := by
  refine zA (fun k => zO.j0.eq_2 _ _ _ _ _ _ _ _ _ _ _ _) ?_
  cases x9 with
  | true =>
    rw [if_pos rfl] at hv
    by_cases h : a2 ≥ 0
    · refine zd rfl (zd h ?_)
      rw [show decide (0 ≤ a2 ∧ a2 ≤ 255) = decide (a2 ≤ 255) from decide_eq_decide.2 (by omega)] at hv
      subst hv
      exact zo
    · rw [decide_eq_false (by omega)] at hv; subst hv; exact zd rfl (ze h zo)
  | false =>
    rw [if_neg (by decide)] at hv
    refine ze (by decide) ?_
    by_cases h18 : op = 18
    · rw [if_pos h18] at hv
      refine zd h18 ?_
      by_cases h2 : a2 ≥ 2
      · by_cases h7 : a2 ≤ 7
        · rw [decide_eq_true (by omega), Bool.true_and] at hv
          subst hv
          exact zd h2 (zd h7 (zz (capture_val a2 a3 a4 (by omega) h7 nb tb hn ht) zo))
        · rw [decide_eq_false (by omega)] at hv; subst hv; exact zd h2 (ze h7 zo)
      · rw [decide_eq_false (by omega)] at hv; subst hv; exact ze h2 zo
    · rw [if_neg h18] at hv
      refine ze h18 ?_
      by_cases h20 : op = 20
      · rw [if_pos h20] at hv
        refine zd h20 ?_
        by_cases c1 : a2 < 1
        · rw [decide_eq_false (by omega)] at hv; subst hv; exact zd c1 zo
        · by_cases c2 : a2 > 7
          · rw [decide_eq_false (by omega)] at hv; subst hv; exact ze c1 (zd c2 zo)
          · by_cases c3 : a1 < 0
            · rw [decide_eq_false (by omega)] at hv; subst hv; exact ze c1 (ze c2 (zd c3 zo))
            · by_cases c4 : a1 > 255
              · rw [decide_eq_false (by omega)] at hv; subst hv; exact ze c1 (ze c2 (ze c3 (zd c4 zo)))
              · have hb := capture_val a2 a3 a4 (by omega) (by omega) nb tb hn ht
                by_cases c5 : a2 = 1
                · by_cases c6 : a1 > 0
                  · rw [decide_eq_false (fun z => z.2.2.2.2 c5 c6)] at hv; subst hv; exact ze c1 (ze c2 (ze c3 (ze c4 (zd c5 (zd c6 zo)))))
                  · rw [decide_eq_true (⟨by omega, by omega, by omega, by omega, fun _ => c6⟩), Bool.true_and] at hv; subst hv; exact ze c1 (ze c2 (ze c3 (ze c4 (zd c5 (ze c6 (zz hb zo))))))
                · rw [decide_eq_true (⟨by omega, by omega, by omega, by omega, fun z => absurd z c5⟩), Bool.true_and] at hv; subst hv; exact ze c1 (ze c2 (ze c3 (ze c4 (ze c5 (zz hb zo)))))
      · rw [if_neg h20] at hv; subst hv; exact ze h20 zo
theorem fits_val (x : S34) (h0 : 1 ≤ x.f0) (h1 : x.f0 ≤ 20) (nb tb : Bool) (hn : Ev (fun k => zq.f k x.f4) nb) (ht : Ev (fun k => zt.f k x.f4) tb) :
    Ev (fun k => zO.f k x.f0 x.f1 x.f2 x.f3 x.f4 x.f5.f0 x.f5.f1 x.f5.f2 x.f5.f3) (keepV x && tailV x nb tb) := by
  unfold zO.f
  have hp : qc.f x.f0 x.f1 x.f2 x.f3 x.f4 x.f5.f0 x.f5.f1 x.f5.f2 x.f5.f3 = some (x.f0, if hasB x.f0 1 = true then x.f1 else 0, if hasB x.f0 2 = true then x.f2 else 0, if hasB x.f0 4 = true then x.f3 else 0, if hasB x.f0 8 = true then x.f4 else ⟨#[]⟩, if hasB x.f0 16 = true then x.f5.f0 else 0, if hasB x.f0 16 = true then x.f5.f1 else 0, if hasB x.f0 16 = true then x.f5.f2 else 0, if hasB x.f0 16 = true then x.f5.f3 else 0) := by
    unfold qc.f
    rw [if_pos (by omega), if_pos (by omega)]
  refine zC hp ?_
  simp only []
  rw [mism_val]
  have e : ((hasB x.f0 1 || x.f1 == 0) && ((hasB x.f0 2 || x.f2 == 0) && ((hasB x.f0 4 || x.f3 == 0) && ((hasB x.f0 8 || x.f4.toList == ([] : List UInt8)) && (hasB x.f0 16 || (x.f5.f0 == 0 && (x.f5.f1 == 0 && (x.f5.f2 == 0 && x.f5.f3 == 0)))))))) = keepV x := rfl
  rw [e]
  cases keepV x with
  | false => exact zd rfl zo
  | true =>
    refine ze (by decide) ?_
    rw [Bool.true_and]
    unfold tailV
    by_cases h2 : x.f0 = 2
    · rw [if_pos (Or.inl h2)]
      refine zd h2 ?_
      exact fitsj_val x.f0 (x.f0 == 2) x.f0 x.f1 x.f2 x.f3 x.f4 x.f5.f0 x.f5.f1 x.f5.f2 x.f5.f3 nb tb hn ht _ (by rw [if_pos (beq_iff_eq.2 h2)])
    · refine ze h2 ?_
      by_cases h5 : x.f0 = 5
      · rw [if_pos (Or.inr h5)]
        exact fitsj_val x.f0 (x.f0 == 5) x.f0 x.f1 x.f2 x.f3 x.f4 x.f5.f0 x.f5.f1 x.f5.f2 x.f5.f3 nb tb hn ht _ (by rw [if_pos (beq_iff_eq.2 h5)])
      · rw [if_neg (by omega)]
        exact fitsj_val x.f0 (x.f0 == 5) x.f0 x.f1 x.f2 x.f3 x.f4 x.f5.f0 x.f5.f1 x.f5.f2 x.f5.f3 nb tb hn ht _ (by rw [if_neg (show ¬ (x.f0 == 5) = true by rw [beq_iff_eq]; exact h5)])
def argsV (x : S34) (nb tb : Bool) : Bool := (hasB x.f0 16 || (x.f5.f0 == 0 && (x.f5.f1 == 0 && (x.f5.f2 == 0 && x.f5.f3 == 0)))) && ((hasB x.f0 32 || (x.f0 == 20 || x.f1 == 0)) && ((!(x.f0 == 20) || decide (0 ≤ x.f1 ∧ x.f1 ≤ 255 ∧ (x.f2 = 1 → x.f1 = 0))) &&
  (if x.f0 = 18 ∨ x.f0 = 20 then decide ((if x.f0 = 18 then 2 else 1) ≤ x.f2 ∧ x.f2 ≤ 7) && xI x.f2 x.f3 x.f4 nb tb else decide (x.f3 = 0) && ((x.f4.toList == ([] : List UInt8)) && (if x.f0 = 2 ∨ x.f0 = 5 then decide (0 ≤ x.f2 ∧ x.f2 ≤ 255) else decide (x.f2 = 0))))))
theorem args_val (x : S34) (h0 : 1 ≤ x.f0) (h1 : x.f0 ≤ 20) (nb tb : Bool) (hn : Ev (fun k => zk.f k x.f4) nb) (ht : Ev (fun k => zG.f k x.f4) tb) :
    Ev (fun k => zn.f k x.f0 x.f1 x.f2 x.f3 x.f4 x.f5.f0 x.f5.f1 x.f5.f2 x.f5.f3) (argsV x nb tb) := by
  obtain ⟨u, hu, _, _, e1, e2, e4, e8, e16⟩ := uses_at x.f0 h0 h1
  have g1 := has16 u.1 1 (by decide)
  have g2 := has16 u.1 2 (by decide)
  have g4 := has16 u.1 4 (by decide)
  have g8 := has16 u.1 8 (by decide)
  have g16 := has16 u.1 16 (by decide)
  rw [e1] at g1; rw [e2] at g2; rw [e4] at g4; rw [e8] at g8; rw [e16] at g16
  have hc := catches_val x.f0 x.f1 x.f2 x.f3 x.f4 x.f5.f0 x.f5.f1 x.f5.f2 x.f5.f3 nb tb hn ht
  have J1 : ∀ z : Bool, Ev (fun k => zn.j1 k u.1 z x.f0 x.f1 x.f2 x.f3 x.f4 x.f5.f0 x.f5.f1 x.f5.f2 x.f5.f3) (!z && (if x.f0 = 18 ∨ x.f0 = 20 then decide ((if x.f0 = 18 then 2 else 1) ≤ x.f2 ∧ x.f2 ≤ 7) && xI x.f2 x.f3 x.f4 nb tb else decide (x.f3 = 0) && ((x.f4.toList == ([] : List UInt8)) && (if x.f0 = 2 ∨ x.f0 = 5 then decide (0 ≤ x.f2 ∧ x.f2 ≤ 255) else decide (x.f2 = 0))))) := by
    intro z
    refine zA (fun k => zn.j1.eq_2 _ _ _ _ _ _ _ _ _ _ _ _) ?_
    cases z with
    | true => exact zd rfl zo
    | false =>
      refine ze (by decide) (zC g8 ?_)
      rw [Bool.not_false, Bool.true_and]
      by_cases hC : x.f0 = 18 ∨ x.f0 = 20
      · rw [if_pos hC]
        exact zd (by rcases hC with h | h <;> rw [h] <;> rfl) (zz hc zo)
      · rw [if_neg hC]
        refine ze (by rw [Bool.or_eq_true, beq_iff_eq, beq_iff_eq]; exact hC) ?_
        by_cases hN : x.f3 = 0
        · rw [decide_eq_true hN, Bool.true_and]
          refine zd hN ?_
          by_cases he : x.f4.toList = ([] : List UInt8)
          · rw [nil_true he, Bool.true_and]
            refine zd he (zC g4 ?_)
            have eb : ∀ b : Int, (b == 0) = decide (b = 0) := fun b => by by_cases h : b = 0 <;> simp [h]
            by_cases hY : x.f0 = 2 ∨ x.f0 = 5
            · rw [if_pos hY]
              refine zd (by rcases hY with h | h <;> rw [h] <;> rfl) ?_
              by_cases b0 : x.f2 ≥ 0
              · refine zd b0 ?_
                by_cases b1 : x.f2 ≤ 255
                · rw [decide_eq_true (by omega)]; exact zd b1 zo
                · rw [decide_eq_false (by omega)]; refine ze b1 ?_; rw [eb, decide_eq_false (by omega)]; exact zo
              · rw [decide_eq_false (by omega)]; refine ze b0 ?_; rw [eb, decide_eq_false (by omega)]; exact zo
            · rw [if_neg hY]
              refine ze (by rw [Bool.or_eq_true, beq_iff_eq, beq_iff_eq]; exact hY) ?_
              rw [eb]
              exact zo
          · rw [nil_false he]; exact ze he zo
        · rw [decide_eq_false hN]; exact ze hN zo
  have J0 : ∀ z : Bool, Ev (fun k => zn.j0 k u.1 z x.f0 x.f1 x.f2 x.f3 x.f4 x.f5.f0 x.f5.f1 x.f5.f2 x.f5.f3) (!z && ((!(x.f0 == 20) || decide (0 ≤ x.f1 ∧ x.f1 ≤ 255 ∧ (x.f2 = 1 → x.f1 = 0))) && (if x.f0 = 18 ∨ x.f0 = 20 then decide ((if x.f0 = 18 then 2 else 1) ≤ x.f2 ∧ x.f2 ≤ 7) && xI x.f2 x.f3 x.f4 nb tb else decide (x.f3 = 0) && ((x.f4.toList == ([] : List UInt8)) && (if x.f0 = 2 ∨ x.f0 = 5 then decide (0 ≤ x.f2 ∧ x.f2 ≤ 255) else decide (x.f2 = 0)))))) := by
    intro z
    refine zA (fun k => zn.j0.eq_2 _ _ _ _ _ _ _ _ _ _ _ _) ?_
    cases z with
    | true => exact zd rfl zo
    | false =>
      refine ze (by decide) (zC g2 ?_)
      rw [Bool.not_false, Bool.true_and]
      cases hL : (x.f0 == 20) with
      | false => exact ze (by decide) (J1 false)
      | true =>
        refine zd rfl ?_
        rw [Bool.not_true, Bool.false_or]
        by_cases c1 : x.f1 < 0
        · rw [decide_eq_false (fun z => by omega)]; exact zd c1 (J1 true)
        · by_cases c2 : x.f1 > 255
          · rw [decide_eq_false (fun z => by omega)]; exact ze c1 (zd c2 (J1 true))
          · refine ze c1 (ze c2 ?_)
            by_cases c3 : x.f2 = 1
            · refine zd c3 ?_
              by_cases c4 : x.f1 = 0
              · rw [decide_eq_true (⟨by omega, by omega, fun _ => c4⟩), show (x.f1 != 0) = false from bne_eq_false_iff_eq.2 c4]; exact J1 false
              · rw [decide_eq_false (fun z => c4 (z.2.2 c3)), show (x.f1 != 0) = true from bne_iff_ne.2 c4]; exact J1 true
            · rw [decide_eq_true (⟨by omega, by omega, fun z => absurd z c3⟩)]; exact ze c3 (J1 false)
  have K : Ev (fun k => (zl.f u.1 1).bind fun t => if t = true then zn.j0 k u.1 false x.f0 x.f1 x.f2 x.f3 x.f4 x.f5.f0 x.f5.f1 x.f5.f2 x.f5.f3 else (zl.f u.1 2).bind fun t => if t = true then zn.j0 k u.1 false x.f0 x.f1 x.f2 x.f3 x.f4 x.f5.f0 x.f5.f1 x.f5.f2 x.f5.f3 else zn.j0 k u.1 (x.f1 != 0) x.f0 x.f1 x.f2 x.f3 x.f4 x.f5.f0 x.f5.f1 x.f5.f2 x.f5.f3)
      ((hasB x.f0 32 || (x.f0 == 20 || x.f1 == 0)) && ((!(x.f0 == 20) || decide (0 ≤ x.f1 ∧ x.f1 ≤ 255 ∧ (x.f2 = 1 → x.f1 = 0))) && (if x.f0 = 18 ∨ x.f0 = 20 then decide ((if x.f0 = 18 then 2 else 1) ≤ x.f2 ∧ x.f2 ≤ 7) && xI x.f2 x.f3 x.f4 nb tb else decide (x.f3 = 0) && ((x.f4.toList == ([] : List UInt8)) && (if x.f0 = 2 ∨ x.f0 = 5 then decide (0 ≤ x.f2 ∧ x.f2 ≤ 255) else decide (x.f2 = 0)))))) := by
    refine zC g1 ?_
    have J0f := J0 false
    rw [Bool.not_false, Bool.true_and] at J0f
    cases hT : hasB x.f0 32 with
    | true => rw [Bool.true_or, Bool.true_and]; exact zd rfl J0f
    | false =>
      rw [Bool.false_or]
      refine ze (by decide) (zC g2 ?_)
      cases hL : (x.f0 == 20) with
      | true => rw [hL] at J0f; rw [Bool.true_or, Bool.true_and]; exact zd rfl J0f
      | false =>
        rw [Bool.false_or]
        refine ze (by decide) ?_
        have := J0 (x.f1 != 0)
        rw [hL] at this
        rwa [show (!(x.f1 != 0)) = (x.f1 == 0) by rw [bne, Bool.not_not]] at this
  unfold zn.f argsV
  refine zC hu (zC g16 ?_)
  cases hS : hasB x.f0 16 with
  | true => rw [Bool.true_or, Bool.true_and]; exact zd rfl K
  | false =>
    rw [Bool.false_or]
    refine ze (by decide) ?_
    have es : (!(x.f5.f0 == 0) || (!(x.f5.f1 == 0) || (!(x.f5.f2 == 0) || (!(x.f5.f3 == 0))))) = !(x.f5.f0 == 0 && (x.f5.f1 == 0 && (x.f5.f2 == 0 && x.f5.f3 == 0))) := by simp only [Bool.not_and]
    rw [es]
    cases hZ : (x.f5.f0 == 0 && (x.f5.f1 == 0 && (x.f5.f2 == 0 && x.f5.f3 == 0))) with
    | false => exact zd rfl (J0 true)
    | true => rw [Bool.true_and]; exact ze (by decide) K
theorem args_fits (x : S34) (h0 : 1 ≤ x.f0) (h1 : x.f0 ≤ 20) (nb tb : Bool) : argsV x nb tb = (keepV x && tailV x nb tb) := by
  obtain ⟨m1, m2, m4, m8⟩ := mask_at x.f0 h0 h1
  unfold argsV keepV tailV
  rw [m1, m2, m4, m8]
  have eb : ∀ b c : Int, (b == c) = decide (b = c) := fun b c => by by_cases h : b = c <;> simp [h]
  generalize (x.f5.f0 == 0 && (x.f5.f1 == 0 && (x.f5.f2 == 0 && x.f5.f3 == 0))) = Z
  generalize hasB x.f0 16 = S
  generalize hasB x.f0 32 = T
  generalize (x.f4.toList == ([] : List UInt8)) = X
  generalize xI x.f2 x.f3 x.f4 nb tb = C
  rw [eb x.f1 0, eb x.f2 0, eb x.f3 0]
  by_cases h18 : x.f0 = 18
  · have e18 : (x.f0 == 18) = true := by rw [h18]; rfl
    have e20 : (x.f0 == 20) = false := by rw [h18]; rfl
    have e2 : (x.f0 == 2) = false := by rw [h18]; rfl
    have e5 : (x.f0 == 5) = false := by rw [h18]; rfl
    rw [e18, e20, e2, e5, if_pos (Or.inl h18), if_neg (show ¬ (x.f0 = 2 ∨ x.f0 = 5) by omega), if_pos h18, if_pos h18]
    generalize decide (2 ≤ x.f2 ∧ x.f2 ≤ 7) = R
    generalize decide (x.f1 = 0) = A
    cases S <;> cases T <;> cases Z <;> cases A <;> cases R <;> cases C <;> rfl
  · by_cases h20 : x.f0 = 20
    · have e18 : (x.f0 == 18) = false := by rw [h20]; rfl
      have e20 : (x.f0 == 20) = true := by rw [h20]; rfl
      have e2 : (x.f0 == 2) = false := by rw [h20]; rfl
      have e5 : (x.f0 == 5) = false := by rw [h20]; rfl
      rw [e18, e20, e2, e5, if_pos (Or.inr h20), if_neg (show ¬ (x.f0 = 2 ∨ x.f0 = 5) by omega), if_neg h18, if_neg h18, if_pos h20]
      have er : (decide (0 ≤ x.f1 ∧ x.f1 ≤ 255 ∧ (x.f2 = 1 → x.f1 = 0)) && decide (1 ≤ x.f2 ∧ x.f2 ≤ 7)) = decide (1 ≤ x.f2 ∧ x.f2 ≤ 7 ∧ 0 ≤ x.f1 ∧ x.f1 ≤ 255 ∧ (x.f2 = 1 → ¬ x.f1 > 0)) := by
        rw [← Bool.decide_and]
        exact decide_eq_decide.2 (by omega)
      rw [← er]
      generalize decide (0 ≤ x.f1 ∧ x.f1 ≤ 255 ∧ (x.f2 = 1 → x.f1 = 0)) = R
      generalize decide (1 ≤ x.f2 ∧ x.f2 ≤ 7) = Q
      cases S <;> cases T <;> cases Z <;> cases R <;> cases Q <;> cases C <;> rfl
    · have e18 : (x.f0 == 18) = false := beq_eq_false_iff_ne.2 h18
      have e20 : (x.f0 == 20) = false := beq_eq_false_iff_ne.2 h20
      rw [e18, e20, if_neg (show ¬ (x.f0 = 18 ∨ x.f0 = 20) by omega)]
      by_cases hY : x.f0 = 2 ∨ x.f0 = 5
      · have e25 : (x.f0 == 2 || x.f0 == 5) = true := by rcases hY with h | h <;> rw [h] <;> rfl
        rw [e25, if_pos hY, if_pos hY]
        generalize decide (0 ≤ x.f2 ∧ x.f2 ≤ 255) = R
        generalize decide (x.f1 = 0) = A
        generalize decide (x.f3 = 0) = Q
        cases S <;> cases T <;> cases Z <;> cases R <;> cases Q <;> cases A <;> cases X <;> rfl
      · have e2 : (x.f0 == 2) = false := beq_eq_false_iff_ne.2 (by omega)
        have e5 : (x.f0 == 5) = false := beq_eq_false_iff_ne.2 (by omega)
        rw [e2, e5, if_neg hY, if_neg hY, if_neg h18, if_neg h20]
        generalize decide (x.f2 = 0) = R
        generalize decide (x.f1 = 0) = A
        generalize decide (x.f3 = 0) = Q
        cases S <;> cases T <;> cases Z <;> cases R <;> cases Q <;> cases A <;> cases X <;> rfl
def Fit (x : S34) : Prop := Ev (fun k => zO.f k x.f0 x.f1 x.f2 x.f3 x.f4 x.f5.f0 x.f5.f1 x.f5.f2 x.f5.f3) true
theorem uses_bad (op : Int) (h : ¬ (1 ≤ op ∧ op ≤ 20)) : zK.f op = some (0, ⟨#[]⟩, false) := by
  unfold zK.f
  repeat rw [if_neg (by omega)]
theorem is_val (op : Int) : xp.f op = some (decide (1 ≤ op ∧ op ≤ 20)) := by
  unfold xp.f
  by_cases h1 : op ≥ 1
  · rw [if_pos h1]; congr 1; simp; omega
  · rw [if_neg h1]; congr 1; simp; omega
theorem fits16 (x : S34) (h0 : 1 ≤ x.f0) (h1 : x.f0 ≤ 20) (hs : x.f4.size ≤ 140737488351232) : ∃ b, Ev (fun k => zO.f k x.f0 x.f1 x.f2 x.f3 x.f4 x.f5.f0 x.f5.f1 x.f5.f2 x.f5.f3) b ∧ Ev (fun k => zn.f k x.f0 x.f1 x.f2 x.f3 x.f4 x.f5.f0 x.f5.f1 x.f5.f2 x.f5.f3) b := by
  obtain ⟨nb, hn, hn2⟩ := name16 x.f4 hs
  obtain ⟨tb, ht⟩ := template_total x.f4 hs
  have ht2 : Ev (fun k => zG.f k x.f4) tb := by simp only [template16]; exact ht
  refine ⟨_, fits_val x h0 h1 nb tb hn ht, ?_⟩
  rw [← args_fits x h0 h1 nb tb]
  exact args_val x h0 h1 nb tb hn2 ht2
theorem targets_val (op : Int) (h0 : 1 ≤ op) (h1 : op ≤ 20) : zN.f op = some (hasB op 32) := by
  obtain ⟨u, hu, _, _, e1, _⟩ := uses_at op h0 h1
  unfold zN.f
  rw [hu, Option.bind_some, has16 _ _ (by decide), e1]
  rfl
theorem check_pre (l : List S34) (hl : l.length ≤ 8192) (i : Nat) (hil : i < l.length) (r : Int × Int) (h : Ev (fun k => (xp.f l[i].f0).bind fun t => if t = true then ((zO.f k l[i].f0 l[i].f1 l[i].f2 l[i].f3 l[i].f4 l[i].f5.f0 l[i].f5.f1 l[i].f5.f2 l[i].f5.f3).bind fun t => if t = true then ((zy.f l[i].f0 32).bind fun t => if t = true then (if l[i].f1 < -(i : Int) then some ((i : Int), (162 : Int)) else if l[i].f1 ≥ (l.length : Int) - (i : Int) then some ((i : Int), 162) else zu.l0 k l l (l.length : Int) ((i + 1 : Nat) : Int)) else zu.l0 k l l (l.length : Int) ((i + 1 : Nat) : Int)) else some ((i : Int), 161)) else some ((i : Int), 160)) r) : Ev (fun k => zu.l0 k l l (l.length : Int) (i : Int)) r := by
  have hw := qS (i := i) (by omega)
  have hn : wrap64 (-(i : Int)) = -(i : Int) := qR (by omega) (by omega)
  have hn2 : wrap64 ((l.length : Int) - (i : Int)) = (l.length : Int) - (i : Int) := qR (by omega) (by omega)
  refine zA (fun k => zu.l0.eq_2 _ _ _ _ _) ?_
  refine zd (by omega) (zd (by omega) (zd (by omega) ?_))
  rw [rd34 l i hil, hw, hn, hn2]
  exact h
theorem check16_pre (l : List S34) (hl : l.length ≤ 8192) (i : Nat) (hil : i < l.length) (r : Int × Int) (h : Ev (fun k => (zK.f l[i].f0).bind fun u => if u.2.1.toList = ([] : List UInt8) then some ((i : Int), (160 : Int)) else ((zn.f k l[i].f0 l[i].f1 l[i].f2 l[i].f3 l[i].f4 l[i].f5.f0 l[i].f5.f1 l[i].f5.f2 l[i].f5.f3).bind fun t => if t = true then ((zN.f l[i].f0).bind fun t => if t = true then (if l[i].f1 < -(i : Int) then some ((i : Int), (162 : Int)) else if l[i].f1 ≥ (l.length : Int) - (i : Int) then some ((i : Int), 162) else zw.l0 k l ((i + 1 : Nat) : Int)) else zw.l0 k l ((i + 1 : Nat) : Int)) else some ((i : Int), 161))) r) : Ev (fun k => zw.l0 k l (i : Int)) r := by
  have hw := qS (i := i) (by omega)
  have hn : wrap64 (-(i : Int)) = -(i : Int) := qR (by omega) (by omega)
  have hn2 : wrap64 ((l.length : Int) - (i : Int)) = (l.length : Int) - (i : Int) := qR (by omega) (by omega)
  refine zA (fun k => zw.l0.eq_2 _ _ _) ?_
  refine zd (by omega) (zd (by omega) ?_)
  rw [rd34 l i hil, hw, hn, hn2]
  exact h
theorem check16_loop (l : List S34) (hl : l.length ≤ 8192) (hp : 0 < l.length) (hs : ∀ x ∈ l, x.f4.size ≤ 140737488351232) (d : Nat) : ∀ i : Nat, i + d = l.length → (∀ (j : Nat) (h : j < l.length), j < i → 1 ≤ l[j].f0 ∧ l[j].f0 ≤ 20) →
    ∃ r : Int × Int, Ev (fun k => zu.l0 k l l (l.length : Int) (i : Int)) r ∧ Ev (fun k => zw.l0 k l (i : Int)) r ∧ (r.2 = 0 → ∀ (j : Nat) (h : j < l.length), i ≤ j → Fit l[j]) := by
  induction d with
  | zero =>
    intro i hi hj
    have hw : wrap64 ((l.length : Int) - 1) = ((l.length - 1 : Nat) : Int) := by rw [qR (by omega) (by omega)]; omega
    have hlast := hj (l.length - 1) (by omega) (by omega)
    have hh := has_ev (l[l.length - 1].f0) 64 (by omega) (by omega)
    obtain ⟨u, hu, _, e2, _⟩ := uses_at _ hlast.1 hlast.2
    have pre : ∀ r, Ev (fun k => if hasB l[l.length - 1].f0 64 = true then some (((l.length - 1 : Nat) : Int), (163 : Int)) else some (0, 0)) r → Ev (fun k => zu.l0 k l l (l.length : Int) (i : Int)) r := by
      intro r h
      refine zA (fun k => zu.l0.eq_2 _ _ _ _ _) ?_
      refine ze (by omega) ?_
      rw [hw, rd34 l (l.length - 1) (by omega)]
      refine zd (by omega) (zd (by omega) ?_)
      exact zC hh h
    have pre2 : ∀ r, Ev (fun k => if hasB l[l.length - 1].f0 64 = true then some (((l.length - 1 : Nat) : Int), (163 : Int)) else some (0, 0)) r → Ev (fun k => zw.l0 k l (i : Int)) r := by
      intro r h
      refine zA (fun k => zw.l0.eq_2 _ _ _) ?_
      refine ze (by omega) ?_
      rw [hw, rd34 l (l.length - 1) (by omega)]
      refine zd (by omega) (zd (by omega) ?_)
      refine zC hu ?_
      rw [e2]
      exact h
    have fin : ∀ (j : Nat) (h : j < l.length), i ≤ j → Fit l[j] := fun j h hj1 => absurd hj1 (by omega)
    cases hb : hasB l[l.length - 1].f0 64 with
    | true => exact ⟨_, pre _ (zd hb zo), pre2 _ (zd hb zo), fun _ => fin⟩
    | false => exact ⟨_, pre _ (ze (by rw [hb]; decide) zo), pre2 _ (ze (by rw [hb]; decide) zo), fun _ => fin⟩
  | succ d ih =>
    intro i hi hj
    have hil : i < l.length := by omega
    have his := is_val l[i].f0
    have pre := check_pre l hl i hil
    have pre2 := check16_pre l hl i hil
    by_cases hop : 1 ≤ l[i].f0 ∧ l[i].f0 ≤ 20
    · rw [decide_eq_true hop] at his
      obtain ⟨u, hu, un, _⟩ := uses_at _ hop.1 hop.2
      obtain ⟨b, hb, hb2⟩ := fits16 l[i] hop.1 hop.2 (hs _ (List.getElem_mem hil))
      have hh := has_ev l[i].f0 32 (by omega) (by omega)
      have ht := targets_val l[i].f0 hop.1 hop.2
      obtain ⟨r, hr, hr2, hr3⟩ := ih (i + 1) (by omega) (fun j h hj1 => by
        by_cases hji : j < i
        · exact hj j h hji
        · obtain rfl : j = i := by omega
          exact hop)
      cases b with
      | false => exact ⟨_, pre _ (zC his (zd rfl (zz hb (ze (by decide) zo)))), pre2 _ (zC hu (ze un (zz hb2 (ze (by decide) zo)))), fun h => absurd h (by simp)⟩
      | true =>
        have fin : r.2 = 0 → ∀ (j : Nat) (h : j < l.length), i ≤ j → Fit l[j] := fun h0 j h hj1 => by
          by_cases hji : j = i
          · subst hji; exact hb
          · exact hr3 h0 j h (by omega)
        cases hg : hasB l[i].f0 32 with
        | false =>
          rw [hg] at hh ht
          exact ⟨r, pre _ (zC his (zd rfl (zz hb (zd rfl (zC hh (ze (by decide) hr)))))), pre2 _ (zC hu (ze un (zz hb2 (zd rfl (zC ht (ze (by decide) hr2)))))), fin⟩
        | true =>
          rw [hg] at hh ht
          by_cases c1 : l[i].f1 < -(i : Int)
          · exact ⟨_, pre _ (zC his (zd rfl (zz hb (zd rfl (zC hh (zd rfl (zd c1 zo))))))), pre2 _ (zC hu (ze un (zz hb2 (zd rfl (zC ht (zd rfl (zd c1 zo))))))), fun h => absurd h (by simp)⟩
          · by_cases c2 : l[i].f1 ≥ (l.length : Int) - (i : Int)
            · exact ⟨_, pre _ (zC his (zd rfl (zz hb (zd rfl (zC hh (zd rfl (ze c1 (zd c2 zo)))))))), pre2 _ (zC hu (ze un (zz hb2 (zd rfl (zC ht (zd rfl (ze c1 (zd c2 zo)))))))), fun h => absurd h (by simp)⟩
            · exact ⟨r, pre _ (zC his (zd rfl (zz hb (zd rfl (zC hh (zd rfl (ze c1 (ze c2 hr)))))))), pre2 _ (zC hu (ze un (zz hb2 (zd rfl (zC ht (zd rfl (ze c1 (ze c2 hr2)))))))), fin⟩
    · rw [decide_eq_false hop] at his
      exact ⟨_, pre _ (zC his (ze (by decide) zo)), pre2 _ (zC (uses_bad _ hop) (zd nil_list zo)), fun h => absurd h (by simp)⟩
theorem check16 (l : List S34) (hs : ∀ x ∈ l, x.f4.size ≤ 140737488351232) : ∃ r : Int × Int, Ev (fun k => zu.f k l) r ∧ Ev (fun k => zw.f k l) r ∧ (r.2 = 0 → r = (0, 0) ∧ xc l ∧ ∀ (j : Nat) (h : j < l.length), Fit l[j]) := by
  obtain ⟨q, hq, hq2⟩ := check_total l hs
  have hq' := hq
  unfold zu.f at hq
  by_cases h1 : (l.length : Int) > 8192
  · have e := ev_same hq (zd h1 zo)
    refine ⟨q, hq', ?_, ?_⟩
    · rw [e]; unfold zw.f; exact zd h1 zo
    · intro h; rw [e] at h; exact absurd h (by simp)
  · by_cases h2 : (l.length : Int) = 0
    · have e := ev_same hq (ze h1 (zd h2 zo))
      refine ⟨q, hq', ?_, ?_⟩
      · rw [e]; unfold zw.f; exact ze h1 (zd h2 zo)
      · intro h; rw [e] at h; exact absurd h (by simp)
    · obtain ⟨r, hr, hr2, hr3⟩ := check16_loop l (by omega) (by omega) hs l.length 0 (by omega) (fun j h hj => absurd hj (by omega))
      have e : q = r := ev_same hq (ze h1 (ze h2 hr))
      subst e
      refine ⟨q, hq', ?_, fun h => ⟨(hq2 h).1, (hq2 h).2, fun j hj => hr3 h j hj (Nat.zero_le _)⟩⟩
      unfold zw.f
      exact ze h1 (ze h2 hr2)
theorem check_ok (l : List S34) (R : xc l) (F : ∀ (j : Nat) (h : j < l.length), Fit l[j]) : Ev (fun k => zu.f k l) (0, 0) := by
  have hl := R.len
  have hp := R.pos
  have key : ∀ d i : Nat, i + d = l.length → Ev (fun k => zu.l0 k l l (l.length : Int) (i : Int)) (0, 0) := by
    intro d
    induction d with
    | zero =>
      intro i hi
      have hw : wrap64 ((l.length : Int) - 1) = ((l.length - 1 : Nat) : Int) := by rw [qR (by omega) (by omega)]; omega
      have hlast := R.op (l.length - 1) (by omega)
      have hh := has_ev (l[l.length - 1].f0) 64 (by omega) (by omega)
      refine zA (fun k => zu.l0.eq_2 _ _ _ _ _) ?_
      refine ze (by omega) ?_
      rw [hw, rd34 l (l.length - 1) (by omega)]
      refine zd (by omega) (zd (by omega) (zC hh ?_))
      exact ze (by rw [R.last (by omega)]; decide) zo
    | succ d ih =>
      intro i hi
      have hil : i < l.length := by omega
      have hop := R.op i hil
      have his := is_val l[i].f0
      rw [decide_eq_true hop] at his
      have hh := has_ev l[i].f0 32 (by omega) (by omega)
      refine check_pre l hl i hil _ (zC his (zd rfl (zz (F i hil) (zd rfl (zC hh ?_)))))
      cases hg : hasB l[i].f0 32 with
      | false => exact ze (by decide) (ih (i + 1) (by omega))
      | true =>
        have := R.goes i hil hg
        exact zd rfl (ze (by omega) (ze (by omega) (ih (i + 1) (by omega))))
  unfold zu.f
  exact ze (by omega) (ze (by omega) (key l.length 0 (by omega)))
structure Good (l : List S34) : Prop where
  right : xc l
  fit : ∀ (j : Nat) (h : j < l.length), Fit l[j]
  size : ∀ (j : Nat) (h : j < l.length), l[j].f4.size ≤ 140737488351232
theorem fit_iff (x y : S34) (h0 : 1 ≤ x.f0) (h1 : x.f0 ≤ 20) (g0 : 1 ≤ y.f0) (g1 : y.f0 ≤ 20) (hs : x.f4.size ≤ 140737488351232) (e4 : y.f4 = x.f4) (hk : keepV y = keepV x) (ht : ∀ nb tb, tailV y nb tb = tailV x nb tb) (F : Fit x) : Fit y := by
  obtain ⟨nb, hn, _⟩ := name16 x.f4 hs
  obtain ⟨tb, htb⟩ := template_total x.f4 hs
  have e := ev_same F (fits_val x h0 h1 nb tb hn htb)
  have := fits_val y g0 g1 nb tb (by rw [e4]; exact hn) (by rw [e4]; exact htb)
  rw [hk, ht, ← e] at this
  exact this
theorem not20 {op : Int} (h : hasB op 32 = true) : ¬ op = 20 := fun e => by
  have h2 : hasB 20 32 = false := by decide +kernel
  rw [e, h2] at h
  cases h
theorem fit_move (x : S34) (a : Int) (h0 : 1 ≤ x.f0) (h1 : x.f0 ≤ 20) (hs : x.f4.size ≤ 140737488351232) (hg : hasB x.f0 32 = true) (F : Fit x) : Fit { x with f1 := a } := by
  refine fit_iff x { x with f1 := a } h0 h1 h0 h1 hs rfl ?_ (fun nb tb => ?_) F
  · have m := (mask_at x.f0 h0 h1).1
    rw [hg, Bool.true_or] at m
    unfold keepV
    simp only [m, Bool.true_or]
  · unfold tailV
    simp only [if_neg (not20 hg)]
theorem fit_tail (x : S34) (h : x.f0 = 15) (hs : x.f4.size ≤ 140737488351232) (F : Fit x) : Fit { x with f0 := 14 } := by
  refine fit_iff x { x with f0 := 14 } (by omega) (by omega) (by simp) (by simp) hs rfl ?_ (fun nb tb => ?_) F
  · unfold keepV
    have e : (hasB 14 1, hasB 14 2, hasB 14 4, hasB 14 8, hasB 14 16) = (hasB 15 1, hasB 15 2, hasB 15 4, hasB 15 8, hasB 15 16) := by decide +kernel
    simp only [Prod.mk.injEq] at e
    obtain ⟨e1, e2, e3, e4, e5⟩ := e
    simp only [h, e1, e2, e3, e4, e5]
  · unfold tailV
    simp only [h]
    rfl
theorem get_of {l : List S34} {i : Nat} {x : S34} (h : l[i]? = some x) (hi : i < l.length) : l[i] = x := by
  rw [List.getElem?_eq_getElem hi] at h
  exact Option.some.inj h
theorem good_of (l t : List S34) (G : Good l) (hl : t.length = l.length)
    (hk : ∀ (i : Nat) (h : i < l.length) (h' : i < t.length), (1 ≤ t[i].f0 ∧ t[i].f0 ≤ 20) ∧ (hasB t[i].f0 32 = true → 0 ≤ (i : Int) + t[i].f1 ∧ (i : Int) + t[i].f1 < l.length) ∧ Fit t[i] ∧ t[i].f4.size ≤ 140737488351232 ∧ (i = l.length - 1 → hasB t[i].f0 64 = false)) : Good t := by
  have R := G.right
  refine ⟨⟨by rw [hl]; exact R.pos, by rw [hl]; exact R.len, fun i h => (hk i (by omega) h).1, fun i h hg => ?_, fun h => ?_⟩, fun i h => (hk i (by omega) h).2.2.1, fun i h => (hk i (by omega) h).2.2.2.1⟩
  · have := (hk i (by omega) h).2.1 hg
    rw [hl]
    exact this
  · exact (hk (t.length - 1) (by omega) h).2.2.2.2 (by omega)
theorem on14 : hasB 14 64 = false := by decide +kernel
theorem good_tail (l : List S34) (G : Good l) : Good (tailF l) := by
  have R := G.right
  refine good_of l _ G (q7 l) (fun i h h' => ?_)
  rw [get_of (tailF_get l i h) h']
  have hop := R.op i h
  unfold tailAt
  by_cases hc : l[i].f0 = 15 ∧ (l.getD (i + 1) z34).f0 = 16
  · rw [if_pos hc]
    refine ⟨by simp, fun _ => ?_, fit_tail _ hc.1 (G.size i h) (G.fit i h), G.size i h, fun _ => on14⟩
    exact R.goes i h (by rw [hc.1]; decide +kernel)
  · rw [if_neg hc]
    refine ⟨hop, R.goes i h, G.fit i h, G.size i h, fun e => ?_⟩
    subst e
    exact R.last h
theorem stops_on (op : Int) (h : stops op = true) : hasB op 64 = false ∧ hasB op 32 = false ∧ 1 ≤ op ∧ op ≤ 20 := by
  have e : op = 16 ∨ op = 17 ∨ op = 13 ∨ op = 12 := by
    unfold stops at h
    simpa using h
  rcases e with e | e | e | e <;> subst e <;> decide +kernel
theorem endOf_lt {l : List S34} (R : xc l) (i t : Nat) (h : i < l.length) (hg : hasB l[i].f0 32 = true) (he : endOf l i = some t) : t < l.length ∧ (l.getD t z34).f0 ≠ 14 := chain_lt R _ _ _ (xJ R i h hg).1 he
theorem good_thread (l : List S34) (G : Good l) : Good (zE l) := by
  have R := G.right
  refine good_of l _ G (qB l) (fun i h h' => ?_)
  rw [get_of (threadF_get l i h) h']
  have hop := R.op i h
  have same : (1 ≤ l[i].f0 ∧ l[i].f0 ≤ 20) ∧ (hasB l[i].f0 32 = true → 0 ≤ (i : Int) + l[i].f1 ∧ (i : Int) + l[i].f1 < l.length) ∧ Fit l[i] ∧ l[i].f4.size ≤ 140737488351232 ∧ (i = l.length - 1 → hasB l[i].f0 64 = false) :=
    ⟨hop, R.goes i h, G.fit i h, G.size i h, fun e => by subst e; exact R.last h⟩
  unfold xy
  by_cases hg : hasB l[i].f0 32 = true
  · rw [if_pos hg]
    cases he : endOf l i with
    | none => exact same
    | some t =>
      obtain ⟨ht, hn⟩ := endOf_lt R i t h hg he
      simp only []
      by_cases hc : stops (l.getD t z34).f0 = true ∧ l[i].f0 = 14
      · rw [if_pos hc]
        rw [qT l t ht] at hc ⊢
        obtain ⟨s1, s2, _, _⟩ := stops_on _ hc.1
        exact ⟨R.op t ht, (fun z => by rw [s2] at z; cases z), G.fit t ht, G.size t ht, fun _ => s1⟩
      · rw [if_neg hc]
        refine ⟨hop, fun _ => ⟨by simp only []; omega, by simp only []; omega⟩, fit_move _ _ hop.1 hop.2 (G.size i h) hg (G.fit i h), G.size i h, fun e => by subst e; exact R.last h⟩
  · rw [if_neg hg]
    exact same
theorem rest_at' (l : List S34) (g : List Bool) (hg : g.length = l.length) (i : Nat) (hi : i < l.length) (h : g.getD i false = false) : (rest l g)[kept g i]? = some (moved l g i l[i]) := by
  have hs : ∀ d : Nat, i + 1 + d ≤ l.length → (restTo l g (i + 1 + d))[kept g i]? = some (moved l g i l[i]) := by
    intro d
    induction d with
    | zero =>
      intro _
      rw [Nat.add_zero, restTo_succ, List.getElem?_append_right (by rw [restTo_length l g i (by omega)]; exact Nat.le_refl _), restTo_length l g i (by omega), Nat.sub_self]
      unfold restAt
      rw [h, qT l i hi]
      rfl
    | succ d ih =>
      intro hd
      have := ih (by omega)
      rw [← Nat.add_assoc, restTo_succ, List.getElem?_append_left (List.getElem?_eq_some_iff.1 this).1]
      exact this
  have := hs (l.length - (i + 1)) (by omega)
  rwa [show i + 1 + (l.length - (i + 1)) = l.length by omega] at this
theorem rest_len (l : List S34) (g : List Bool) (hg : g.length = l.length) : (rest l g).length = kept g l.length := restTo_length l g l.length (by omega)
theorem kept_next (g : List Bool) (i : Nat) (h : i < g.length) (hi : g.getD i false = false) : kept g (i + 1) = kept g i + 1 := by rw [kept_succ g i h, if_neg (by rw [hi]; decide)]
theorem kept_find (g : List Bool) : ∀ n m : Nat, n ≤ g.length → m < kept g n → ∃ i, i < n ∧ g.getD i false = false ∧ kept g i = m := by
  intro n
  induction n with
  | zero => intro m _ h; rw [kept_zero] at h; omega
  | succ n ih =>
    intro m hn h
    rw [kept_succ g n (by omega)] at h
    by_cases hb : g.getD n false = true
    · rw [if_pos hb] at h
      obtain ⟨i, h1, h2, h3⟩ := ih m (by omega) h
      exact ⟨i, by omega, h2, h3⟩
    · rw [if_neg hb] at h
      by_cases hm : m < kept g n
      · obtain ⟨i, h1, h2, h3⟩ := ih m (by omega) hm
        exact ⟨i, by omega, h2, h3⟩
      · exact ⟨n, by omega, by simpa using hb, by omega⟩
theorem good_rest (l : List S34) (G : Good l) (g : List Bool) (hg : g.length = l.length)
    (h1 : ∃ j, j < l.length ∧ g.getD j false = false)
    (h2 : ∀ (i : Nat) (h : i < l.length), g.getD i false = false → hasB l[i].f0 64 = true → ∃ j, i < j ∧ j < l.length ∧ g.getD j false = false)
    (h3 : ∀ (i : Nat) (h : i < l.length), g.getD i false = false → hasB l[i].f0 32 = true → ∃ j, tgt l i ≤ j ∧ j < l.length ∧ g.getD j false = false) : Good (rest l g) := by
  have R := G.right
  have hlen := rest_len l g hg
  have below : ∀ j, j < l.length → g.getD j false = false → kept g j < kept g l.length := fun j hj hj2 => by
    have := kept_next g j (by omega) hj2
    have := kept_mono g (j + 1) l.length (by omega)
    omega
  have elem : ∀ (m : Nat) (h : m < (rest l g).length), ∃ i, ∃ hi : i < l.length, g.getD i false = false ∧ kept g i = m ∧ (rest l g)[m] = moved l g i l[i] := by
    intro m h
    obtain ⟨i, hi, hi2, hi3⟩ := kept_find g l.length m (by omega) (by omega)
    refine ⟨i, hi, hi2, hi3, ?_⟩
    have := rest_at' l g hg i hi hi2
    rw [hi3] at this
    exact get_of this h
  obtain ⟨j0, hj0, hj1⟩ := h1
  refine ⟨⟨?_, ?_, fun m h => ?_, fun m h hgo => ?_, fun h => ?_⟩, fun m h => ?_, fun m h => ?_⟩
  · have := below j0 hj0 hj1; omega
  · have := kept_le g l.length; have := R.len; omega
  · obtain ⟨i, hi, hi2, hi3, e⟩ := elem m h
    rw [e]
    have := R.op i hi
    unfold moved
    split <;> exact this
  · obtain ⟨i, hi, hi2, hi3, e⟩ := elem m h
    rw [e] at hgo ⊢
    unfold moved at hgo ⊢
    by_cases hc : hasB l[i].f0 32 = true
    · rw [if_pos hc]
      obtain ⟨j, hj1, hj2, hj3⟩ := h3 i hi hi2 hc
      have a := below j hj2 hj3
      have b := kept_mono g (tgt l i) j hj1
      simp only []
      omega
    · rw [if_neg hc] at hgo
      exact absurd hgo hc
  · obtain ⟨i, hi, hi2, hi3, e⟩ := elem _ h
    rw [e]
    have e0 : (moved l g i l[i]).f0 = l[i].f0 := by unfold moved; split <;> rfl
    rw [e0]
    cases hon : hasB l[i].f0 64 with
    | false => rfl
    | true =>
      obtain ⟨j, hj1, hj2, hj3⟩ := h2 i hi hi2 hon
      have a := below j hj2 hj3
      have b := kept_next g i (by omega) hi2
      have c := kept_mono g (i + 1) j (by omega)
      omega
  · obtain ⟨i, hi, hi2, hi3, e⟩ := elem m h
    rw [e]
    have hop := R.op i hi
    unfold moved
    by_cases hc : hasB l[i].f0 32 = true
    · rw [if_pos hc]; exact fit_move _ _ hop.1 hop.2 (G.size i hi) hc (G.fit i hi)
    · rw [if_neg hc]; exact G.fit i hi
  · obtain ⟨i, hi, hi2, hi3, e⟩ := elem m h
    rw [e]
    have := G.size i hi
    unfold moved
    split <;> exact this
theorem rest_same (l : List S34) (R : xc l) (g : List Bool) (hg : g.length = l.length) (he : (rest l g).length = l.length) : rest l g = l ∧ ∀ i, i < l.length → g.getD i false = false := by
  have hlen := rest_len l g hg
  have up : ∀ d i : Nat, i + d = l.length → kept g l.length ≤ kept g i + d := by
    intro d
    induction d with
    | zero => intro i hi; have : i = l.length := by omega
              subst this; omega
    | succ d ih =>
      intro i hi
      have := ih (i + 1) (by omega)
      rw [kept_succ g i (by omega)] at this
      split at this <;> omega
  have kk : ∀ i, i ≤ l.length → kept g i = i := fun i hi => by
    have := up (l.length - i) i (by omega)
    have := kept_le g i
    omega
  have hf : ∀ i, i < l.length → g.getD i false = false := fun i hi => by
    have := kept_succ g i (by omega)
    rw [kk i (by omega), kk (i + 1) (by omega)] at this
    cases hb : g.getD i false with
    | false => rfl
    | true => rw [if_pos hb] at this; omega
  refine ⟨?_, hf⟩
  apply List.ext_getElem he
  intro i h1 h2
  have := rest_at' l g hg i h2 (hf i h2)
  rw [kk i (by omega)] at this
  rw [get_of this h1]
  unfold moved
  by_cases hc : hasB l[i].f0 32 = true
  · rw [if_pos hc]
    have ht := xJ R i h2 hc
    rw [kk i (by omega), kk (tgt l i) (by omega), ht.2]
    have : (i : Int) + l[i].f1 - (i : Int) = l[i].f1 := by omega
    rw [this]
  · rw [if_neg hc]
theorem pigeon : ∀ (n : Nat) (f : Nat → Nat), (∀ k, k ≤ n → f k < n) → ∃ a b, a < b ∧ b ≤ n ∧ f a = f b := by
  intro n
  induction n with
  | zero => intro f h; exact absurd (h 0 (Nat.le_refl _)) (by omega)
  | succ n ih =>
    intro f h
    by_cases hx : ∃ k, k ≤ n ∧ f k = f (n + 1)
    · obtain ⟨k, hk, e⟩ := hx
      exact ⟨k, n + 1, by omega, Nat.le_refl _, e⟩
    · have hn : ∀ k, k ≤ n → f k ≠ f (n + 1) := fun k hk e => hx ⟨k, hk, e⟩
      have hv := h (n + 1) (Nat.le_refl _)
      obtain ⟨a, b, hab, hb, e⟩ := ih (fun k => if f k = n then f (n + 1) else f k) (fun k hk => by
        have h1 := h k (by omega)
        have h2 := hn k hk
        show (if f k = n then f (n + 1) else f k) < n
        split <;> omega)
      have na := hn a (by omega)
      have nb := hn b hb
      refine ⟨a, b, hab, by omega, ?_⟩
      have e' : (if f a = n then f (n + 1) else f a) = (if f b = n then f (n + 1) else f b) := e
      split at e' <;> split at e' <;> omega
def posn (l : List S34) (p : Nat) : Nat → Nat
  | 0 => p
  | k + 1 => tgt l (posn l p k)
theorem posn_front (l : List S34) (p : Nat) : ∀ k, posn l (tgt l p) k = posn l p (k + 1) := by
  intro k
  induction k with
  | zero => rfl
  | succ k ih => show tgt l (posn l (tgt l p) k) = tgt l (posn l p (k + 1)); rw [ih]
theorem chain_none (l : List S34) : ∀ (m p : Nat), chain l m p = none ↔ ∀ k, k ≤ m → (l.getD (posn l p k) z34).f0 = 14 := by
  intro m
  induction m with
  | zero =>
    intro p
    unfold chain
    constructor
    · intro h k hk
      obtain rfl : k = 0 := by omega
      by_cases hc : (l.getD p z34).f0 = 14
      · exact hc
      · rw [if_neg hc] at h; cases h
    · intro h
      rw [if_pos (show (l.getD p z34).f0 = 14 from h 0 (Nat.le_refl _))]
  | succ m ih =>
    intro p
    unfold chain
    constructor
    · intro h k hk
      by_cases hc : (l.getD p z34).f0 = 14
      · rw [if_pos hc] at h
        cases k with
        | zero => exact hc
        | succ k => rw [← posn_front]; exact (ih _).1 h k (by omega)
      · rw [if_neg hc] at h; cases h
    · intro h
      rw [if_pos (show (l.getD p z34).f0 = 14 from h 0 (Nat.zero_le _))]
      exact (ih _).2 (fun k hk => by rw [posn_front]; exact h (k + 1) (by omega))
def Round (l : List S34) (p : Nat) : Prop := ∀ k, (l.getD (posn l p k) z34).f0 = 14
theorem posn_lt {l : List S34} (R : xc l) (p : Nat) (hp : p < l.length) (m : Nat) (h : ∀ k, k < m → (l.getD (posn l p k) z34).f0 = 14) : ∀ k, k ≤ m → posn l p k < l.length := by
  intro k
  induction k with
  | zero => intro _; exact hp
  | succ k ih =>
    intro hk
    have a := ih (by omega)
    have b := h k (by omega)
    rw [qT l _ a] at b
    exact (xJ R _ a (by rw [b]; exact jump14)).1
theorem round_of {l : List S34} (R : xc l) (p : Nat) (hp : p < l.length) (h : chain l (l.length + 1) p = none) : Round l p := by
  have hj := (chain_none l _ p).1 h
  obtain ⟨a, b, hab, hb, e⟩ := pigeon l.length (posn l p) (fun k hk => posn_lt R p hp (l.length + 1) (fun k hk => hj k (by omega)) k (by omega))
  have per : ∀ j, posn l p (a + j) = posn l p (b + j) := by
    intro j
    induction j with
    | zero => exact e
    | succ j ih => show tgt l (posn l p (a + j)) = tgt l (posn l p (b + j)); rw [ih]
  intro k
  induction k using Nat.strongRecOn with
  | _ k ih =>
    by_cases hk : k ≤ l.length + 1
    · exact hj k hk
    · have := per (k - b)
      rw [show b + (k - b) = k by omega] at this
      rw [← this]
      exact ih _ (by omega)
theorem round_chain {l : List S34} {p : Nat} (h : Round l p) (m : Nat) : chain l m p = none := (chain_none l m p).2 (fun k _ => h k)
theorem round_next {l : List S34} {p : Nat} (h : Round l p) : Round l (tgt l p) := fun k => by rw [posn_front]; exact h (k + 1)
theorem thread_getD (l : List S34) (i : Nat) (h : i < l.length) : (zE l).getD i z34 = xy l i l[i] := by
  rw [List.getD_eq_getElem?_getD, threadF_get l i h]
  rfl
theorem round_kept {l : List S34} (R : xc l) {p : Nat} (hp : p < l.length) (h : Round l p) : (zE l).getD p z34 = l.getD p z34 := by
  rw [thread_getD l p hp, qT l p hp]
  unfold xy
  have h0 := h 0
  have e : endOf l p = none := round_chain (round_next h) _
  rw [e]
  split <;> rfl
theorem round_thread {l : List S34} (R : xc l) {p : Nat} (hp : p < l.length) (h : Round l p) : Round (zE l) p := by
  have hlt : ∀ k, posn l p k < l.length := fun k => posn_lt R p hp k (fun j _ => h j) k (Nat.le_refl _)
  have hr : ∀ k, Round l (posn l p k) := by
    intro k
    induction k with
    | zero => exact h
    | succ k ih => exact round_next ih
  have e : ∀ k, posn (zE l) p k = posn l p k := by
    intro k
    induction k with
    | zero => rfl
    | succ k ih =>
      show tgt (zE l) (posn (zE l) p k) = tgt l (posn l p k)
      rw [ih]
      unfold tgt
      rw [round_kept R (hlt k) (hr k)]
  intro k
  rw [e k, round_kept R (hlt k) (hr k)]
  exact h k
theorem thread_cases {l : List S34} (R : xc l) (i : Nat) (h : i < l.length) :
    ((zE l).getD i z34 = l[i] ∧ hasB l[i].f0 32 = false) ∨
    (hasB l[i].f0 32 = true ∧ Round l (tgt l i) ∧ (zE l).getD i z34 = l[i]) ∨
    (hasB l[i].f0 32 = true ∧ ∃ t, t < l.length ∧ l[i].f0 = 14 ∧ stops (l.getD t z34).f0 = true ∧ (zE l).getD i z34 = l.getD t z34) ∨
    (hasB l[i].f0 32 = true ∧ ∃ t, t < l.length ∧ (l.getD t z34).f0 ≠ 14 ∧ ¬ (stops (l.getD t z34).f0 = true ∧ l[i].f0 = 14) ∧ (zE l).getD i z34 = { l[i] with f1 := (t : Int) - (i : Int) }) := by
  rw [thread_getD l i h]
  unfold xy
  cases hg : hasB l[i].f0 32 with
  | false => left; exact ⟨by rw [if_neg (by decide)], rfl⟩
  | true =>
    right
    rw [if_pos rfl]
    cases he : endOf l i with
    | none => left; exact ⟨rfl, round_of R _ (xJ R i h hg).1 he, rfl⟩
    | some t =>
      right
      obtain ⟨ht, hn⟩ := endOf_lt R i t h hg he
      simp only []
      by_cases hc : stops (l.getD t z34).f0 = true ∧ l[i].f0 = 14
      · left; rw [if_pos hc]; exact ⟨trivial, t, ht, hc.2, hc.1, rfl⟩
      · right; rw [if_neg hc]; exact ⟨trivial, t, ht, hn, hc, rfl⟩
theorem thread_op {l : List S34} (R : xc l) (t : Nat) (h : t < l.length) (hn : (l.getD t z34).f0 ≠ 14) : ((zE l).getD t z34).f0 = (l.getD t z34).f0 := by
  rw [qT l t h] at hn ⊢
  rcases thread_cases R t h with h1 | h1 | h1 | h1
  · rw [h1.1]
  · rw [h1.2.2]
  · obtain ⟨_, _, _, h2, _⟩ := h1; exact absurd h2 hn
  · obtain ⟨_, _, _, _, _, h2⟩ := h1; rw [h2]
theorem thread_idem {l : List S34} (R : xc l) : zE (zE l) = zE l := by
  apply List.ext_getElem (by rw [qB])
  intro i h1 h2
  have h : i < l.length := by rw [qB] at h2; exact h2
  have e1 : (zE (zE l))[i] = xy (zE l) i (zE l)[i] := get_of (threadF_get (zE l) i h2) h1
  have e2 : (zE l).getD i z34 = (zE l)[i] := qT _ i h2
  rw [e1]
  have et : tgt (zE l) i = ((i : Int) + ((zE l)[i]).f1).toNat := by unfold tgt; rw [e2]
  unfold xy
  rcases thread_cases R i h with h3 | h3 | h3 | h3
  · rw [← e2, h3.1, if_neg (by rw [h3.2]; decide)]
  · rw [← e2, h3.2.2, if_pos h3.1]
    have ht : tgt (zE l) i = tgt l i := by rw [et, ← e2, h3.2.2]; unfold tgt; rw [qT l i h]
    have : endOf (zE l) i = none := by
      unfold endOf
      rw [ht]
      exact round_chain (round_thread R (xJ R i h h3.1).1 h3.2.1) _
    rw [this]
  · obtain ⟨_, t, ht, _, hs, h4⟩ := h3
    have := (stops_on _ hs).2.1
    rw [← e2, h4, if_neg (by rw [this]; decide)]
  · obtain ⟨hg, t, ht, hn, hc, h4⟩ := h3
    rw [← e2, h4, if_pos hg]
    have htt : tgt (zE l) i = t := by
      rw [et, ← e2, h4]
      simp only []
      omega
    have hop := thread_op R t ht hn
    have he : endOf (zE l) i = some t := by
      unfold endOf
      rw [htt]
      unfold chain
      rw [if_neg (by rw [hop]; exact hn)]
    rw [he]
    simp only []
    rw [if_neg (by rw [hop]; exact hc)]
theorem thread_aims {l : List S34} (R : xc l) (i : Nat) (h : i < l.length) (hg : hasB ((zE l).getD i z34).f0 32 = true) (hj : ((zE l).getD (tgt (zE l) i) z34).f0 = 14) : Round (zE l) (tgt (zE l) i) := by
  rcases thread_cases R i h with h3 | h3 | h3 | h3
  · rw [h3.1, h3.2] at hg; cases hg
  · have ht : tgt (zE l) i = tgt l i := by unfold tgt; rw [h3.2.2, qT l i h]
    rw [ht]
    exact round_thread R (xJ R i h h3.1).1 h3.2.1
  · obtain ⟨_, t, ht, _, hs, h4⟩ := h3
    rw [h4, (stops_on _ hs).2.1] at hg
    cases hg
  · obtain ⟨_, t, ht, hn, hc, h4⟩ := h3
    have htt : tgt (zE l) i = t := by
      unfold tgt
      rw [h4]
      simp only []
      omega
    rw [htt, thread_op R t ht hn] at hj
    exact absurd hj hn
def neqV (x y : S34) : Bool := !(x.f0 == y.f0) || (!(x.f1 == y.f1) || (!(x.f2 == y.f2) || (!(x.f3 == y.f3) || (!(x.f4.toList == y.f4.toList) || ((!(x.f5.f0 == y.f5.f0) || (!(x.f5.f1 == y.f5.f1) || (!(x.f5.f2 == y.f5.f2) || (!(x.f5.f3 == y.f5.f3))))))))))
theorem bytes_ext {s t : ByteArray} (h : s.toList = t.toList) : s = t := by
  rw [ByteArray.toList_eq, ByteArray.toList_eq] at h
  cases s; cases t
  congr 1
  exact Array.toList_inj.1 h
theorem neqV_iff (x y : S34) : neqV x y = false ↔ x = y := by
  constructor
  · intro h
    unfold neqV at h
    simp only [Bool.or_eq_false_iff, Bool.not_eq_false', beq_iff_eq] at h
    obtain ⟨h0, h1, h2, h3, h4, h5, h6, h7, h8⟩ := h
    obtain ⟨a0, a1, a2, a3, a4, a5, a6, a7, a8⟩ := x
    obtain ⟨b0, b1, b2, b3, b4, b5, b6, b7, b8⟩ := y
    simp only at h0 h1 h2 h3 h4 h5 h6 h7 h8
    have := bytes_ext h4
    subst h0; subst h1; subst h2; subst h3; subst this; subst h5; subst h6; subst h7; subst h8
    rfl
  · intro h
    subst h
    simp [neqV]
theorem neqV_true (x y : S34) : neqV x y = true ↔ x ≠ y := by
  have := neqV_iff x y
  cases h : neqV x y <;> simp_all
theorem same_loop (a b : List S34) (hab : a.length = b.length) (hl : a.length ≤ 8192) (d : Nat) : ∀ i : Nat, i + d = a.length → ∃ s : Bool, Ev (fun k => qx.l0 k a b (a.length : Int) (i : Int)) s ∧ Ev (fun k => zM.l0 k a b (i : Int)) s ∧ (s = true ↔ ∀ j, i ≤ j → j < a.length → a.getD j z34 = b.getD j z34) := by
  induction d with
  | zero =>
    intro i hi
    exact ⟨true, zA (fun k => qx.l0.eq_2 _ _ _ _ _) (ze (by omega) zo), zA (fun k => zM.l0.eq_2 _ _ _ _) (ze (by omega) zo), ⟨fun _ j h1 h2 => absurd h2 (by omega), fun _ => rfl⟩⟩
  | succ d ih =>
    intro i hi
    have hil : i < a.length := by omega
    have hw := qS (i := i) (by omega)
    have ra : za a (i : Int) = a.getD i z34 := by rw [rd34 a i hil, qT a i hil]
    have rb : za b (i : Int) = b.getD i z34 := by rw [rd34 b i (by omega), qT b i (by omega)]
    have pre : ∀ r, Ev (fun k => if neqV (a.getD i z34) (b.getD i z34) = true then some false else qx.l0 k a b (a.length : Int) ((i + 1 : Nat) : Int)) r → Ev (fun k => qx.l0 k a b (a.length : Int) (i : Int)) r := by
      intro r h
      refine zA (fun k => qx.l0.eq_2 _ _ _ _ _) (zd (by omega) (zd (by omega) (zd (by omega) (zd (by omega) ?_))))
      rw [ra, rb, hw]
      exact h
    have pre2 : ∀ r, Ev (fun k => if neqV (a.getD i z34) (b.getD i z34) = true then some false else zM.l0 k a b ((i + 1 : Nat) : Int)) r → Ev (fun k => zM.l0 k a b (i : Int)) r := by
      intro r h
      refine zA (fun k => zM.l0.eq_2 _ _ _ _) (zd (by omega) (zd (by omega) (zd (by omega) ?_)))
      rw [ra, rb, hw]
      exact h
    by_cases hn : neqV (a.getD i z34) (b.getD i z34) = true
    · exact ⟨false, pre _ (zd hn zo), pre2 _ (zd hn zo), ⟨(fun h => by cases h), fun h => absurd (h i (Nat.le_refl _) hil) ((neqV_true _ _).1 hn)⟩⟩
    · obtain ⟨s, h1, h2, h3⟩ := ih (i + 1) (by omega)
      have he : a.getD i z34 = b.getD i z34 := (neqV_iff _ _).1 (by simpa using hn)
      refine ⟨s, pre _ (ze hn h1), pre2 _ (ze hn h2), h3.trans ⟨fun h j hj hj2 => ?_, fun h j hj hj2 => h j (by omega) hj2⟩⟩
      by_cases e : j = i
      · subst e; exact he
      · exact h j (by omega) hj2
theorem same_ev (a b : List S34) (hl : a.length ≤ 8192) : ∃ s : Bool, Ev (fun k => xu.f k a b) s ∧ Ev (fun k => zM.f k a b) s ∧ (s = true ↔ a = b) := by
  by_cases hab : a.length = b.length
  · obtain ⟨s, h1, h2, h3⟩ := same_loop a b hab hl a.length 0 (by omega)
    refine ⟨s, ?_, ?_, h3.trans ⟨fun h => ?_, fun h j _ _ => by rw [h]⟩⟩
    · unfold xu.f qx.f
      exact zz (zd (by omega) h1) zo
    · unfold zM.f
      exact zd (by omega) h2
    · apply List.ext_getElem hab
      intro i i1 i2
      have := h i (Nat.zero_le _) i1
      rwa [qT a i i1, qT b i i2] at this
  · refine ⟨false, ?_, ?_, ⟨(fun h => by cases h), fun h => absurd (by rw [h]) hab⟩⟩
    · unfold xu.f qx.f
      exact zz (ze (by omega) zo) zo
    · unfold zM.f
      exact ze (by omega) zo
def nC : List S34 → Nat
  | [] => 0
  | x :: r => (if x.f0 = 15 then 1 else 0) + nC r
theorem nC_le : ∀ l : List S34, nC l ≤ l.length
  | [] => Nat.le_refl _
  | x :: r => by
    have := nC_le r
    simp only [nC, List.length_cons]
    split <;> omega
theorem cnt_le : ∀ (a b : List S34), a.length = b.length → (∀ i, (b.getD i z34).f0 = 15 → (a.getD i z34).f0 = 15) → nC b ≤ nC a ∧ ((∃ i, (a.getD i z34).f0 = 15 ∧ (b.getD i z34).f0 ≠ 15) → nC b < nC a)
  | [], [], _, _ => ⟨Nat.le_refl _, fun ⟨i, h, _⟩ => by simp at h; cases h⟩
  | [], _ :: _, h, _ => by simp at h
  | _ :: _, [], h, _ => by simp at h
  | x :: a, y :: b, h, hi => by
    obtain ⟨h1, h2⟩ := cnt_le a b (by simpa using h) (fun i hh => by have := hi (i + 1); simpa using this (by simpa using hh))
    have h0 : y.f0 = 15 → x.f0 = 15 := fun hh => by have := hi 0; simpa using this (by simpa using hh)
    simp only [nC]
    constructor
    · split <;> split <;> first | omega | (rename_i p q; exact absurd (h0 p) q)
    · rintro ⟨i, e1, e2⟩
      cases i with
      | zero =>
        have e1' : x.f0 = 15 := by simpa using e1
        have e2' : y.f0 ≠ 15 := by simpa using e2
        rw [if_pos e1', if_neg e2']
        omega
      | succ i =>
        have := h2 ⟨i, by simpa using e1, by simpa using e2⟩
        split <;> split <;> first | omega | (rename_i p q; exact absurd (h0 p) q)
theorem out_get (l : List S34) (i : Nat) (h : ¬ i < l.length) : l.getD i z34 = z34 := by rw [List.getD_eq_getElem?_getD, List.getElem?_eq_none (by omega)]; rfl
theorem tail_getD (l : List S34) (i : Nat) (h : i < l.length) : (tailF l).getD i z34 = tailAt l i l[i] := by
  rw [List.getD_eq_getElem?_getD, tailF_get l i h]
  rfl
theorem tail_calls (l : List S34) : nC (tailF l) ≤ nC l ∧ (tailF l ≠ l → nC (tailF l) < nC l) := by
  have hp : ∀ i, ((tailF l).getD i z34).f0 = 15 → (l.getD i z34).f0 = 15 := by
    intro i h
    by_cases hi : i < l.length
    · rw [tail_getD l i hi] at h
      rw [qT l i hi]
      unfold tailAt at h
      split at h
      · simp at h
      · exact h
    · rw [out_get _ i (by rw [q7]; exact hi)] at h; exact absurd h (by decide)
  obtain ⟨h1, h2⟩ := cnt_le l (tailF l) (q7 l).symm hp
  refine ⟨h1, fun hne => h2 ?_⟩
  apply Classical.byContradiction
  intro hno
  apply hne
  apply List.ext_getElem (q7 l)
  intro i i1 i2
  rw [get_of (tailF_get l i i2) i1]
  unfold tailAt
  by_cases hc : l[i].f0 = 15 ∧ (l.getD (i + 1) z34).f0 = 16
  · exfalso
    apply hno
    refine ⟨i, by rw [qT l i i2]; exact hc.1, ?_⟩
    rw [tail_getD l i i2]
    unfold tailAt
    rw [if_pos hc]
    simp
  · rw [if_neg hc]
theorem thread_calls {l : List S34} (R : xc l) : nC (zE l) ≤ nC l := by
  refine (cnt_le l (zE l) (qB l).symm (fun i h => ?_)).1
  by_cases hi : i < l.length
  · rw [qT l i hi]
    rcases thread_cases R i hi with h3 | h3 | h3 | h3
    · rw [h3.1] at h; exact h
    · rw [h3.2.2] at h; exact h
    · obtain ⟨_, t, ht, _, hs, h4⟩ := h3
      rw [h4] at h
      rw [h] at hs
      exact absurd hs (by decide)
    · obtain ⟨_, t, ht, _, _, h4⟩ := h3
      rw [h4] at h; exact h
  · rw [out_get _ i (by rw [qB]; exact hi)] at h; exact absurd h (by decide)
theorem live_closed (l : List S34) (G : Good l) : ∃ v : List Bool, Ev (fun k => zL.f k l) (v, 0) ∧ v.length = l.length ∧ v.getD 0 false = true ∧ ∀ i, i < l.length → v.getD i false = true → ∀ j : Nat, (j : Int) ∈ xE l i → v.getD j false = true := by
  have R := G.right
  obtain ⟨v, h1, h2, h3⟩ := live_ev l R (check_ok l R G.fit) (fun out w => (out.getD 0 false = true ∨ (0 : Int) ∈ w) ∧ ∀ i, i < l.length → out.getD i false = true → ∀ j : Nat, (j : Int) ∈ xE l i → out.getD j false = true ∨ (j : Int) ∈ w)
    (fun out w i hI hi hm => ⟨by
      rcases hI.1 with h | h
      · exact Or.inl h
      · rcases List.mem_append.1 h with h | h
        · exact Or.inr h
        · have : (0 : Int) = (i : Int) := by simpa using h
          have : i = 0 := by omega
          subst this; exact Or.inl hm, fun a ha ha2 j hj => by
      rcases hI.2 a ha ha2 j hj with h | h
      · exact Or.inl h
      · rcases List.mem_append.1 h with h | h
        · exact Or.inr h
        · have : (j : Int) = (i : Int) := by simpa using h
          have : j = i := by omega
          subst this; exact Or.inl hm⟩)
    (fun out w i hI hi hlen hm => by
      have same : (out.set i true).getD i false = true := by simp [List.getD_eq_getElem?_getD, hlen, hi]
      have other : ∀ j, out.getD j false = true → (out.set i true).getD j false = true := by
        intro j hj
        by_cases e : j = i
        · subst e; exact same
        · rw [List.getD_eq_getElem?_getD] at hj ⊢
          rw [List.getElem?_set_ne (fun z => e z.symm)]
          exact hj
      have back : ∀ j, j ≠ i → (out.set i true).getD j false = true → out.getD j false = true := by
        intro j e hj
        rw [List.getD_eq_getElem?_getD] at hj ⊢
        rwa [List.getElem?_set_ne (fun z => e z.symm)] at hj
      refine ⟨?_, fun a ha ha2 j hj => ?_⟩
      · rcases hI.1 with h | h
        · exact Or.inl (other 0 h)
        · rcases List.mem_append.1 h with h | h
          · exact Or.inr (List.mem_append.2 (Or.inl h))
          · have : (0 : Int) = (i : Int) := by simpa using h
            have : i = 0 := by omega
            subst this; exact Or.inl same
      · by_cases e : a = i
        · subst e
          exact Or.inr (List.mem_append.2 (Or.inr ((sort2_mem _ _).2 hj)))
        · rcases hI.2 a ha (back a e ha2) j hj with h | h
          · exact Or.inl (other j h)
          · rcases List.mem_append.1 h with h | h
            · exact Or.inr (List.mem_append.2 (Or.inl h))
            · have : (j : Int) = (i : Int) := by simpa using h
              have : j = i := by omega
              subst this; exact Or.inl same)
    ⟨Or.inr (by simp), fun i hi hm => by rw [List.getD_eq_getElem?_getD, List.getElem?_replicate, if_pos hi] at hm; cases hm⟩
  refine ⟨v, h1, h2, ?_, fun i hi hm j hj => ?_⟩
  · rcases h3.1 with h | h
    · exact h
    · cases h
  · rcases h3.2 i hi hm j hj with h | h
    · exact h
    · cases h
theorem notv (v : List Bool) (i : Nat) (h : i < v.length) : (v.map fun b => !b).getD i false = !(v.getD i false) := by
  simp [List.getD_eq_getElem?_getD, h]
theorem jumps_ev (l : List S34) (G : Good l) : ∃ h : List S34, Ev (fun k => (zU.f k l).bind fun y1 => (qf.f k y1).bind fun y2 => qI.f k y2) h ∧ Good h ∧ h.length ≤ l.length ∧
    (h.length = l.length → h = zE l ∧ (∃ v : List Bool, Ev (fun k => zL.f k h) (v, 0) ∧ v.length = h.length ∧ ∀ i, i < h.length → v.getD i false = true) ∧ ∀ (i : Nat), i < h.length → ¬ ((h.getD i z34).f0 = 14 ∧ (h.getD i z34).f1 = 1)) := by
  have R := G.right
  have T := good_thread l G
  obtain ⟨v, v1, v2, v3, v4⟩ := live_closed (zE l) T
  have gl : (v.map fun b => !b).length = (zE l).length := by simp [v2]
  have nf : ∀ i, i < (zE l).length → ((v.map fun b => !b).getD i false = false ↔ v.getD i false = true) := fun i hi => by
    rw [notv v i (by omega)]
    cases v.getD i false <;> simp
  have D : Good (rest (zE l) (v.map fun b => !b)) := by
    refine good_rest _ T _ gl ⟨0, T.right.pos, (nf 0 T.right.pos).2 v3⟩ (fun i hi hk hon => ?_) (fun i hi hk hg => ?_)
    · have hn := next_on T.right i hi hon
      refine ⟨i + 1, by omega, hn, (nf _ hn).2 (v4 i hi ((nf i hi).1 hk) (i + 1) ?_)⟩
      unfold xE
      rw [qT _ i hi, if_pos hon]
      simp
    · have ht := xJ T.right i hi hg
      refine ⟨tgt (zE l) i, Nat.le_refl _, ht.1, (nf _ ht.1).2 (v4 i hi ((nf i hi).1 hk) _ ?_)⟩
      unfold xE
      rw [qT _ i hi]
      by_cases hc : hasB (zE l)[i].f0 64 = true ∧ (zE l)[i].f1 = 1
      · rw [if_pos hc.1]
        refine List.mem_append.2 (Or.inl ?_)
        have e := ht.2
        rw [hc.2] at e
        simp
        omega
      · rw [if_pos (c := hasB (zE l)[i].f0 32 = true ∧ ¬ (hasB (zE l)[i].f0 64 = true ∧ (zE l)[i].f1 = 1)) ⟨hg, hc⟩]
        exact List.mem_append.2 (Or.inr (by simp))
  have DR := D.right
  have hlast : (hopG (rest (zE l) (v.map fun b => !b))).getD ((rest (zE l) (v.map fun b => !b)).length - 1) false = false := by
    have hlt : (rest (zE l) (v.map fun b => !b)).length - 1 < (rest (zE l) (v.map fun b => !b)).length := by have := DR.pos; omega
    rw [List.getD_eq_getElem?_getD, hopG_get _ _ hlt]
    simp only [Option.getD_some, Bool.and_eq_false_iff, decide_eq_false_iff_not, beq_eq_false_iff_ne]
    by_cases h14 : (rest (zE l) (v.map fun b => !b))[(rest (zE l) (v.map fun b => !b)).length - 1].f0 = 14
    · right
      have := DR.goes _ hlt (by rw [h14]; exact jump14)
      omega
    · exact Or.inl h14
  have hlt : (rest (zE l) (v.map fun b => !b)).length - 1 < (rest (zE l) (v.map fun b => !b)).length := by have := DR.pos; omega
  have H : Good (rest (rest (zE l) (v.map fun b => !b)) (hopG (rest (zE l) (v.map fun b => !b)))) := by
    refine good_rest _ D _ (hopG_length _) ⟨_, hlt, hlast⟩ (fun i hi hk hon => ⟨_, ?_, hlt, hlast⟩) (fun i hi hk hg => ⟨_, ?_, hlt, hlast⟩)
    · have := next_on DR i hi hon; omega
    · have := (xJ DR i hi hg).1; omega
  have l1 := rest_len (zE l) _ gl
  have l2 := rest_len (rest (zE l) (v.map fun b => !b)) _ (hopG_length _)
  have k1 := kept_le (v.map fun b => !b) (zE l).length
  have k2 := kept_le (hopG (rest (zE l) (v.map fun b => !b))) (rest (zE l) (v.map fun b => !b)).length
  have tl := qB l
  refine ⟨_, zz (threads_ev l R) (zz (dead_ev _ T.right v v2 v1) (hops_ev _ DR)), H, by omega, fun he => ?_⟩
  obtain ⟨e1, e2⟩ := rest_same (zE l) T.right _ gl (by omega)
  obtain ⟨e3, e4⟩ := rest_same _ DR _ (hopG_length _) (by omega)
  have e5 : rest (rest (zE l) (v.map fun b => !b)) (hopG (rest (zE l) (v.map fun b => !b))) = zE l := e3.trans e1
  rw [e5]
  refine ⟨rfl, ⟨v, v1, v2, fun i hi => (nf i hi).1 (e2 i hi)⟩, fun i hi hc => ?_⟩
  have := e4 i (by rw [e1]; exact hi)
  rw [e1, List.getD_eq_getElem?_getD, hopG_get _ _ hi] at this
  rw [qT _ i hi] at hc
  simp [hc.1, hc.2] at this
def tailB (a1 : Int) (l : List S34) : List S34 := if (Go.bits .and .i64 a1 32 != 0) = true then tailF l else l
def simB (a1 : Int) (l : List S34) : List S34 := if (Go.bits .and .i64 a1 64 != 0) = true then zE (tailB a1 l) else tailB a1 l
def Facts (h : List S34) : Prop := (∃ v : List Bool, Ev (fun k => zL.f k h) (v, 0) ∧ v.length = h.length ∧ ∀ i, i < h.length → v.getD i false = true) ∧ ∀ (i : Nat), i < h.length → ¬ ((h.getD i z34).f0 = 14 ∧ (h.getD i z34).f1 = 1)
theorem good_tailB (a1 : Int) (l : List S34) (G : Good l) : Good (tailB a1 l) := by
  unfold tailB
  split
  · exact good_tail l G
  · exact G
theorem tailB_length (a1 : Int) (l : List S34) : (tailB a1 l).length = l.length := by
  unfold tailB
  split
  · exact q7 l
  · rfl
theorem tailB_calls (a1 : Int) (l : List S34) : nC (tailB a1 l) ≤ nC l ∧ (tailB a1 l ≠ l → nC (tailB a1 l) < nC l) := by
  unfold tailB
  split
  · exact tail_calls l
  · exact ⟨Nat.le_refl _, fun h => absurd rfl h⟩
theorem round_ev (a1 : Int) (l : List S34) (G : Good l) : ∃ o : List S34, Ev (fun k => zI.round k l a1) o ∧ Good o ∧ o.length ≤ l.length ∧ (o.length = l.length → o = simB a1 l ∧ ((Go.bits .and .i64 a1 64 != 0) = true → Facts o)) := by
  have ht : Ev (fun k => if (Go.bits .and .i64 a1 32 != 0) = true then qD.f k l else some l) (tailB a1 l) := by
    unfold tailB
    by_cases h : (Go.bits .and .i64 a1 32 != 0) = true
    · rw [if_pos h]; exact zd h (tails_ev l G.right)
    · rw [if_neg h]; exact ze h zo
  have GT := good_tailB a1 l G
  have lt := tailB_length a1 l
  unfold zI.round simB
  by_cases h : (Go.bits .and .i64 a1 64 != 0) = true
  · obtain ⟨o, h1, h2, h3, h4⟩ := jumps_ev (tailB a1 l) GT
    refine ⟨o, zz ht (zd h h1), h2, by omega, fun he => ?_⟩
    obtain ⟨e1, e2⟩ := h4 (by omega)
    rw [if_pos h]
    exact ⟨e1, fun _ => e2⟩
  · refine ⟨tailB a1 l, zz ht (ze h zo), GT, by omega, fun he => ?_⟩
    rw [if_neg h]
    exact ⟨rfl, fun h' => absurd h' h⟩
theorem loop_ev (a1 : Int) : ∀ (n : Nat) (l : List S34) (fl : Nat), Good l → (fl = 0 → zE l = l) → l.length * 20000 + 2 * nC l + fl ≤ n →
    ∃ o : List S34, Ev (fun k => zI.l0 k l a1) o ∧ Good o ∧ o.length ≤ l.length ∧ Ev (fun k => zI.round k o a1) o ∧ o = simB a1 o ∧ ((Go.bits .and .i64 a1 64 != 0) = true → Facts o) := by
  intro n
  induction n using Nat.strongRecOn with
  | _ n ih =>
    intro l fl G hfl hn
    have hlen := G.right.len
    obtain ⟨o, h1, h2, h3, h4⟩ := round_ev a1 l G
    obtain ⟨s, s1, _, s3⟩ := same_ev l o hlen
    by_cases he : l = o
    · subst he
      have hs := s3.2 rfl
      subst hs
      have := h4 rfl
      refine ⟨l, ?_, G, Nat.le_refl _, h1, this.1, this.2⟩
      refine zA (fun k => zI.l0.eq_2 _ _ _) (zz h1 (zz s1 (zd rfl ?_)))
      rw [clone_ev l hlen]
      exact zo
    · have hs : s = false := by
        cases s with
        | false => rfl
        | true => exact absurd (s3.1 rfl) he
      subst hs
      have nc := nC_le o
      have key : ∃ fl', (fl' = 0 → zE o = o) ∧ o.length * 20000 + 2 * nC o + fl' < n := by
        by_cases hl : o.length < l.length
        · exact ⟨1, (fun h => by cases h), by omega⟩
        · have e := (h4 (by omega)).1
          have c1 := tailB_calls a1 l
          have RT := (good_tailB a1 l G).right
          have c2 := thread_calls RT
          by_cases hb : (Go.bits .and .i64 a1 64 != 0) = true
          · unfold simB at e
            rw [if_pos hb] at e
            refine ⟨0, fun _ => by rw [e]; exact thread_idem RT, ?_⟩
            by_cases hy : tailB a1 l = l
            · have hf : fl ≠ 0 := fun h => he (by rw [e, hy]; exact (hfl h).symm)
              rw [← e] at c2
              rw [hy] at c2
              omega
            · have := c1.2 hy
              rw [← e] at c2
              omega
          · unfold simB at e
            rw [if_neg hb] at e
            have := c1.2 (fun h => he (by rw [e, h]))
            rw [← e] at this
            exact ⟨1, (fun h => by cases h), by omega⟩
      obtain ⟨fl', k1, k2⟩ := key
      obtain ⟨q, q1, q2, q3, q4, q5, q6⟩ := ih _ k2 o fl' h2 k1 (Nat.le_refl _)
      refine ⟨q, ?_, q2, by omega, q4, q5, q6⟩
      exact zA (fun k => zI.l0.eq_2 _ _ _) (zz h1 (zz s1 (ze (by decide) q1)))
theorem better_good (a1 : Int) (l : List S34) (G : Good l) (h0 : 0 ≤ a1) (h1 : a1 ≤ 127) : ∃ o : List S34, Ev (fun k => zI.f k l a1) (o, 0) ∧ Good o ∧ o.length ≤ l.length ∧ Ev (fun k => zI.f k o a1) (o, 0) ∧ o = simB a1 o ∧ ((Go.bits .and .i64 a1 64 != 0) = true → Facts o) := by
  have hlen := G.right.len
  obtain ⟨o, q1, q2, q3, q4, q5, q6⟩ := loop_ev a1 _ l 1 G (fun h => by cases h) (Nat.le_refl _)
  have ho := q2.right.len
  refine ⟨o, ?_, q2, q3, ?_, q5, q6⟩
  · unfold zI.f
    refine zz (check_ok l G.right G.fit) (zd rfl (zd h0 (zd h1 ?_)))
    rw [clone_ev l hlen]
    exact zC rfl (zz q1 zo)
  · obtain ⟨s, s1, _, s3⟩ := same_ev o o ho
    have hs := s3.2 rfl
    subst hs
    unfold zI.f
    refine zz (check_ok o q2.right q2.fit) (zd rfl (zd h0 (zd h1 ?_)))
    rw [clone_ev o ho]
    refine zC rfl (zz (y := o) ?_ zo)
    refine zA (fun k => zI.l0.eq_2 _ _ _) (zz q4 (zz s1 (zd rfl ?_)))
    rw [clone_ev o ho]
    exact zo
theorem better_bad (a1 : Int) (l : List S34) (r : Int × Int) (hc : Ev (fun k => zu.f k l) r) (h : ¬ r.2 = 0) : Ev (fun k => zI.f k l a1) ([], r.2) := by
  unfold zI.f
  exact zz hc (ze h zo)
theorem better_range (a1 : Int) (l : List S34) (hl : l.length ≤ 8192) (hc : Ev (fun k => zu.f k l) (0, 0)) (h : ¬ (0 ≤ a1 ∧ a1 ≤ 127)) : Ev (fun k => zI.f k l a1) ([], 1) := by
  unfold zI.f
  refine zz hc (zd rfl ?_)
  by_cases h0 : 0 ≤ a1
  · exact zd h0 (ze (by omega) zo)
  · exact ze h0 zo
theorem clone_good (l : List S34) (r : Int × Int) (hs : ∀ x ∈ l, x.f4.size ≤ 140737488351232) (h : r = (0, 0) ∧ xc l ∧ ∀ (j : Nat) (h : j < l.length), Fit l[j]) : Good l := ⟨h.2.1, h.2.2, fun j hj => hs _ (List.getElem_mem hj)⟩
theorem lives_ev : Ev (fun k => zV.f k) true := Ev.of zV.mono (k := 60) (by decide +kernel)
theorem flag_tab : ∀ i : Fin 128, decide (Int.tmod (wrap64 (Int.tdiv (i.val : Int) 64)) 2 = 0) = !(Go.bits .and .i64 (i.val : Int) 64 != 0) := by decide +kernel
theorem flag_at (a1 : Int) (h0 : 0 ≤ a1) (h1 : a1 ≤ 127) : Int.tmod (wrap64 (Int.tdiv a1 64)) 2 = 0 ↔ ¬ (Go.bits .and .i64 a1 64 != 0) = true := by
  have h := flag_tab ⟨a1.toNat, by omega⟩
  simp only [Int.toNat_of_nonneg h0] at h
  constructor
  · intro z hb
    rw [decide_eq_true z, hb] at h
    cases h
  · intro hb
    have e : (Go.bits .and .i64 a1 64 != 0) = false := by simpa using hb
    rw [e] at h
    exact of_decide_eq_true h
theorem roundj_ev (x : List S34) (R : xc x) (p : Nat) (hp : p < x.length) (h : Round x p) (d : Nat) : ∀ s : Nat, s + d = x.length + 1 → Ev (fun k => qa.l0 k x (posn x p s : Int) (s : Int)) true := by
  have hl := R.len
  induction d with
  | zero =>
    intro s hs
    exact zA (fun k => qa.l0.eq_2 _ _ _ _) (ze (by omega) zo)
  | succ d ih =>
    intro s hs
    have hlt := posn_lt R p hp s (fun k _ => h k) s (Nat.le_refl _)
    have h14 := h s
    have h14' := h14
    rw [qT x _ hlt] at h14
    have ht := xJ R _ hlt (by rw [h14]; exact jump14)
    refine zA (fun k => qa.l0.eq_2 _ _ _ _) (zd (by omega) (zd (by omega) (zd (by omega) ?_)))
    rw [rd34 x _ hlt, qS (i := s) (by omega), qR (x := (posn x p s : Int) + x[posn x p s].f1) (by omega) (by omega), ← ht.2]
    exact zd h14 (ih (s + 1) (by omega))
theorem settle_loop (a1 : Int) (o : List S34) (G : Good o) (e : o = zE (tailB a1 o)) (v : List Bool) (hv : v.length = o.length) (hall : ∀ i, i < o.length → v.getD i false = true) (hno : ∀ (i : Nat), i < o.length → ¬ ((o.getD i z34).f0 = 14 ∧ (o.getD i z34).f1 = 1)) (d : Nat) :
    ∀ i : Nat, i + d = o.length → Ev (fun k => zh.l0 k o v (i : Int)) true := by
  have R := G.right
  have hl := R.len
  have RT := (good_tailB a1 o G).right
  have lt := tailB_length a1 o
  induction d with
  | zero =>
    intro i hi
    exact zA (fun k => zh.l0.eq_2 _ _ _ _) (ze (by omega) (zz lives_ev zo))
  | succ d ih =>
    intro i hi
    have hil : i < o.length := by omega
    have next := ih (i + 1) (by omega)
    have hw := qS (i := i) (by omega)
    have hop := R.op i hil
    have j3 : Ev (fun k => zh.j3 k o v (i : Int) false) true := by
      refine zA (fun k => zh.j3.eq_2 _ _ _ _ _) (ze (by decide) (zd (by omega) (zd (by omega) ?_)))
      rw [rd34 o i hil, hw]
      refine zC (targets_val _ hop.1 hop.2) ?_
      by_cases hg : hasB o[i].f0 32 = true
      · refine zd hg ?_
        have ht := xJ R i hil hg
        rw [qR (x := (i : Int) + o[i].f1) (by omega) (by omega), ← ht.2, rd34 o _ ht.1]
        refine zd (by omega) (zd (by omega) ?_)
        by_cases h14 : o[tgt o i].f0 = 14
        · refine zd h14 (zz (y := true) ?_ (zd rfl next))
          have aim : Round o (tgt o i) := by
            have := thread_aims RT i (by omega)
            rw [← e] at this
            exact this (by rw [qT o i hil]; exact hg) (by rw [qT o _ ht.1]; exact h14)
          have := roundj_ev o R _ ht.1 aim (o.length + 1) 0 (by omega)
          unfold qa.f
          exact this
        · exact ze h14 next
      · exact ze hg next
    refine zA (fun k => zh.l0.eq_2 _ _ _ _) (zd (by omega) (zd (by omega) (zd (by omega) ?_)))
    rw [rdBool, rd34 o i hil]
    refine zd (hall i hil) ?_
    by_cases h14 : o[i].f0 = 14
    · refine zd h14 ?_
      have hn := hno i hil
      rw [qT o i hil] at hn
      rw [show (o[i].f1 == 1) = false from beq_eq_false_iff_ne.2 (fun z => hn ⟨h14, z⟩)]
      exact j3
    · exact ze h14 j3
theorem settles_ev (l : List S34) (a1 : Int) (hs : ∀ x ∈ l, x.f4.size ≤ 140737488351232) : Ev (fun k => zh.f k l a1) true := by
  obtain ⟨r, c1, c2, c3⟩ := check16 l hs
  unfold zh.f
  by_cases hr : r.2 = 0
  · have G := clone_good l r hs (c3 hr)
    have er := (c3 hr).1
    subst er
    by_cases hf : 0 ≤ a1 ∧ a1 ≤ 127
    · obtain ⟨o, b1, GO, b2, b3, b4, b5⟩ := better_good a1 l G hf.1 hf.2
      obtain ⟨q, d1, d2, _⟩ := check16 o (fun x hx => by
        obtain ⟨i, hi, rfl⟩ := List.getElem_of_mem hx
        exact GO.size i hi)
      have eq : q = (0, 0) := ev_same d1 (check_ok o GO.right GO.fit)
      subst eq
      obtain ⟨s, _, s2, s3⟩ := same_ev o o GO.right.len
      have hs := s3.2 rfl
      subst hs
      refine zz b1 (zd rfl (zz d2 (zz b3 (zd rfl (zd rfl (ze (show ¬ ((o.length : Int) > (l.length : Int)) by omega) (zz s2 ?_)))))))
      refine zA (fun k => zh.j0.eq_2 _ _ _ _) (ze (by decide) ?_)
      by_cases hb : (Go.bits .and .i64 a1 64 != 0) = true
      · refine ze (fun z => (flag_at a1 hf.1 hf.2).1 z hb) ?_
        obtain ⟨⟨v, v1, v2, v3⟩, hno⟩ := b5 hb
        refine zz v1 (zd rfl ?_)
        rw [show ((v.length : Int) != (o.length : Int)) = false by rw [v2]; simp]
        refine zA (fun k => zh.j1.eq_2 _ _ _ _) (ze (by decide) ?_)
        have e : o = zE (tailB a1 o) := by
          have := b4
          unfold simB at this
          rwa [if_pos hb] at this
        exact settle_loop a1 o GO e v v2 v3 hno o.length 0 (by omega)
      · exact zd ((flag_at a1 hf.1 hf.2).2 hb) (zz lives_ev zo)
    · refine zz (better_range a1 l G.right.len c1 hf) (ze (by decide) (zz c2 (zz lives_ev (zd rfl (zd rfl (ze (by decide) (zd rfl (zd rfl ?_))))))))
      by_cases h0 : a1 < 0
      · exact zd h0 zo
      · refine ze h0 ?_
        rw [decide_eq_true (show a1 > 127 by omega)]
        exact zo
  · exact zz (better_bad a1 l r c1 hr) (ze hr (zz c2 (zz lives_ev (zd rfl (zd rfl (zd rfl zo))))))
end Go.Proofs.YtnpeabmlcakegaaDoor.PAll
namespace Go.Proofs.YtnpeabmlcakegaaDoor.Pure
set_option linter.unusedVariables false
open Go.RowKit Go.Proofs.YtnpeabmlcakegaaDoorW.PrintWords Go.Proofs.YtnpeabmlcakegaaDoor.PAll
theorem PeepSettles (l : List S34) (a1 : Int) {P : Prop} (h : l.length ≤ 9223372036854775807 ∧ l.length * Tryd.prog.bytesOf 34 ≤ 140737488351232 ∧ ∀ y ∈ l, ok34 y) (hw : P) : ∃ k, zh.f k l a1 = some true :=
  (settles_ev l a1 (fun x hx => (h.2.2 x hx).2.2.2.2.1)).rounds
end Go.Proofs.YtnpeabmlcakegaaDoor.Pure
namespace Go.Proofs.YtnpeabmlcakegaaDoor.peepSettles
open Go.ChangeShapes Go.WideShapes Go.ChangeAt Go.RowKit Go.Proofs.YtnpeabmlcakegaaDoor.PAll
open Go.Proofs.YtnpeabmlcakegaaDoorW.PrintWords
open Go.ChangeMaps (open_string shut_string)
set_option linter.unusedVariables false
theorem own : ownKnob Tryd.prog.godebug = none := by kernel_rfl
theorem laidOut : laidOutB Tryd.prog = true := by kernel_rfl
theorem glob_harrow_instr_uses : Tryd.prog.globalNamed "harrow/instr.uses" = some 0 := by kernel_rfl
theorem globt_harrow_instr_uses : (Tryd.prog.globals[0]?).map (·.type) = some 57 := by kernel_rfl
theorem door_met (os : Os) (args : Array Value) : laidMetH Tryd.prog [("harrow/instr.uses", Rows.laid_harrow_instr_uses)] ((World.doorLaid Tryd.prog 600 os).forCall (fun _ _ => 0) ⟨#[], args, []⟩).memory :=
  laidMetH_of_parts3 (fuel := 8) (laidMet_of_run' 8 (by kernel_rfl) (by kernel_rfl)) (by kernel_rfl) (by kernel_rfl)
theorem gw_of {W : World} (h : laidMetH Tryd.prog [("harrow/instr.uses", Rows.laid_harrow_instr_uses)] W) : GW W := by
  have h' : laidMet Tryd.prog [("harrow/instr.uses", Rows.laid_harrow_instr_uses)] W := h
  obtain ⟨ps, hl, _⟩ := h'
  obtain ⟨g, t, cs, fuel, p, q, hg, ht, hvar, hd, _, _⟩ := hl
  obtain rfl := Option.some.inj (glob_harrow_instr_uses.symm.trans hg)
  obtain rfl := Option.some.inj (globt_harrow_instr_uses.symm.trans ht)
  have hd' : DataW.trod _ Tryd.prog W 0 _ false fuel 57 cs.toList = some (.agg (usesTab.map fun x => .lit (.int .i64 x)), p) := hd
  have hcs := table_cells (n := 21) (e := 3) (k := .i64) (tab := usesTab) Tryd.underlying57 Tryd.underlying3 (by kernel_rfl) (by kernel_rfl) hd'
  have hc0 := World.var?_cell glob_harrow_instr_uses hvar
  exact GW.of_cells hcs hc0
set_option maxRecDepth 100000 in
theorem lifted (os : Os) (started : os.Started) (H : Type) (enc : TypeId × Value → H) :
    ReturnsInHanded {} Tryd.checked os 5 .any (fun w args => (Rows.peepSettlesSpec.pre enc Tryd.prog Tryd.f5 [] false w args ∧ laidMetH Tryd.prog [("harrow/instr.uses", Rows.laid_harrow_instr_uses)] w) ∧ sizedMet enc Tryd.prog Tryd.f5 (OpenSpec.ofChange Rows.peepSettlesSpec) false w args) (Rows.peepSettlesSpec.post enc Tryd.prog Tryd.f5 false true false false) := by
  refine returnsInHanded_of_change_and (C := Tryd.checked) (X := fun w _ => laidMetH Tryd.prog [("harrow/instr.uses", Rows.laid_harrow_instr_uses)] w) (fun _ _ _ hh h => h.of_heap hh) own started (by kernel_rfl) Tryd.func5
    (ChangeSpec.witness_shaped (enc := enc) (C := Tryd.checked) (os := os) (X := fun w _ => laidMetH Tryd.prog [("harrow/instr.uses", Rows.laid_harrow_instr_uses)] w) false (World.doorLaid Tryd.prog 600 os) #[(.slice none 0 0), (.int .i64 0)] 8 rfl (World.shaped_of_RefB (by kernel_rfl) (by kernel_rfl)) (by kernel_rfl) (by kernel_rfl) (by kernel_rfl) (door_met os _)) ?_
  intro W base args ds gs before hval0 hW hcnd hsz0 hL _
  have hsz : (DataW.weightsEach Tryd.prog (Tryd.f5.params.toList ++ Rows.peepSettlesSpec.plain.varTypes Tryd.prog) (ds ++ gs)).all (· ≤ reachBytes) = true := hsz0
  have hval : ∀ (j : Nat) t v, Tryd.f5.params[j]? = some t → args[j]? = some v → Value.okWide Tryd.prog W .any base t v := hval0
  have hW' := hW
  obtain ⟨p, q, hA0, hV, rfl, hfz, hnd⟩ := hW
  have hA : DataW.TrodAll enc Tryd.prog W 0 (fun _ => true) true Tryd.f5.params.toList args.toList ds p := hA0
  rw [Tryd.params5] at hA hval hsz
  obtain ⟨v0, vs0, d0, ds0, p0, q0, hargs, rfl, rfl, h0, r0⟩ := trodAll_cons hA
  obtain ⟨v1, vs1, d1, ds1, p1, q1, rfl, rfl, rfl, h1, r1⟩ := trodAll_cons r0
  obtain ⟨rfl, rfl, rfl⟩ := trodAll_nil r1
  obtain rfl : args = #[v0, v1] := by cases args; simp_all
  obtain ⟨rfl, rfl⟩ := trodVars_none hV
  obtain ⟨a0, len0, cap0, rfl⟩ := okWide_slice Tryd.underlying22 (hval 0 22 v0 rfl rfl)
  have lt0 : ∀ x ∈ p0, x.block < W.heap.size := by obtain ⟨m, hm⟩ := h0; exact DataW.trod_lt m _ _ _ hm
  obtain ⟨l0, ⟨A0, c0, hcs0, hc0, hr0⟩, hg0⟩ := xd.arg (j := 0) (x := d0) (xd.slice Tryd.underlying22 (by kernel_rfl) opens34) h0 hsz rfl rfl
  obtain ⟨rfl, rfl, rfl⟩ : a0 = A0 ∧ len0 = l0.length ∧ cap0 = c0 := by simpa [Value.cells] using hcs0
  obtain ⟨a1, rfl, _, _, hw1⟩ := open_int Tryd.underlying3 (hval 1 3 v1 rfl rfl) h1
  have lt1 : ∀ x ∈ p1, x.block < W.heap.size := by obtain ⟨m, hm⟩ := h1; exact DataW.trod_lt m _ _ _ hm
  clear hA0 hval0 hsz0 hsz hval
  have hP := YtnpeabmlcakegaaDoor.Pure.PeepSettles l0 a1 hg0 hw1
  have hP2 : ∃ k, zh.f k l0 a1 = some true := hP
  obtain ⟨k, hP3⟩ := hP2
  refine (zh.calls k _ _ l0 a1 true W (gw_of hL) hr0 hc0 hP3).mono fun e W' ⟨he, bel0⟩ => ?_
  have bel : Below W.heap.size W W' := bel0
  subst he
  exact ⟨_, rfl, _, _, _, [], _, [], hW', trodAll_mk1 (shut_bool Tryd.underlying4 _), (trodAll_cons_mk (Below.trod laidOut (by kernel_rfl) (of_decide_eq_true (by kernel_rfl)) h0 bel lt0) (trodAll_cons_mk (Below.trod laidOut (by kernel_rfl) (of_decide_eq_true (by kernel_rfl)) h1 bel lt1) trodAll_mk0)), rfl, bel.frame _, fun h => by cases h⟩
theorem over : Rows.peepSettlesRow.holds Tryd.pinned (OpenSpec.ofChange Rows.peepSettlesSpec) :=
  OpenClaim.holds_of_wide 5 Tryd.f5 rfl rfl rfl rfl rfl rfl rfl ⟨rfl, rfl, rfl, rfl, rfl⟩ rfl rfl rfl rfl rfl (by kernel_rfl) Tryd.func5 (by kernel_rfl)
    (of_decide_eq_true (by kernel_rfl)) (by unfold Func.isWrapper; first | (rw [if_pos (by decide +kernel)]; kernel_rfl) | (rw [if_neg (by decide +kernel)]; exact ⟨rfl, rfl⟩))
    (fun os started H enc _ => lifted os started H enc)
theorem proved : Rows.PeepSettlesSaid := over
theorem card : Rows.PeepSettlesCardSaid :=
  Claim7.holds_tied_plain_at .later [] [.data] true (true, "611ae94eebb6ae570217e6de654773cbfa10b9b19f181010b422dec85e816cb8") false proved (fun _ h => by cases h) (by kernel_rfl) (fun _ h => by cases h) peepSettles_row_tie rfl ⟨rfl, rfl⟩ (by kernel_rfl) rfl
    (fun f fn hf hfn => by
      obtain rfl : f = 5 := Option.some.inj ((show Tryd.prog.funcNamed "harrow/harrowlaw20.PeepSettles" = some 5 by kernel_rfl).symm.trans hf) |>.symm
      obtain rfl : fn = Tryd.f5 := (Option.some.inj (Tryd.func5.symm.trans hfn)).symm
      exact ⟨by kernel_rfl, fun j t ht => by
        rw [Tryd.params5] at ht
        have h3 : t ∈ [22, 3] := by
          have := List.mem_of_getElem? (by simpa using ht : ([22, 3] : List Nat)[j]? = some t)
          exact this
        simp only [List.mem_cons, List.not_mem_nil, or_false] at h3
        rcases h3 with rfl | rfl
        all_goals first | exact (show Tryd.prog.wantsStandIn 3 = false by kernel_rfl) | exact (show Tryd.prog.wantsStandIn 22 = false by kernel_rfl)⟩)
    (by kernel_rfl)
#print axioms card
end Go.Proofs.YtnpeabmlcakegaaDoor.peepSettles
namespace Go.Proofs.YtnpeabmlcakegaaDoor
theorem peepSettles_holds : Rows.PeepSettlesCardSaid := peepSettles.card
end Go.Proofs.YtnpeabmlcakegaaDoor
