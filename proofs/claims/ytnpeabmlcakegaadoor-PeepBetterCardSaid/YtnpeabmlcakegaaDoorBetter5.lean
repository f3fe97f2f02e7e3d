/- Part 5 of the proof: words, walks and plain laws that the statement's own text (YtnpeabmlcakegaaDoorBetter) uses. No condition of its own. -/
import Derived.Test.YtnpeabmlcakegaaDoorBetter4
set_option maxHeartbeats 8000000
set_option maxRecDepth 100000
namespace Go.Proofs.YtnpeabmlcakegaaDoor.PAll
open Go.RowKit Go.Proofs.YtnpeabmlcakegaaDoorW.PrintWords Go.Proofs.YtnpeabmlcakegaaDoorW.PrintLast Go.Proofs.YtnpeabmlcakegaaDoorW.PrintMore
attribute [local go_sem] zW z4 qd qR qO xd xe qD qB qQ qP
set_option linter.unusedVariables false
set_option linter.unusedSimpArgs false
attribute [local go_sem high] eqA34
def zv.l0 : Nat → List (S34) → List (S34) → Int → Option ((List (S34)))
 | 0, _, _, _ => none
 | k + 1, x0, x3, x4 => if x4 < (x0.length : Int) then (if 0 ≤ x4 then ((zs.f ((za x0 x4).f0)).bind fun t526 => (if t526 = true then ((qf.f k x0 x4).bind fun bt527 => (if bt527.2 = true then (if x4 < (x3.length : Int) then ((some (x3.set (x4 : Int).toNat (⟨(za x3 x4).f0, wrap64 (bt527.1 - x4), (za x3 x4).f2, (za x3 x4).f3, (za x3 x4).f4, (⟨(za x3 x4).f5.f0, (za x3 x4).f5.f1, (za x3 x4).f5.f2, (za x3 x4).f5.f3⟩ : S32)⟩ : S34) : List (S34))).bind fun y529 => (if 0 ≤ bt527.1 then (if bt527.1 < (x0.length : Int) then (if ((za x0 x4).f0) = 14 then (if ((za x0 bt527.1).f0) = 16 then (zv.l0 k x0 (y529.set (x4 : Int).toNat (⟨(za x0 bt527.1).f0, 0, 0, 0, (⟨#[]⟩ : ByteArray), (⟨0, 0, 0, 0⟩ : S32)⟩ : S34)) (wrap64 (x4 + 1))) else (if ((za x0 bt527.1).f0) = 17 then (zv.l0 k x0 (y529.set (x4 : Int).toNat (⟨(za x0 bt527.1).f0, 0, 0, 0, (⟨#[]⟩ : ByteArray), (⟨0, 0, 0, 0⟩ : S32)⟩ : S34)) (wrap64 (x4 + 1))) else (if ((za x0 bt527.1).f0) = 13 then (zv.l0 k x0 (y529.set (x4 : Int).toNat (⟨(za x0 bt527.1).f0, 0, 0, 0, (⟨#[]⟩ : ByteArray), (⟨0, 0, 0, 0⟩ : S32)⟩ : S34)) (wrap64 (x4 + 1))) else (if ((za x0 bt527.1).f0) = 12 then (zv.l0 k x0 (y529.set (x4 : Int).toNat (⟨(za x0 bt527.1).f0, 0, 0, 0, (⟨#[]⟩ : ByteArray), (⟨0, 0, 0, 0⟩ : S32)⟩ : S34)) (wrap64 (x4 + 1))) else (zv.l0 k x0 y529 (wrap64 (x4 + 1))))))) else (zv.l0 k x0 y529 (wrap64 (x4 + 1)))) else (none)) else (none))) else (none)) else (zv.l0 k x0 x3 (wrap64 (x4 + 1))))) else (zv.l0 k x0 x3 (wrap64 (x4 + 1))))) else (none)) else (some x3)
def zv.f (k : Nat) (l0 : List (S34)) : Option ((List (S34))) := (qE.f l0).bind fun t522 => (zv.l0 k l0 t522 0)
theorem zv.calls (k : Nat) (A0 : Option Addr) (c0 : Nat) (l0 r : List (S34)) (w : World) (hG : GW w) (hr0 : Kd.C k34 w A0 l0.length l0) (hc0 : l0.length ≤ c0) (h : zv.f k l0 = some r) :
  Calls Tryd.prog 37 #[.slice A0 l0.length c0] w fun e w' => ∃ v0_ : Value, e = .returned (v0_) ∧ Kd.R k34 34 w' w.heap.size (fun _ => True) v0_ r ∧ Below w.heap.size w w' := by
 have hu34 := Tryd.underlying34
 have HR0 := zb.mk hr0
 have HC0 := zb.mk hc0
 clear hr0 hc0
 have HG := zb.mk hG
 clear hG
 have HB := zb.mk (Below.refl w.heap.size w)
 have H : ((qE.f l0).bind fun t522 => (zv.l0 k l0 t522 0)) = some r := h
 clear h
 replace H := qb H; obtain ⟨t522, A2, H⟩ := H
 have H' := zb.mk H
 clear H
 go_enter Tryd.func37, Tryd.ntmps37
 go_wp2_with (((with_reducible refine zd (f := 33) rfl ?_); refine zl (some 9) rfl rfl Tryd.func33 (by kernel_rfl) rfl #[.slice A0 l0.length c0] rfl hq ?_; (with_reducible refine (qE.calls _ _ l0 t522 _ ?side3 ?side1 ?side2 A2.out).mono ?_); (case side1 => exact Kd.cx HR0.out); (case side2 => exact HC0.out); (case side3 => exact gb HG HB); rintro e w3 ⟨v523, rfl, ho0, hb⟩; refine ⟨_, rfl, ?_⟩; have HO524 := zb.mk (Kd.rlo ho0 HB); replace HB := bst HB hb; (try clear hb); (try clear ho0)))
 go_loopg [4] k (fun kq v4 w' => ∃ (x3_1 : List (S34)) (x4_1 : Int), v4 = .int .i64 x4_1 ∧ zb (zv.l0 kq l0 x3_1 x4_1 = some r) ∧ zb (kq ≤ k) ∧ zb (Kd.R k34 34 w' w.heap.size (fun _ => True) v523 x3_1) ∧ zb (Below w.heap.size w w'))
 case atStart => exact ⟨(t522), (0), eq0, H', ⟨Nat.le_refl _⟩, ⟨Kd.rx HO524.out⟩, ⟨bl HB.out⟩⟩
 case round =>
  clear H'
  obtain ⟨x3_1, x4_1, rfl, HA, HK1, HO_3, HB⟩ := hrel
  cases gk with
  | zero => exact absurd HA.out (by simp [zv.l0])
  | succ k1 =>
   have H := HA.out
   clear HA
   simp only [zv.l0] at H
   by_cases c4 : x4_1 < (l0.length : Int)
   ·rw [if_pos c4] at H
    have c4b0 := decide_eq_true c4
    clear c4
    replace H := z8 H; obtain ⟨c5, H⟩ := H
    have c5b0 := decide_eq_true c5
    clear c5
    replace H := qb H; obtain ⟨t526, A6, H⟩ := H
    by_cases c7 : t526 = true
    ·subst c7
     replace H := ifT H
     replace H := qb H; obtain ⟨⟨t527, t528⟩, A8, H⟩ := H; try dsimp only at H
     by_cases c9 : t528 = true
     ·subst c9
      replace H := ifT H
      replace H := z8 H; obtain ⟨c10, H⟩ := H
      have c10b0 := decide_eq_true c10
      clear c10
      obtain ⟨y529, Ny529, H⟩ := bindY H; try dsimp only at H
      replace H := z8 H; obtain ⟨c12, H⟩ := H
      have c12b0 := decide_eq_true c12
      clear c12
      replace H := z8 H; obtain ⟨c13, H⟩ := H
      have c13b0 := decide_eq_true c13
      clear c13
      by_cases c14 : ((za l0 x4_1).f0) = 14
      ·rw [if_pos c14] at H
       have c14b0 := beq_iff_eq.mpr c14
       have c14b1 := bne_eq_false_iff_eq.mpr c14
       clear c14
       by_cases c15 : ((za l0 t527).f0) = 16
       ·rw [if_pos c15] at H
        have c15b0 := beq_iff_eq.mpr c15
        have c15b1 := bne_eq_false_iff_eq.mpr c15
        clear c15
        obtain ⟨y532, hy532⟩ : ∃ y_ : List (S34), y_ = (y529.set (x4_1 : Int).toNat (⟨(za l0 t527).f0, 0, 0, 0, (⟨#[]⟩ : ByteArray), (⟨0, 0, 0, 0⟩ : S32)⟩ : S34)) := ⟨_, rfl⟩
        replace H : (zv.l0 k1 l0 y532 (wrap64 (x4_1 + 1))) = some r := by (rw [hy532]; with_reducible exact H)
        have Ny532 := zb.mk hy532
        clear hy532
        have H' := zb.mk H
        clear H
        have p525 : 0 ≤ (x4_1 : Int) := dq
        have q525 : x4_1 < (l0.length : Int) := dq
        obtain ⟨ad525, e525, hx525_0, hx525_1, hx525_2, hx525_3, hx525_4, hx525_5, hx525_6, hx525_7, hx525_8⟩ := zO HR0.out x4_1 p525 q525
        cases e525
        replace hx525_0 := cb HB.out hx525_0
        replace hx525_1 := cb HB.out hx525_1
        replace hx525_2 := cb HB.out hx525_2
        replace hx525_3 := cb HB.out hx525_3
        replace hx525_4 := cb HB.out hx525_4
        replace hx525_5 := cb HB.out hx525_5
        replace hx525_6 := cb HB.out hx525_6
        replace hx525_7 := cb HB.out hx525_7
        replace hx525_8 := cb HB.out hx525_8
        replace p525 := eq_true p525
        replace q525 := eq_true q525
        go_wp2_with (first | ((with_reducible refine zd (f := 19) rfl ?_); refine zl (some 21) rfl rfl Tryd.func19 (by kernel_rfl) rfl #[.int .i64 ((za l0 x4_1).f0)] rfl hq ?_; (with_reducible refine (zs.calls ((za l0 x4_1).f0) true _ ?side1 A6.out).mono ?_); (case side1 => exact gb HG HB); rintro e w' ⟨rfl, ⟨nd, rfl⟩⟩; refine ⟨_, rfl, ?_⟩; (try (rw [xc wr]; generalize hq_ : World.drewN wr _ = wr; replace HO_3 : zb (Kd.R k34 34 wr w.heap.size (fun _ => True) v523 x3_1) := ⟨by rw [← hq_]; exact (Kd.rx HO_3.out)⟩; replace HB : zb (Below w.heap.size w wr) := ⟨by rw [← hq_]; exact (bl HB.out)⟩; clear hq_))) | ((with_reducible refine zd (f := 56) rfl ?_); refine zl (some 26) rfl rfl Tryd.func56 (by kernel_rfl) rfl #[.slice (some ad525) l0.length c0, .int .i64 x4_1] rfl hq ?_; (with_reducible refine (qf.calls k1 _ _ l0 x4_1 t527 true _ ?side3 ?side1 ?side2 A8.out).mono ?_); (case side1 => exact Kd.cx (Kd.qe HR0.out HB.out)); (case side2 => exact HC0.out); (case side3 => exact gb HG HB); rintro e w' ⟨rfl, ⟨nd, rfl⟩⟩; refine ⟨_, rfl, ?_⟩; (try (rw [xc wr]; generalize hq_ : World.drewN wr _ = wr; replace HO_3 : zb (Kd.R k34 34 wr w.heap.size (fun _ => True) v523 x3_1) := ⟨by rw [← hq_]; exact (Kd.rx HO_3.out)⟩; replace HB : zb (Below w.heap.size w wr) := ⟨by rw [← hq_]; exact (bl HB.out)⟩; clear hq_)); have p11 : 0 ≤ (x4_1 : Int) := dq; have q11 : (x4_1 : Int) < ((x3_1.length : Int) : Int) := dq; obtain ⟨go11, co11, eo11, gb11, gl11, cl11, HG11⟩ := Kd.xJ HO_3.out (by omega); (cases eo11); have GB11 := zb.mk gb11; have GG11 := zb.mk HG11; clear gb11 gl11 HG11; obtain ⟨ce11, hcl11, hM11, hcc11, hfr11⟩ := Kd.xt HO_3.out z34 (x4_1 : Int) p11 q11; obtain rfl := qG hM11; have hx11_0 : wr.cell? ⟨go11, (x4_1 : Int).toNat * 9, none⟩ = some (.int .i64 ((za x3_1 x4_1).f0)) := hcc11 0 _ rfl; have hx11_1 : wr.cell? ⟨go11, (x4_1 : Int).toNat * 9 + 1, none⟩ = some (.int .i64 ((za x3_1 x4_1).f1)) := hcc11 1 _ rfl; have hx11_2 : wr.cell? ⟨go11, (x4_1 : Int).toNat * 9 + 2, none⟩ = some (.int .i64 ((za x3_1 x4_1).f2)) := hcc11 2 _ rfl; have hx11_3 : wr.cell? ⟨go11, (x4_1 : Int).toNat * 9 + 3, none⟩ = some (.int .i64 ((za x3_1 x4_1).f3)) := hcc11 3 _ rfl; have hx11_4 : wr.cell? ⟨go11, (x4_1 : Int).toNat * 9 + 4, none⟩ = some (.string ((za x3_1 x4_1).f4)) := hcc11 4 _ rfl; have hx11_5 : wr.cell? ⟨go11, (x4_1 : Int).toNat * 9 + 5, none⟩ = some (.int .u64 ((za x3_1 x4_1).f5.f0)) := hcc11 5 _ rfl; have hx11_6 : wr.cell? ⟨go11, (x4_1 : Int).toNat * 9 + 6, none⟩ = some (.int .u64 ((za x3_1 x4_1).f5.f1)) := hcc11 6 _ rfl; have hx11_7 : wr.cell? ⟨go11, (x4_1 : Int).toNat * 9 + 7, none⟩ = some (.int .u64 ((za x3_1 x4_1).f5.f2)) := hcc11 7 _ rfl; have hx11_8 : wr.cell? ⟨go11, (x4_1 : Int).toNat * 9 + 8, none⟩ = some (.int .u64 ((za x3_1 x4_1).f5.f3)) := hcc11 8 _ rfl; have hf11_0 : wr.frozen? ⟨go11, (x4_1 : Int).toNat * 9, none⟩ = false := hfr11 0; have hf11_1 : wr.frozen? ⟨go11, (x4_1 : Int).toNat * 9 + 1, none⟩ = false := hfr11 1; have hf11_2 : wr.frozen? ⟨go11, (x4_1 : Int).toNat * 9 + 2, none⟩ = false := hfr11 2; have hf11_3 : wr.frozen? ⟨go11, (x4_1 : Int).toNat * 9 + 3, none⟩ = false := hfr11 3; have hf11_4 : wr.frozen? ⟨go11, (x4_1 : Int).toNat * 9 + 4, none⟩ = false := hfr11 4; have hf11_5 : wr.frozen? ⟨go11, (x4_1 : Int).toNat * 9 + 5, none⟩ = false := hfr11 5; have hf11_6 : wr.frozen? ⟨go11, (x4_1 : Int).toNat * 9 + 6, none⟩ = false := hfr11 6; have hf11_7 : wr.frozen? ⟨go11, (x4_1 : Int).toNat * 9 + 7, none⟩ = false := hfr11 7; have hf11_8 : wr.frozen? ⟨go11, (x4_1 : Int).toNat * 9 + 8, none⟩ = false := hfr11 8; clear hcl11 hcc11 hfr11 hM11; replace p11 := eq_true p11; replace q11 := eq_true q11; have HX17 := zb.mk (show Kd.R k34 34 wr w.heap.size (fun _ => True) (.slice (some ⟨go11, 0, none⟩) x3_1.length co11) x3_1 from (Kd.rx HO_3.out)); obtain ⟨ce17, hcl17, hM17, hcc17, hfr17⟩ := Kd.xt HX17.out z34 (x4_1 : Int) (dq) (by have h_ : (x4_1 : Int) < ((x3_1.length : Int) : Int) := dq; exact h_); obtain rfl := qG hM17; have HP17 := Kd.R_seg HX17.out (x4_1 : Int) (dq) (by have h_ : (x4_1 : Int) < ((x3_1.length : Int) : Int) := dq; exact h_) (seg := [.int .i64 (wrap64 (t527 - x4_1))]) (j := 1) hcl17 hcc17 (show 2 ≤ 9 from by decide) (x' := (⟨(za x3_1 x4_1).f0, wrap64 (t527 - x4_1), (za x3_1 x4_1).f2, (za x3_1 x4_1).f3, (za x3_1 x4_1).f4, (⟨(za x3_1 x4_1).f5.f0, (za x3_1 x4_1).f5.f1, (za x3_1 x4_1).f5.f2, (za x3_1 x4_1).f5.f3⟩ : S32)⟩ : S34)) (xm _ _ _ (⟨(za x3_1 x4_1).f0, wrap64 (t527 - x4_1), (za x3_1 x4_1).f2, (za x3_1 x4_1).f3, (za x3_1 x4_1).f4, (⟨(za x3_1 x4_1).f5.f0, (za x3_1 x4_1).f5.f1, (za x3_1 x4_1).f5.f2, (za x3_1 x4_1).f5.f3⟩ : S32)⟩ : S34) ) (fun _ hk => hk); have hx17_1 := hcc17 1 _ rfl; (try simp only [show (k34).sz = 9 from rfl, Nat.mul_one, Nat.add_zero] at hx17_1); have hf17_1 := hfr17 1; (try simp only [show (k34).sz = 9 from rfl, Nat.mul_one, Nat.add_zero] at hf17_1); clear hcl17 hcc17 hfr17 hM17) | ((with_reducible refine zG (t := 3) (p := 37) rfl ?_); refine zy (t := 3) (p := 37) (v := ?vo_w18) (w1 := (wr.setCell ⟨go11, (x4_1 : Int).toNat * 9 + 1, none⟩ (.int .i64 (wrap64 (t527 - x4_1))))) ?hg ?ho ?hn ?hr ?_; (case ho => rfl); (case hg => rfl); (case hn => rfl); (case hr => (go_simp; done)); intro w18 hw; have hg : wr.grownBy w18 (some go11) := (by rw [hw]; exact HP17.2); have hp_ : Kd.R k34 34 w18 w.heap.size (fun _ => True) (.slice (some ⟨go11, 0, none⟩) x3_1.length co11) y529 := (by rw [hw, Ny529.out]; exact HP17.1); clear HP17; replace HO_3 := zb.mk (hp_); replace HB := zb.mk ((by rw [hw]; exact zB (HB.out) GB11.out : Below w.heap.size w w18)); clear hg hw hp_; have p530 : 0 ≤ (t527 : Int) := dq; have q530 : t527 < (l0.length : Int) := dq; obtain ⟨ad530, e530, hx530_0, hx530_1, hx530_2, hx530_3, hx530_4, hx530_5, hx530_6, hx530_7, hx530_8⟩ := zO (Kd.qe HR0.out HB.out) t527 p530 q530; obtain rfl : ad525 = ad530 := (by injection e530); replace p530 := eq_true p530; replace q530 := eq_true q530; have p531 : 0 ≤ (x4_1 : Int) := dq; have q531 : x4_1 < (l0.length : Int) := dq; obtain ⟨ad531, e531, hx531_0, hx531_1, hx531_2, hx531_3, hx531_4, hx531_5, hx531_6, hx531_7, hx531_8⟩ := zO (Kd.qe HR0.out HB.out) x4_1 p531 q531; obtain rfl : ad525 = ad531 := (by injection e531); replace p531 := eq_true p531; replace q531 := eq_true q531; have p16 : 0 ≤ (x4_1 : Int) := dq; have q16 : (x4_1 : Int) < ((x3_1.length : Int) : Int) := dq; obtain ⟨ce16, hcl16, hM16, hcc16, hfr16⟩ := Kd.xt HO_3.out z34 (x4_1 : Int) p16 q16; obtain rfl := qG hM16; have hx16_0 : w18.cell? ⟨go11, (x4_1 : Int).toNat * 9, none⟩ = some (.int .i64 ((za y529 x4_1).f0)) := hcc16 0 _ rfl; have hx16_1 : w18.cell? ⟨go11, (x4_1 : Int).toNat * 9 + 1, none⟩ = some (.int .i64 ((za y529 x4_1).f1)) := hcc16 1 _ rfl; have hx16_2 : w18.cell? ⟨go11, (x4_1 : Int).toNat * 9 + 2, none⟩ = some (.int .i64 ((za y529 x4_1).f2)) := hcc16 2 _ rfl; have hx16_3 : w18.cell? ⟨go11, (x4_1 : Int).toNat * 9 + 3, none⟩ = some (.int .i64 ((za y529 x4_1).f3)) := hcc16 3 _ rfl; have hx16_4 : w18.cell? ⟨go11, (x4_1 : Int).toNat * 9 + 4, none⟩ = some (.string ((za y529 x4_1).f4)) := hcc16 4 _ rfl; have hx16_5 : w18.cell? ⟨go11, (x4_1 : Int).toNat * 9 + 5, none⟩ = some (.int .u64 ((za y529 x4_1).f5.f0)) := hcc16 5 _ rfl; have hx16_6 : w18.cell? ⟨go11, (x4_1 : Int).toNat * 9 + 6, none⟩ = some (.int .u64 ((za y529 x4_1).f5.f1)) := hcc16 6 _ rfl; have hx16_7 : w18.cell? ⟨go11, (x4_1 : Int).toNat * 9 + 7, none⟩ = some (.int .u64 ((za y529 x4_1).f5.f2)) := hcc16 7 _ rfl; have hx16_8 : w18.cell? ⟨go11, (x4_1 : Int).toNat * 9 + 8, none⟩ = some (.int .u64 ((za y529 x4_1).f5.f3)) := hcc16 8 _ rfl; have hf16_0 : w18.frozen? ⟨go11, (x4_1 : Int).toNat * 9, none⟩ = false := hfr16 0; have hf16_1 : w18.frozen? ⟨go11, (x4_1 : Int).toNat * 9 + 1, none⟩ = false := hfr16 1; have hf16_2 : w18.frozen? ⟨go11, (x4_1 : Int).toNat * 9 + 2, none⟩ = false := hfr16 2; have hf16_3 : w18.frozen? ⟨go11, (x4_1 : Int).toNat * 9 + 3, none⟩ = false := hfr16 3; have hf16_4 : w18.frozen? ⟨go11, (x4_1 : Int).toNat * 9 + 4, none⟩ = false := hfr16 4; have hf16_5 : w18.frozen? ⟨go11, (x4_1 : Int).toNat * 9 + 5, none⟩ = false := hfr16 5; have hf16_6 : w18.frozen? ⟨go11, (x4_1 : Int).toNat * 9 + 6, none⟩ = false := hfr16 6; have hf16_7 : w18.frozen? ⟨go11, (x4_1 : Int).toNat * 9 + 7, none⟩ = false := hfr16 7; have hf16_8 : w18.frozen? ⟨go11, (x4_1 : Int).toNat * 9 + 8, none⟩ = false := hfr16 8; clear hcl16 hcc16 hfr16 hM16; replace p16 := eq_true p16; replace q16 := eq_true q16; have HX19 := zb.mk (show Kd.R k34 34 w18 w.heap.size (fun _ => True) (.slice (some ⟨go11, 0, none⟩) x3_1.length co11) y529 from (Kd.rx HO_3.out)); obtain ⟨ce19, hcl19, hM19, hcc19, hfr19⟩ := Kd.xt HX19.out z34 (x4_1 : Int) (dq) (by have h_ : (x4_1 : Int) < ((x3_1.length : Int) : Int) := dq; exact h_); obtain rfl := qG hM19; have HP19 := Kd.R_seg HX19.out (x4_1 : Int) (dq) (by have h_ : (x4_1 : Int) < ((x3_1.length : Int) : Int) := dq; exact h_) (seg := [.int .i64 ((za l0 t527).f0), .int .i64 0, .int .i64 0, .int .i64 0, .string (⟨#[]⟩ : ByteArray), .int .u64 0, .int .u64 0, .int .u64 0, .int .u64 0]) (j := 0) hcl19 hcc19 (show 9 ≤ 9 from by decide) (x' := (⟨(za l0 t527).f0, 0, 0, 0, (⟨#[]⟩ : ByteArray), (⟨0, 0, 0, 0⟩ : S32)⟩ : S34)) (xm _ _ _ (⟨(za l0 t527).f0, 0, 0, 0, (⟨#[]⟩ : ByteArray), (⟨0, 0, 0, 0⟩ : S32)⟩ : S34) ) (fun _ hk => hk); have hx19_0 := hcc19 0 _ rfl; (try simp only [show (k34).sz = 9 from rfl, Nat.mul_one, Nat.add_zero] at hx19_0); have hf19_0 := hfr19 0; (try simp only [show (k34).sz = 9 from rfl, Nat.mul_one, Nat.add_zero] at hf19_0); have hx19_1 := hcc19 1 _ rfl; (try simp only [show (k34).sz = 9 from rfl, Nat.mul_one, Nat.add_zero] at hx19_1); have hf19_1 := hfr19 1; (try simp only [show (k34).sz = 9 from rfl, Nat.mul_one, Nat.add_zero] at hf19_1); have hx19_2 := hcc19 2 _ rfl; (try simp only [show (k34).sz = 9 from rfl, Nat.mul_one, Nat.add_zero] at hx19_2); have hf19_2 := hfr19 2; (try simp only [show (k34).sz = 9 from rfl, Nat.mul_one, Nat.add_zero] at hf19_2); have hx19_3 := hcc19 3 _ rfl; (try simp only [show (k34).sz = 9 from rfl, Nat.mul_one, Nat.add_zero] at hx19_3); have hf19_3 := hfr19 3; (try simp only [show (k34).sz = 9 from rfl, Nat.mul_one, Nat.add_zero] at hf19_3); have hx19_4 := hcc19 4 _ rfl; (try simp only [show (k34).sz = 9 from rfl, Nat.mul_one, Nat.add_zero] at hx19_4); have hf19_4 := hfr19 4; (try simp only [show (k34).sz = 9 from rfl, Nat.mul_one, Nat.add_zero] at hf19_4); have hx19_5 := hcc19 5 _ rfl; (try simp only [show (k34).sz = 9 from rfl, Nat.mul_one, Nat.add_zero] at hx19_5); have hf19_5 := hfr19 5; (try simp only [show (k34).sz = 9 from rfl, Nat.mul_one, Nat.add_zero] at hf19_5); have hx19_6 := hcc19 6 _ rfl; (try simp only [show (k34).sz = 9 from rfl, Nat.mul_one, Nat.add_zero] at hx19_6); have hf19_6 := hfr19 6; (try simp only [show (k34).sz = 9 from rfl, Nat.mul_one, Nat.add_zero] at hf19_6); have hx19_7 := hcc19 7 _ rfl; (try simp only [show (k34).sz = 9 from rfl, Nat.mul_one, Nat.add_zero] at hx19_7); have hf19_7 := hfr19 7; (try simp only [show (k34).sz = 9 from rfl, Nat.mul_one, Nat.add_zero] at hf19_7); have hx19_8 := hcc19 8 _ rfl; (try simp only [show (k34).sz = 9 from rfl, Nat.mul_one, Nat.add_zero] at hx19_8); have hf19_8 := hfr19 8; (try simp only [show (k34).sz = 9 from rfl, Nat.mul_one, Nat.add_zero] at hf19_8); clear hcl19 hcc19 hfr19 hM19) | ((with_reducible refine zG (t := 34) (p := 69) rfl ?_); refine zy (t := 34) (p := 69) (v := ?vo_w20) (w1 := (((((((((w18.setCell ⟨go11, (x4_1 : Int).toNat * 9, none⟩ (.int .i64 ((za l0 t527).f0))).setCell ⟨go11, (x4_1 : Int).toNat * 9 + 1, none⟩ (.int .i64 0)).setCell ⟨go11, (x4_1 : Int).toNat * 9 + 2, none⟩ (.int .i64 0)).setCell ⟨go11, (x4_1 : Int).toNat * 9 + 3, none⟩ (.int .i64 0)).setCell ⟨go11, (x4_1 : Int).toNat * 9 + 4, none⟩ (.string (⟨#[]⟩ : ByteArray))).setCell ⟨go11, (x4_1 : Int).toNat * 9 + 5, none⟩ (.int .u64 0)).setCell ⟨go11, (x4_1 : Int).toNat * 9 + 6, none⟩ (.int .u64 0)).setCell ⟨go11, (x4_1 : Int).toNat * 9 + 7, none⟩ (.int .u64 0)).setCell ⟨go11, (x4_1 : Int).toNat * 9 + 8, none⟩ (.int .u64 0))) ?hg ?ho ?hn ?hr ?_; (case ho => rfl); (case hg => rfl); (case hn => rfl); (case hr => (go_simp; done)); intro w20 hw; have hg : w18.grownBy w20 (some go11) := (by rw [hw]; exact HP19.2); have hp_ : Kd.R k34 34 w20 w.heap.size (fun _ => True) (.slice (some ⟨go11, 0, none⟩) x3_1.length co11) y532 := (by rw [hw, Ny532.out]; exact HP19.1); clear HP19; replace HO_3 := zb.mk (hp_); replace HB := zb.mk ((by rw [hw]; exact zB (zB (zB (zB (zB (zB (zB (zB (zB (HB.out) GB11.out) GB11.out) GB11.out) GB11.out) GB11.out) GB11.out) GB11.out) GB11.out) GB11.out : Below w.heap.size w w20)); clear hg hw hp_))
        go_roundg k1
        case measure => have := HK1.out; omega
        case rel => exact ⟨(y532), (wrap64 (x4_1 + 1)), eq0, H', ⟨by have := HK1.out; omega⟩, ⟨Kd.rx HO_3.out⟩, ⟨bl HB.out⟩⟩
       ·rw [if_neg c15] at H
        have c15b0 := beq_eq_false_iff_ne.mpr c15
        have c15b1 := bne_iff_ne.mpr c15
        by_cases c21 : ((za l0 t527).f0) = 17
        ·rw [if_pos c21] at H
         have c21b0 := beq_iff_eq.mpr c21
         have c21b1 := bne_eq_false_iff_eq.mpr c21
         clear c21
         obtain ⟨y533, hy533⟩ : ∃ y_ : List (S34), y_ = (y529.set (x4_1 : Int).toNat (⟨(za l0 t527).f0, 0, 0, 0, (⟨#[]⟩ : ByteArray), (⟨0, 0, 0, 0⟩ : S32)⟩ : S34)) := ⟨_, rfl⟩
         replace H : (zv.l0 k1 l0 y533 (wrap64 (x4_1 + 1))) = some r := by (rw [hy533]; with_reducible exact H)
         have Ny533 := zb.mk hy533
         clear hy533
         have H' := zb.mk H
         clear H
         have p525 : 0 ≤ (x4_1 : Int) := dq
         have q525 : x4_1 < (l0.length : Int) := dq
         obtain ⟨ad525, e525, hx525_0, hx525_1, hx525_2, hx525_3, hx525_4, hx525_5, hx525_6, hx525_7, hx525_8⟩ := zO HR0.out x4_1 p525 q525
         cases e525
         replace hx525_0 := cb HB.out hx525_0
         replace hx525_1 := cb HB.out hx525_1
         replace hx525_2 := cb HB.out hx525_2
         replace hx525_3 := cb HB.out hx525_3
         replace hx525_4 := cb HB.out hx525_4
         replace hx525_5 := cb HB.out hx525_5
         replace hx525_6 := cb HB.out hx525_6
         replace hx525_7 := cb HB.out hx525_7
         replace hx525_8 := cb HB.out hx525_8
         replace p525 := eq_true p525
         replace q525 := eq_true q525
         go_wp2_with (first | ((with_reducible refine zd (f := 19) rfl ?_); refine zl (some 21) rfl rfl Tryd.func19 (by kernel_rfl) rfl #[.int .i64 ((za l0 x4_1).f0)] rfl hq ?_; (with_reducible refine (zs.calls ((za l0 x4_1).f0) true _ ?side1 A6.out).mono ?_); (case side1 => exact gb HG HB); rintro e w' ⟨rfl, ⟨nd, rfl⟩⟩; refine ⟨_, rfl, ?_⟩; (try (rw [xc wr]; generalize hq_ : World.drewN wr _ = wr; replace HO_3 : zb (Kd.R k34 34 wr w.heap.size (fun _ => True) v523 x3_1) := ⟨by rw [← hq_]; exact (Kd.rx HO_3.out)⟩; replace HB : zb (Below w.heap.size w wr) := ⟨by rw [← hq_]; exact (bl HB.out)⟩; clear hq_))) | ((with_reducible refine zd (f := 56) rfl ?_); refine zl (some 26) rfl rfl Tryd.func56 (by kernel_rfl) rfl #[.slice (some ad525) l0.length c0, .int .i64 x4_1] rfl hq ?_; (with_reducible refine (qf.calls k1 _ _ l0 x4_1 t527 true _ ?side3 ?side1 ?side2 A8.out).mono ?_); (case side1 => exact Kd.cx (Kd.qe HR0.out HB.out)); (case side2 => exact HC0.out); (case side3 => exact gb HG HB); rintro e w' ⟨rfl, ⟨nd, rfl⟩⟩; refine ⟨_, rfl, ?_⟩; (try (rw [xc wr]; generalize hq_ : World.drewN wr _ = wr; replace HO_3 : zb (Kd.R k34 34 wr w.heap.size (fun _ => True) v523 x3_1) := ⟨by rw [← hq_]; exact (Kd.rx HO_3.out)⟩; replace HB : zb (Below w.heap.size w wr) := ⟨by rw [← hq_]; exact (bl HB.out)⟩; clear hq_)); have p11 : 0 ≤ (x4_1 : Int) := dq; have q11 : (x4_1 : Int) < ((x3_1.length : Int) : Int) := dq; obtain ⟨go11, co11, eo11, gb11, gl11, cl11, HG11⟩ := Kd.xJ HO_3.out (by omega); (cases eo11); have GB11 := zb.mk gb11; have GG11 := zb.mk HG11; clear gb11 gl11 HG11; obtain ⟨ce11, hcl11, hM11, hcc11, hfr11⟩ := Kd.xt HO_3.out z34 (x4_1 : Int) p11 q11; obtain rfl := qG hM11; have hx11_0 : wr.cell? ⟨go11, (x4_1 : Int).toNat * 9, none⟩ = some (.int .i64 ((za x3_1 x4_1).f0)) := hcc11 0 _ rfl; have hx11_1 : wr.cell? ⟨go11, (x4_1 : Int).toNat * 9 + 1, none⟩ = some (.int .i64 ((za x3_1 x4_1).f1)) := hcc11 1 _ rfl; have hx11_2 : wr.cell? ⟨go11, (x4_1 : Int).toNat * 9 + 2, none⟩ = some (.int .i64 ((za x3_1 x4_1).f2)) := hcc11 2 _ rfl; have hx11_3 : wr.cell? ⟨go11, (x4_1 : Int).toNat * 9 + 3, none⟩ = some (.int .i64 ((za x3_1 x4_1).f3)) := hcc11 3 _ rfl; have hx11_4 : wr.cell? ⟨go11, (x4_1 : Int).toNat * 9 + 4, none⟩ = some (.string ((za x3_1 x4_1).f4)) := hcc11 4 _ rfl; have hx11_5 : wr.cell? ⟨go11, (x4_1 : Int).toNat * 9 + 5, none⟩ = some (.int .u64 ((za x3_1 x4_1).f5.f0)) := hcc11 5 _ rfl; have hx11_6 : wr.cell? ⟨go11, (x4_1 : Int).toNat * 9 + 6, none⟩ = some (.int .u64 ((za x3_1 x4_1).f5.f1)) := hcc11 6 _ rfl; have hx11_7 : wr.cell? ⟨go11, (x4_1 : Int).toNat * 9 + 7, none⟩ = some (.int .u64 ((za x3_1 x4_1).f5.f2)) := hcc11 7 _ rfl; have hx11_8 : wr.cell? ⟨go11, (x4_1 : Int).toNat * 9 + 8, none⟩ = some (.int .u64 ((za x3_1 x4_1).f5.f3)) := hcc11 8 _ rfl; have hf11_0 : wr.frozen? ⟨go11, (x4_1 : Int).toNat * 9, none⟩ = false := hfr11 0; have hf11_1 : wr.frozen? ⟨go11, (x4_1 : Int).toNat * 9 + 1, none⟩ = false := hfr11 1; have hf11_2 : wr.frozen? ⟨go11, (x4_1 : Int).toNat * 9 + 2, none⟩ = false := hfr11 2; have hf11_3 : wr.frozen? ⟨go11, (x4_1 : Int).toNat * 9 + 3, none⟩ = false := hfr11 3; have hf11_4 : wr.frozen? ⟨go11, (x4_1 : Int).toNat * 9 + 4, none⟩ = false := hfr11 4; have hf11_5 : wr.frozen? ⟨go11, (x4_1 : Int).toNat * 9 + 5, none⟩ = false := hfr11 5; have hf11_6 : wr.frozen? ⟨go11, (x4_1 : Int).toNat * 9 + 6, none⟩ = false := hfr11 6; have hf11_7 : wr.frozen? ⟨go11, (x4_1 : Int).toNat * 9 + 7, none⟩ = false := hfr11 7; have hf11_8 : wr.frozen? ⟨go11, (x4_1 : Int).toNat * 9 + 8, none⟩ = false := hfr11 8; clear hcl11 hcc11 hfr11 hM11; replace p11 := eq_true p11; replace q11 := eq_true q11; have HX23 := zb.mk (show Kd.R k34 34 wr w.heap.size (fun _ => True) (.slice (some ⟨go11, 0, none⟩) x3_1.length co11) x3_1 from (Kd.rx HO_3.out)); obtain ⟨ce23, hcl23, hM23, hcc23, hfr23⟩ := Kd.xt HX23.out z34 (x4_1 : Int) (dq) (by have h_ : (x4_1 : Int) < ((x3_1.length : Int) : Int) := dq; exact h_); obtain rfl := qG hM23; have HP23 := Kd.R_seg HX23.out (x4_1 : Int) (dq) (by have h_ : (x4_1 : Int) < ((x3_1.length : Int) : Int) := dq; exact h_) (seg := [.int .i64 (wrap64 (t527 - x4_1))]) (j := 1) hcl23 hcc23 (show 2 ≤ 9 from by decide) (x' := (⟨(za x3_1 x4_1).f0, wrap64 (t527 - x4_1), (za x3_1 x4_1).f2, (za x3_1 x4_1).f3, (za x3_1 x4_1).f4, (⟨(za x3_1 x4_1).f5.f0, (za x3_1 x4_1).f5.f1, (za x3_1 x4_1).f5.f2, (za x3_1 x4_1).f5.f3⟩ : S32)⟩ : S34)) (xm _ _ _ (⟨(za x3_1 x4_1).f0, wrap64 (t527 - x4_1), (za x3_1 x4_1).f2, (za x3_1 x4_1).f3, (za x3_1 x4_1).f4, (⟨(za x3_1 x4_1).f5.f0, (za x3_1 x4_1).f5.f1, (za x3_1 x4_1).f5.f2, (za x3_1 x4_1).f5.f3⟩ : S32)⟩ : S34) ) (fun _ hk => hk); have hx23_1 := hcc23 1 _ rfl; (try simp only [show (k34).sz = 9 from rfl, Nat.mul_one, Nat.add_zero] at hx23_1); have hf23_1 := hfr23 1; (try simp only [show (k34).sz = 9 from rfl, Nat.mul_one, Nat.add_zero] at hf23_1); clear hcl23 hcc23 hfr23 hM23) | ((with_reducible refine zG (t := 3) (p := 37) rfl ?_); refine zy (t := 3) (p := 37) (v := ?vo_w24) (w1 := (wr.setCell ⟨go11, (x4_1 : Int).toNat * 9 + 1, none⟩ (.int .i64 (wrap64 (t527 - x4_1))))) ?hg ?ho ?hn ?hr ?_; (case ho => rfl); (case hg => rfl); (case hn => rfl); (case hr => (go_simp; done)); intro w24 hw; have hg : wr.grownBy w24 (some go11) := (by rw [hw]; exact HP23.2); have hp_ : Kd.R k34 34 w24 w.heap.size (fun _ => True) (.slice (some ⟨go11, 0, none⟩) x3_1.length co11) y529 := (by rw [hw, Ny529.out]; exact HP23.1); clear HP23; replace HO_3 := zb.mk (hp_); replace HB := zb.mk ((by rw [hw]; exact zB (HB.out) GB11.out : Below w.heap.size w w24)); clear hg hw hp_; have p530 : 0 ≤ (t527 : Int) := dq; have q530 : t527 < (l0.length : Int) := dq; obtain ⟨ad530, e530, hx530_0, hx530_1, hx530_2, hx530_3, hx530_4, hx530_5, hx530_6, hx530_7, hx530_8⟩ := zO (Kd.qe HR0.out HB.out) t527 p530 q530; obtain rfl : ad525 = ad530 := (by injection e530); replace p530 := eq_true p530; replace q530 := eq_true q530; have p531 : 0 ≤ (x4_1 : Int) := dq; have q531 : x4_1 < (l0.length : Int) := dq; obtain ⟨ad531, e531, hx531_0, hx531_1, hx531_2, hx531_3, hx531_4, hx531_5, hx531_6, hx531_7, hx531_8⟩ := zO (Kd.qe HR0.out HB.out) x4_1 p531 q531; obtain rfl : ad525 = ad531 := (by injection e531); replace p531 := eq_true p531; replace q531 := eq_true q531; have p22 : 0 ≤ (x4_1 : Int) := dq; have q22 : (x4_1 : Int) < ((x3_1.length : Int) : Int) := dq; obtain ⟨ce22, hcl22, hM22, hcc22, hfr22⟩ := Kd.xt HO_3.out z34 (x4_1 : Int) p22 q22; obtain rfl := qG hM22; have hx22_0 : w24.cell? ⟨go11, (x4_1 : Int).toNat * 9, none⟩ = some (.int .i64 ((za y529 x4_1).f0)) := hcc22 0 _ rfl; have hx22_1 : w24.cell? ⟨go11, (x4_1 : Int).toNat * 9 + 1, none⟩ = some (.int .i64 ((za y529 x4_1).f1)) := hcc22 1 _ rfl; have hx22_2 : w24.cell? ⟨go11, (x4_1 : Int).toNat * 9 + 2, none⟩ = some (.int .i64 ((za y529 x4_1).f2)) := hcc22 2 _ rfl; have hx22_3 : w24.cell? ⟨go11, (x4_1 : Int).toNat * 9 + 3, none⟩ = some (.int .i64 ((za y529 x4_1).f3)) := hcc22 3 _ rfl; have hx22_4 : w24.cell? ⟨go11, (x4_1 : Int).toNat * 9 + 4, none⟩ = some (.string ((za y529 x4_1).f4)) := hcc22 4 _ rfl; have hx22_5 : w24.cell? ⟨go11, (x4_1 : Int).toNat * 9 + 5, none⟩ = some (.int .u64 ((za y529 x4_1).f5.f0)) := hcc22 5 _ rfl; have hx22_6 : w24.cell? ⟨go11, (x4_1 : Int).toNat * 9 + 6, none⟩ = some (.int .u64 ((za y529 x4_1).f5.f1)) := hcc22 6 _ rfl; have hx22_7 : w24.cell? ⟨go11, (x4_1 : Int).toNat * 9 + 7, none⟩ = some (.int .u64 ((za y529 x4_1).f5.f2)) := hcc22 7 _ rfl; have hx22_8 : w24.cell? ⟨go11, (x4_1 : Int).toNat * 9 + 8, none⟩ = some (.int .u64 ((za y529 x4_1).f5.f3)) := hcc22 8 _ rfl; have hf22_0 : w24.frozen? ⟨go11, (x4_1 : Int).toNat * 9, none⟩ = false := hfr22 0; have hf22_1 : w24.frozen? ⟨go11, (x4_1 : Int).toNat * 9 + 1, none⟩ = false := hfr22 1; have hf22_2 : w24.frozen? ⟨go11, (x4_1 : Int).toNat * 9 + 2, none⟩ = false := hfr22 2; have hf22_3 : w24.frozen? ⟨go11, (x4_1 : Int).toNat * 9 + 3, none⟩ = false := hfr22 3; have hf22_4 : w24.frozen? ⟨go11, (x4_1 : Int).toNat * 9 + 4, none⟩ = false := hfr22 4; have hf22_5 : w24.frozen? ⟨go11, (x4_1 : Int).toNat * 9 + 5, none⟩ = false := hfr22 5; have hf22_6 : w24.frozen? ⟨go11, (x4_1 : Int).toNat * 9 + 6, none⟩ = false := hfr22 6; have hf22_7 : w24.frozen? ⟨go11, (x4_1 : Int).toNat * 9 + 7, none⟩ = false := hfr22 7; have hf22_8 : w24.frozen? ⟨go11, (x4_1 : Int).toNat * 9 + 8, none⟩ = false := hfr22 8; clear hcl22 hcc22 hfr22 hM22; replace p22 := eq_true p22; replace q22 := eq_true q22; have HX25 := zb.mk (show Kd.R k34 34 w24 w.heap.size (fun _ => True) (.slice (some ⟨go11, 0, none⟩) x3_1.length co11) y529 from (Kd.rx HO_3.out)); obtain ⟨ce25, hcl25, hM25, hcc25, hfr25⟩ := Kd.xt HX25.out z34 (x4_1 : Int) (dq) (by have h_ : (x4_1 : Int) < ((x3_1.length : Int) : Int) := dq; exact h_); obtain rfl := qG hM25; have HP25 := Kd.R_seg HX25.out (x4_1 : Int) (dq) (by have h_ : (x4_1 : Int) < ((x3_1.length : Int) : Int) := dq; exact h_) (seg := [.int .i64 ((za l0 t527).f0), .int .i64 0, .int .i64 0, .int .i64 0, .string (⟨#[]⟩ : ByteArray), .int .u64 0, .int .u64 0, .int .u64 0, .int .u64 0]) (j := 0) hcl25 hcc25 (show 9 ≤ 9 from by decide) (x' := (⟨(za l0 t527).f0, 0, 0, 0, (⟨#[]⟩ : ByteArray), (⟨0, 0, 0, 0⟩ : S32)⟩ : S34)) (xm _ _ _ (⟨(za l0 t527).f0, 0, 0, 0, (⟨#[]⟩ : ByteArray), (⟨0, 0, 0, 0⟩ : S32)⟩ : S34) ) (fun _ hk => hk); have hx25_0 := hcc25 0 _ rfl; (try simp only [show (k34).sz = 9 from rfl, Nat.mul_one, Nat.add_zero] at hx25_0); have hf25_0 := hfr25 0; (try simp only [show (k34).sz = 9 from rfl, Nat.mul_one, Nat.add_zero] at hf25_0); have hx25_1 := hcc25 1 _ rfl; (try simp only [show (k34).sz = 9 from rfl, Nat.mul_one, Nat.add_zero] at hx25_1); have hf25_1 := hfr25 1; (try simp only [show (k34).sz = 9 from rfl, Nat.mul_one, Nat.add_zero] at hf25_1); have hx25_2 := hcc25 2 _ rfl; (try simp only [show (k34).sz = 9 from rfl, Nat.mul_one, Nat.add_zero] at hx25_2); have hf25_2 := hfr25 2; (try simp only [show (k34).sz = 9 from rfl, Nat.mul_one, Nat.add_zero] at hf25_2); have hx25_3 := hcc25 3 _ rfl; (try simp only [show (k34).sz = 9 from rfl, Nat.mul_one, Nat.add_zero] at hx25_3); have hf25_3 := hfr25 3; (try simp only [show (k34).sz = 9 from rfl, Nat.mul_one, Nat.add_zero] at hf25_3); have hx25_4 := hcc25 4 _ rfl; (try simp only [show (k34).sz = 9 from rfl, Nat.mul_one, Nat.add_zero] at hx25_4); have hf25_4 := hfr25 4; (try simp only [show (k34).sz = 9 from rfl, Nat.mul_one, Nat.add_zero] at hf25_4); have hx25_5 := hcc25 5 _ rfl; (try simp only [show (k34).sz = 9 from rfl, Nat.mul_one, Nat.add_zero] at hx25_5); have hf25_5 := hfr25 5; (try simp only [show (k34).sz = 9 from rfl, Nat.mul_one, Nat.add_zero] at hf25_5); have hx25_6 := hcc25 6 _ rfl; (try simp only [show (k34).sz = 9 from rfl, Nat.mul_one, Nat.add_zero] at hx25_6); have hf25_6 := hfr25 6; (try simp only [show (k34).sz = 9 from rfl, Nat.mul_one, Nat.add_zero] at hf25_6); have hx25_7 := hcc25 7 _ rfl; (try simp only [show (k34).sz = 9 from rfl, Nat.mul_one, Nat.add_zero] at hx25_7); have hf25_7 := hfr25 7; (try simp only [show (k34).sz = 9 from rfl, Nat.mul_one, Nat.add_zero] at hf25_7); have hx25_8 := hcc25 8 _ rfl; (try simp only [show (k34).sz = 9 from rfl, Nat.mul_one, Nat.add_zero] at hx25_8); have hf25_8 := hfr25 8; (try simp only [show (k34).sz = 9 from rfl, Nat.mul_one, Nat.add_zero] at hf25_8); clear hcl25 hcc25 hfr25 hM25) | ((with_reducible refine zG (t := 34) (p := 69) rfl ?_); refine zy (t := 34) (p := 69) (v := ?vo_w26) (w1 := (((((((((w24.setCell ⟨go11, (x4_1 : Int).toNat * 9, none⟩ (.int .i64 ((za l0 t527).f0))).setCell ⟨go11, (x4_1 : Int).toNat * 9 + 1, none⟩ (.int .i64 0)).setCell ⟨go11, (x4_1 : Int).toNat * 9 + 2, none⟩ (.int .i64 0)).setCell ⟨go11, (x4_1 : Int).toNat * 9 + 3, none⟩ (.int .i64 0)).setCell ⟨go11, (x4_1 : Int).toNat * 9 + 4, none⟩ (.string (⟨#[]⟩ : ByteArray))).setCell ⟨go11, (x4_1 : Int).toNat * 9 + 5, none⟩ (.int .u64 0)).setCell ⟨go11, (x4_1 : Int).toNat * 9 + 6, none⟩ (.int .u64 0)).setCell ⟨go11, (x4_1 : Int).toNat * 9 + 7, none⟩ (.int .u64 0)).setCell ⟨go11, (x4_1 : Int).toNat * 9 + 8, none⟩ (.int .u64 0))) ?hg ?ho ?hn ?hr ?_; (case ho => rfl); (case hg => rfl); (case hn => rfl); (case hr => (go_simp; done)); intro w26 hw; have hg : w24.grownBy w26 (some go11) := (by rw [hw]; exact HP25.2); have hp_ : Kd.R k34 34 w26 w.heap.size (fun _ => True) (.slice (some ⟨go11, 0, none⟩) x3_1.length co11) y533 := (by rw [hw, Ny533.out]; exact HP25.1); clear HP25; replace HO_3 := zb.mk (hp_); replace HB := zb.mk ((by rw [hw]; exact zB (zB (zB (zB (zB (zB (zB (zB (zB (HB.out) GB11.out) GB11.out) GB11.out) GB11.out) GB11.out) GB11.out) GB11.out) GB11.out) GB11.out : Below w.heap.size w w26)); clear hg hw hp_))
         go_roundg k1
         case measure => have := HK1.out; omega
         case rel => exact ⟨(y533), (wrap64 (x4_1 + 1)), eq0, H', ⟨by have := HK1.out; omega⟩, ⟨Kd.rx HO_3.out⟩, ⟨bl HB.out⟩⟩
        ·rw [if_neg c21] at H
         have c21b0 := beq_eq_false_iff_ne.mpr c21
         have c21b1 := bne_iff_ne.mpr c21
         by_cases c27 : ((za l0 t527).f0) = 13
         ·rw [if_pos c27] at H
          have c27b0 := beq_iff_eq.mpr c27
          have c27b1 := bne_eq_false_iff_eq.mpr c27
          clear c27
          obtain ⟨y534, hy534⟩ : ∃ y_ : List (S34), y_ = (y529.set (x4_1 : Int).toNat (⟨(za l0 t527).f0, 0, 0, 0, (⟨#[]⟩ : ByteArray), (⟨0, 0, 0, 0⟩ : S32)⟩ : S34)) := ⟨_, rfl⟩
          replace H : (zv.l0 k1 l0 y534 (wrap64 (x4_1 + 1))) = some r := by (rw [hy534]; with_reducible exact H)
          have Ny534 := zb.mk hy534
          clear hy534
          have H' := zb.mk H
          clear H
          have p525 : 0 ≤ (x4_1 : Int) := dq
          have q525 : x4_1 < (l0.length : Int) := dq
          obtain ⟨ad525, e525, hx525_0, hx525_1, hx525_2, hx525_3, hx525_4, hx525_5, hx525_6, hx525_7, hx525_8⟩ := zO HR0.out x4_1 p525 q525
          cases e525
          replace hx525_0 := cb HB.out hx525_0
          replace hx525_1 := cb HB.out hx525_1
          replace hx525_2 := cb HB.out hx525_2
          replace hx525_3 := cb HB.out hx525_3
          replace hx525_4 := cb HB.out hx525_4
          replace hx525_5 := cb HB.out hx525_5
          replace hx525_6 := cb HB.out hx525_6
          replace hx525_7 := cb HB.out hx525_7
          replace hx525_8 := cb HB.out hx525_8
          replace p525 := eq_true p525
          replace q525 := eq_true q525
          go_wp2_with (first | ((with_reducible refine zd (f := 19) rfl ?_); refine zl (some 21) rfl rfl Tryd.func19 (by kernel_rfl) rfl #[.int .i64 ((za l0 x4_1).f0)] rfl hq ?_; (with_reducible refine (zs.calls ((za l0 x4_1).f0) true _ ?side1 A6.out).mono ?_); (case side1 => exact gb HG HB); rintro e w' ⟨rfl, ⟨nd, rfl⟩⟩; refine ⟨_, rfl, ?_⟩; (try (rw [xc wr]; generalize hq_ : World.drewN wr _ = wr; replace HO_3 : zb (Kd.R k34 34 wr w.heap.size (fun _ => True) v523 x3_1) := ⟨by rw [← hq_]; exact (Kd.rx HO_3.out)⟩; replace HB : zb (Below w.heap.size w wr) := ⟨by rw [← hq_]; exact (bl HB.out)⟩; clear hq_))) | ((with_reducible refine zd (f := 56) rfl ?_); refine zl (some 26) rfl rfl Tryd.func56 (by kernel_rfl) rfl #[.slice (some ad525) l0.length c0, .int .i64 x4_1] rfl hq ?_; (with_reducible refine (qf.calls k1 _ _ l0 x4_1 t527 true _ ?side3 ?side1 ?side2 A8.out).mono ?_); (case side1 => exact Kd.cx (Kd.qe HR0.out HB.out)); (case side2 => exact HC0.out); (case side3 => exact gb HG HB); rintro e w' ⟨rfl, ⟨nd, rfl⟩⟩; refine ⟨_, rfl, ?_⟩; (try (rw [xc wr]; generalize hq_ : World.drewN wr _ = wr; replace HO_3 : zb (Kd.R k34 34 wr w.heap.size (fun _ => True) v523 x3_1) := ⟨by rw [← hq_]; exact (Kd.rx HO_3.out)⟩; replace HB : zb (Below w.heap.size w wr) := ⟨by rw [← hq_]; exact (bl HB.out)⟩; clear hq_)); have p11 : 0 ≤ (x4_1 : Int) := dq; have q11 : (x4_1 : Int) < ((x3_1.length : Int) : Int) := dq; obtain ⟨go11, co11, eo11, gb11, gl11, cl11, HG11⟩ := Kd.xJ HO_3.out (by omega); (cases eo11); have GB11 := zb.mk gb11; have GG11 := zb.mk HG11; clear gb11 gl11 HG11; obtain ⟨ce11, hcl11, hM11, hcc11, hfr11⟩ := Kd.xt HO_3.out z34 (x4_1 : Int) p11 q11; obtain rfl := qG hM11; have hx11_0 : wr.cell? ⟨go11, (x4_1 : Int).toNat * 9, none⟩ = some (.int .i64 ((za x3_1 x4_1).f0)) := hcc11 0 _ rfl; have hx11_1 : wr.cell? ⟨go11, (x4_1 : Int).toNat * 9 + 1, none⟩ = some (.int .i64 ((za x3_1 x4_1).f1)) := hcc11 1 _ rfl; have hx11_2 : wr.cell? ⟨go11, (x4_1 : Int).toNat * 9 + 2, none⟩ = some (.int .i64 ((za x3_1 x4_1).f2)) := hcc11 2 _ rfl; have hx11_3 : wr.cell? ⟨go11, (x4_1 : Int).toNat * 9 + 3, none⟩ = some (.int .i64 ((za x3_1 x4_1).f3)) := hcc11 3 _ rfl; have hx11_4 : wr.cell? ⟨go11, (x4_1 : Int).toNat * 9 + 4, none⟩ = some (.string ((za x3_1 x4_1).f4)) := hcc11 4 _ rfl; have hx11_5 : wr.cell? ⟨go11, (x4_1 : Int).toNat * 9 + 5, none⟩ = some (.int .u64 ((za x3_1 x4_1).f5.f0)) := hcc11 5 _ rfl; have hx11_6 : wr.cell? ⟨go11, (x4_1 : Int).toNat * 9 + 6, none⟩ = some (.int .u64 ((za x3_1 x4_1).f5.f1)) := hcc11 6 _ rfl; have hx11_7 : wr.cell? ⟨go11, (x4_1 : Int).toNat * 9 + 7, none⟩ = some (.int .u64 ((za x3_1 x4_1).f5.f2)) := hcc11 7 _ rfl; have hx11_8 : wr.cell? ⟨go11, (x4_1 : Int).toNat * 9 + 8, none⟩ = some (.int .u64 ((za x3_1 x4_1).f5.f3)) := hcc11 8 _ rfl; have hf11_0 : wr.frozen? ⟨go11, (x4_1 : Int).toNat * 9, none⟩ = false := hfr11 0; have hf11_1 : wr.frozen? ⟨go11, (x4_1 : Int).toNat * 9 + 1, none⟩ = false := hfr11 1; have hf11_2 : wr.frozen? ⟨go11, (x4_1 : Int).toNat * 9 + 2, none⟩ = false := hfr11 2; have hf11_3 : wr.frozen? ⟨go11, (x4_1 : Int).toNat * 9 + 3, none⟩ = false := hfr11 3; have hf11_4 : wr.frozen? ⟨go11, (x4_1 : Int).toNat * 9 + 4, none⟩ = false := hfr11 4; have hf11_5 : wr.frozen? ⟨go11, (x4_1 : Int).toNat * 9 + 5, none⟩ = false := hfr11 5; have hf11_6 : wr.frozen? ⟨go11, (x4_1 : Int).toNat * 9 + 6, none⟩ = false := hfr11 6; have hf11_7 : wr.frozen? ⟨go11, (x4_1 : Int).toNat * 9 + 7, none⟩ = false := hfr11 7; have hf11_8 : wr.frozen? ⟨go11, (x4_1 : Int).toNat * 9 + 8, none⟩ = false := hfr11 8; clear hcl11 hcc11 hfr11 hM11; replace p11 := eq_true p11; replace q11 := eq_true q11; have HX29 := zb.mk (show Kd.R k34 34 wr w.heap.size (fun _ => True) (.slice (some ⟨go11, 0, none⟩) x3_1.length co11) x3_1 from (Kd.rx HO_3.out)); obtain ⟨ce29, hcl29, hM29, hcc29, hfr29⟩ := Kd.xt HX29.out z34 (x4_1 : Int) (dq) (by have h_ : (x4_1 : Int) < ((x3_1.length : Int) : Int) := dq; exact h_); obtain rfl := qG hM29; have HP29 := Kd.R_seg HX29.out (x4_1 : Int) (dq) (by have h_ : (x4_1 : Int) < ((x3_1.length : Int) : Int) := dq; exact h_) (seg := [.int .i64 (wrap64 (t527 - x4_1))]) (j := 1) hcl29 hcc29 (show 2 ≤ 9 from by decide) (x' := (⟨(za x3_1 x4_1).f0, wrap64 (t527 - x4_1), (za x3_1 x4_1).f2, (za x3_1 x4_1).f3, (za x3_1 x4_1).f4, (⟨(za x3_1 x4_1).f5.f0, (za x3_1 x4_1).f5.f1, (za x3_1 x4_1).f5.f2, (za x3_1 x4_1).f5.f3⟩ : S32)⟩ : S34)) (xm _ _ _ (⟨(za x3_1 x4_1).f0, wrap64 (t527 - x4_1), (za x3_1 x4_1).f2, (za x3_1 x4_1).f3, (za x3_1 x4_1).f4, (⟨(za x3_1 x4_1).f5.f0, (za x3_1 x4_1).f5.f1, (za x3_1 x4_1).f5.f2, (za x3_1 x4_1).f5.f3⟩ : S32)⟩ : S34) ) (fun _ hk => hk); have hx29_1 := hcc29 1 _ rfl; (try simp only [show (k34).sz = 9 from rfl, Nat.mul_one, Nat.add_zero] at hx29_1); have hf29_1 := hfr29 1; (try simp only [show (k34).sz = 9 from rfl, Nat.mul_one, Nat.add_zero] at hf29_1); clear hcl29 hcc29 hfr29 hM29) | ((with_reducible refine zG (t := 3) (p := 37) rfl ?_); refine zy (t := 3) (p := 37) (v := ?vo_w30) (w1 := (wr.setCell ⟨go11, (x4_1 : Int).toNat * 9 + 1, none⟩ (.int .i64 (wrap64 (t527 - x4_1))))) ?hg ?ho ?hn ?hr ?_; (case ho => rfl); (case hg => rfl); (case hn => rfl); (case hr => (go_simp; done)); intro w30 hw; have hg : wr.grownBy w30 (some go11) := (by rw [hw]; exact HP29.2); have hp_ : Kd.R k34 34 w30 w.heap.size (fun _ => True) (.slice (some ⟨go11, 0, none⟩) x3_1.length co11) y529 := (by rw [hw, Ny529.out]; exact HP29.1); clear HP29; replace HO_3 := zb.mk (hp_); replace HB := zb.mk ((by rw [hw]; exact zB (HB.out) GB11.out : Below w.heap.size w w30)); clear hg hw hp_; have p530 : 0 ≤ (t527 : Int) := dq; have q530 : t527 < (l0.length : Int) := dq; obtain ⟨ad530, e530, hx530_0, hx530_1, hx530_2, hx530_3, hx530_4, hx530_5, hx530_6, hx530_7, hx530_8⟩ := zO (Kd.qe HR0.out HB.out) t527 p530 q530; obtain rfl : ad525 = ad530 := (by injection e530); replace p530 := eq_true p530; replace q530 := eq_true q530; have p531 : 0 ≤ (x4_1 : Int) := dq; have q531 : x4_1 < (l0.length : Int) := dq; obtain ⟨ad531, e531, hx531_0, hx531_1, hx531_2, hx531_3, hx531_4, hx531_5, hx531_6, hx531_7, hx531_8⟩ := zO (Kd.qe HR0.out HB.out) x4_1 p531 q531; obtain rfl : ad525 = ad531 := (by injection e531); replace p531 := eq_true p531; replace q531 := eq_true q531; have p28 : 0 ≤ (x4_1 : Int) := dq; have q28 : (x4_1 : Int) < ((x3_1.length : Int) : Int) := dq; obtain ⟨ce28, hcl28, hM28, hcc28, hfr28⟩ := Kd.xt HO_3.out z34 (x4_1 : Int) p28 q28; obtain rfl := qG hM28; have hx28_0 : w30.cell? ⟨go11, (x4_1 : Int).toNat * 9, none⟩ = some (.int .i64 ((za y529 x4_1).f0)) := hcc28 0 _ rfl; have hx28_1 : w30.cell? ⟨go11, (x4_1 : Int).toNat * 9 + 1, none⟩ = some (.int .i64 ((za y529 x4_1).f1)) := hcc28 1 _ rfl; have hx28_2 : w30.cell? ⟨go11, (x4_1 : Int).toNat * 9 + 2, none⟩ = some (.int .i64 ((za y529 x4_1).f2)) := hcc28 2 _ rfl; have hx28_3 : w30.cell? ⟨go11, (x4_1 : Int).toNat * 9 + 3, none⟩ = some (.int .i64 ((za y529 x4_1).f3)) := hcc28 3 _ rfl; have hx28_4 : w30.cell? ⟨go11, (x4_1 : Int).toNat * 9 + 4, none⟩ = some (.string ((za y529 x4_1).f4)) := hcc28 4 _ rfl; have hx28_5 : w30.cell? ⟨go11, (x4_1 : Int).toNat * 9 + 5, none⟩ = some (.int .u64 ((za y529 x4_1).f5.f0)) := hcc28 5 _ rfl; have hx28_6 : w30.cell? ⟨go11, (x4_1 : Int).toNat * 9 + 6, none⟩ = some (.int .u64 ((za y529 x4_1).f5.f1)) := hcc28 6 _ rfl; have hx28_7 : w30.cell? ⟨go11, (x4_1 : Int).toNat * 9 + 7, none⟩ = some (.int .u64 ((za y529 x4_1).f5.f2)) := hcc28 7 _ rfl; have hx28_8 : w30.cell? ⟨go11, (x4_1 : Int).toNat * 9 + 8, none⟩ = some (.int .u64 ((za y529 x4_1).f5.f3)) := hcc28 8 _ rfl; have hf28_0 : w30.frozen? ⟨go11, (x4_1 : Int).toNat * 9, none⟩ = false := hfr28 0; have hf28_1 : w30.frozen? ⟨go11, (x4_1 : Int).toNat * 9 + 1, none⟩ = false := hfr28 1; have hf28_2 : w30.frozen? ⟨go11, (x4_1 : Int).toNat * 9 + 2, none⟩ = false := hfr28 2; have hf28_3 : w30.frozen? ⟨go11, (x4_1 : Int).toNat * 9 + 3, none⟩ = false := hfr28 3; have hf28_4 : w30.frozen? ⟨go11, (x4_1 : Int).toNat * 9 + 4, none⟩ = false := hfr28 4; have hf28_5 : w30.frozen? ⟨go11, (x4_1 : Int).toNat * 9 + 5, none⟩ = false := hfr28 5; have hf28_6 : w30.frozen? ⟨go11, (x4_1 : Int).toNat * 9 + 6, none⟩ = false := hfr28 6; have hf28_7 : w30.frozen? ⟨go11, (x4_1 : Int).toNat * 9 + 7, none⟩ = false := hfr28 7; have hf28_8 : w30.frozen? ⟨go11, (x4_1 : Int).toNat * 9 + 8, none⟩ = false := hfr28 8; clear hcl28 hcc28 hfr28 hM28; replace p28 := eq_true p28; replace q28 := eq_true q28; have HX31 := zb.mk (show Kd.R k34 34 w30 w.heap.size (fun _ => True) (.slice (some ⟨go11, 0, none⟩) x3_1.length co11) y529 from (Kd.rx HO_3.out)); obtain ⟨ce31, hcl31, hM31, hcc31, hfr31⟩ := Kd.xt HX31.out z34 (x4_1 : Int) (dq) (by have h_ : (x4_1 : Int) < ((x3_1.length : Int) : Int) := dq; exact h_); obtain rfl := qG hM31; have HP31 := Kd.R_seg HX31.out (x4_1 : Int) (dq) (by have h_ : (x4_1 : Int) < ((x3_1.length : Int) : Int) := dq; exact h_) (seg := [.int .i64 ((za l0 t527).f0), .int .i64 0, .int .i64 0, .int .i64 0, .string (⟨#[]⟩ : ByteArray), .int .u64 0, .int .u64 0, .int .u64 0, .int .u64 0]) (j := 0) hcl31 hcc31 (show 9 ≤ 9 from by decide) (x' := (⟨(za l0 t527).f0, 0, 0, 0, (⟨#[]⟩ : ByteArray), (⟨0, 0, 0, 0⟩ : S32)⟩ : S34)) (xm _ _ _ (⟨(za l0 t527).f0, 0, 0, 0, (⟨#[]⟩ : ByteArray), (⟨0, 0, 0, 0⟩ : S32)⟩ : S34) ) (fun _ hk => hk); have hx31_0 := hcc31 0 _ rfl; (try simp only [show (k34).sz = 9 from rfl, Nat.mul_one, Nat.add_zero] at hx31_0); have hf31_0 := hfr31 0; (try simp only [show (k34).sz = 9 from rfl, Nat.mul_one, Nat.add_zero] at hf31_0); have hx31_1 := hcc31 1 _ rfl; (try simp only [show (k34).sz = 9 from rfl, Nat.mul_one, Nat.add_zero] at hx31_1); have hf31_1 := hfr31 1; (try simp only [show (k34).sz = 9 from rfl, Nat.mul_one, Nat.add_zero] at hf31_1); have hx31_2 := hcc31 2 _ rfl; (try simp only [show (k34).sz = 9 from rfl, Nat.mul_one, Nat.add_zero] at hx31_2); have hf31_2 := hfr31 2; (try simp only [show (k34).sz = 9 from rfl, Nat.mul_one, Nat.add_zero] at hf31_2); have hx31_3 := hcc31 3 _ rfl; (try simp only [show (k34).sz = 9 from rfl, Nat.mul_one, Nat.add_zero] at hx31_3); have hf31_3 := hfr31 3; (try simp only [show (k34).sz = 9 from rfl, Nat.mul_one, Nat.add_zero] at hf31_3); have hx31_4 := hcc31 4 _ rfl; (try simp only [show (k34).sz = 9 from rfl, Nat.mul_one, Nat.add_zero] at hx31_4); have hf31_4 := hfr31 4; (try simp only [show (k34).sz = 9 from rfl, Nat.mul_one, Nat.add_zero] at hf31_4); have hx31_5 := hcc31 5 _ rfl; (try simp only [show (k34).sz = 9 from rfl, Nat.mul_one, Nat.add_zero] at hx31_5); have hf31_5 := hfr31 5; (try simp only [show (k34).sz = 9 from rfl, Nat.mul_one, Nat.add_zero] at hf31_5); have hx31_6 := hcc31 6 _ rfl; (try simp only [show (k34).sz = 9 from rfl, Nat.mul_one, Nat.add_zero] at hx31_6); have hf31_6 := hfr31 6; (try simp only [show (k34).sz = 9 from rfl, Nat.mul_one, Nat.add_zero] at hf31_6); have hx31_7 := hcc31 7 _ rfl; (try simp only [show (k34).sz = 9 from rfl, Nat.mul_one, Nat.add_zero] at hx31_7); have hf31_7 := hfr31 7; (try simp only [show (k34).sz = 9 from rfl, Nat.mul_one, Nat.add_zero] at hf31_7); have hx31_8 := hcc31 8 _ rfl; (try simp only [show (k34).sz = 9 from rfl, Nat.mul_one, Nat.add_zero] at hx31_8); have hf31_8 := hfr31 8; (try simp only [show (k34).sz = 9 from rfl, Nat.mul_one, Nat.add_zero] at hf31_8); clear hcl31 hcc31 hfr31 hM31) | ((with_reducible refine zG (t := 34) (p := 69) rfl ?_); refine zy (t := 34) (p := 69) (v := ?vo_w32) (w1 := (((((((((w30.setCell ⟨go11, (x4_1 : Int).toNat * 9, none⟩ (.int .i64 ((za l0 t527).f0))).setCell ⟨go11, (x4_1 : Int).toNat * 9 + 1, none⟩ (.int .i64 0)).setCell ⟨go11, (x4_1 : Int).toNat * 9 + 2, none⟩ (.int .i64 0)).setCell ⟨go11, (x4_1 : Int).toNat * 9 + 3, none⟩ (.int .i64 0)).setCell ⟨go11, (x4_1 : Int).toNat * 9 + 4, none⟩ (.string (⟨#[]⟩ : ByteArray))).setCell ⟨go11, (x4_1 : Int).toNat * 9 + 5, none⟩ (.int .u64 0)).setCell ⟨go11, (x4_1 : Int).toNat * 9 + 6, none⟩ (.int .u64 0)).setCell ⟨go11, (x4_1 : Int).toNat * 9 + 7, none⟩ (.int .u64 0)).setCell ⟨go11, (x4_1 : Int).toNat * 9 + 8, none⟩ (.int .u64 0))) ?hg ?ho ?hn ?hr ?_; (case ho => rfl); (case hg => rfl); (case hn => rfl); (case hr => (go_simp; done)); intro w32 hw; have hg : w30.grownBy w32 (some go11) := (by rw [hw]; exact HP31.2); have hp_ : Kd.R k34 34 w32 w.heap.size (fun _ => True) (.slice (some ⟨go11, 0, none⟩) x3_1.length co11) y534 := (by rw [hw, Ny534.out]; exact HP31.1); clear HP31; replace HO_3 := zb.mk (hp_); replace HB := zb.mk ((by rw [hw]; exact zB (zB (zB (zB (zB (zB (zB (zB (zB (HB.out) GB11.out) GB11.out) GB11.out) GB11.out) GB11.out) GB11.out) GB11.out) GB11.out) GB11.out : Below w.heap.size w w32)); clear hg hw hp_))
          go_roundg k1
          case measure => have := HK1.out; omega
          case rel => exact ⟨(y534), (wrap64 (x4_1 + 1)), eq0, H', ⟨by have := HK1.out; omega⟩, ⟨Kd.rx HO_3.out⟩, ⟨bl HB.out⟩⟩
         ·rw [if_neg c27] at H
          have c27b0 := beq_eq_false_iff_ne.mpr c27
          have c27b1 := bne_iff_ne.mpr c27
          by_cases c33 : ((za l0 t527).f0) = 12
          ·rw [if_pos c33] at H
           have c33b0 := beq_iff_eq.mpr c33
           have c33b1 := bne_eq_false_iff_eq.mpr c33
           clear c33
           obtain ⟨y535, hy535⟩ : ∃ y_ : List (S34), y_ = (y529.set (x4_1 : Int).toNat (⟨(za l0 t527).f0, 0, 0, 0, (⟨#[]⟩ : ByteArray), (⟨0, 0, 0, 0⟩ : S32)⟩ : S34)) := ⟨_, rfl⟩
           replace H : (zv.l0 k1 l0 y535 (wrap64 (x4_1 + 1))) = some r := by (rw [hy535]; with_reducible exact H)
           have Ny535 := zb.mk hy535
           clear hy535
           have H' := zb.mk H
           clear H
           have p525 : 0 ≤ (x4_1 : Int) := dq
           have q525 : x4_1 < (l0.length : Int) := dq
           obtain ⟨ad525, e525, hx525_0, hx525_1, hx525_2, hx525_3, hx525_4, hx525_5, hx525_6, hx525_7, hx525_8⟩ := zO HR0.out x4_1 p525 q525
           cases e525
           replace hx525_0 := cb HB.out hx525_0
           replace hx525_1 := cb HB.out hx525_1
           replace hx525_2 := cb HB.out hx525_2
           replace hx525_3 := cb HB.out hx525_3
           replace hx525_4 := cb HB.out hx525_4
           replace hx525_5 := cb HB.out hx525_5
           replace hx525_6 := cb HB.out hx525_6
           replace hx525_7 := cb HB.out hx525_7
           replace hx525_8 := cb HB.out hx525_8
           replace p525 := eq_true p525
           replace q525 := eq_true q525
           go_wp2_with (first | ((with_reducible refine zd (f := 19) rfl ?_); refine zl (some 21) rfl rfl Tryd.func19 (by kernel_rfl) rfl #[.int .i64 ((za l0 x4_1).f0)] rfl hq ?_; (with_reducible refine (zs.calls ((za l0 x4_1).f0) true _ ?side1 A6.out).mono ?_); (case side1 => exact gb HG HB); rintro e w' ⟨rfl, ⟨nd, rfl⟩⟩; refine ⟨_, rfl, ?_⟩; (try (rw [xc wr]; generalize hq_ : World.drewN wr _ = wr; replace HO_3 : zb (Kd.R k34 34 wr w.heap.size (fun _ => True) v523 x3_1) := ⟨by rw [← hq_]; exact (Kd.rx HO_3.out)⟩; replace HB : zb (Below w.heap.size w wr) := ⟨by rw [← hq_]; exact (bl HB.out)⟩; clear hq_))) | ((with_reducible refine zd (f := 56) rfl ?_); refine zl (some 26) rfl rfl Tryd.func56 (by kernel_rfl) rfl #[.slice (some ad525) l0.length c0, .int .i64 x4_1] rfl hq ?_; (with_reducible refine (qf.calls k1 _ _ l0 x4_1 t527 true _ ?side3 ?side1 ?side2 A8.out).mono ?_); (case side1 => exact Kd.cx (Kd.qe HR0.out HB.out)); (case side2 => exact HC0.out); (case side3 => exact gb HG HB); rintro e w' ⟨rfl, ⟨nd, rfl⟩⟩; refine ⟨_, rfl, ?_⟩; (try (rw [xc wr]; generalize hq_ : World.drewN wr _ = wr; replace HO_3 : zb (Kd.R k34 34 wr w.heap.size (fun _ => True) v523 x3_1) := ⟨by rw [← hq_]; exact (Kd.rx HO_3.out)⟩; replace HB : zb (Below w.heap.size w wr) := ⟨by rw [← hq_]; exact (bl HB.out)⟩; clear hq_)); have p11 : 0 ≤ (x4_1 : Int) := dq; have q11 : (x4_1 : Int) < ((x3_1.length : Int) : Int) := dq; obtain ⟨go11, co11, eo11, gb11, gl11, cl11, HG11⟩ := Kd.xJ HO_3.out (by omega); (cases eo11); have GB11 := zb.mk gb11; have GG11 := zb.mk HG11; clear gb11 gl11 HG11; obtain ⟨ce11, hcl11, hM11, hcc11, hfr11⟩ := Kd.xt HO_3.out z34 (x4_1 : Int) p11 q11; obtain rfl := qG hM11; have hx11_0 : wr.cell? ⟨go11, (x4_1 : Int).toNat * 9, none⟩ = some (.int .i64 ((za x3_1 x4_1).f0)) := hcc11 0 _ rfl; have hx11_1 : wr.cell? ⟨go11, (x4_1 : Int).toNat * 9 + 1, none⟩ = some (.int .i64 ((za x3_1 x4_1).f1)) := hcc11 1 _ rfl; have hx11_2 : wr.cell? ⟨go11, (x4_1 : Int).toNat * 9 + 2, none⟩ = some (.int .i64 ((za x3_1 x4_1).f2)) := hcc11 2 _ rfl; have hx11_3 : wr.cell? ⟨go11, (x4_1 : Int).toNat * 9 + 3, none⟩ = some (.int .i64 ((za x3_1 x4_1).f3)) := hcc11 3 _ rfl; have hx11_4 : wr.cell? ⟨go11, (x4_1 : Int).toNat * 9 + 4, none⟩ = some (.string ((za x3_1 x4_1).f4)) := hcc11 4 _ rfl; have hx11_5 : wr.cell? ⟨go11, (x4_1 : Int).toNat * 9 + 5, none⟩ = some (.int .u64 ((za x3_1 x4_1).f5.f0)) := hcc11 5 _ rfl; have hx11_6 : wr.cell? ⟨go11, (x4_1 : Int).toNat * 9 + 6, none⟩ = some (.int .u64 ((za x3_1 x4_1).f5.f1)) := hcc11 6 _ rfl; have hx11_7 : wr.cell? ⟨go11, (x4_1 : Int).toNat * 9 + 7, none⟩ = some (.int .u64 ((za x3_1 x4_1).f5.f2)) := hcc11 7 _ rfl; have hx11_8 : wr.cell? ⟨go11, (x4_1 : Int).toNat * 9 + 8, none⟩ = some (.int .u64 ((za x3_1 x4_1).f5.f3)) := hcc11 8 _ rfl; have hf11_0 : wr.frozen? ⟨go11, (x4_1 : Int).toNat * 9, none⟩ = false := hfr11 0; have hf11_1 : wr.frozen? ⟨go11, (x4_1 : Int).toNat * 9 + 1, none⟩ = false := hfr11 1; have hf11_2 : wr.frozen? ⟨go11, (x4_1 : Int).toNat * 9 + 2, none⟩ = false := hfr11 2; have hf11_3 : wr.frozen? ⟨go11, (x4_1 : Int).toNat * 9 + 3, none⟩ = false := hfr11 3; have hf11_4 : wr.frozen? ⟨go11, (x4_1 : Int).toNat * 9 + 4, none⟩ = false := hfr11 4; have hf11_5 : wr.frozen? ⟨go11, (x4_1 : Int).toNat * 9 + 5, none⟩ = false := hfr11 5; have hf11_6 : wr.frozen? ⟨go11, (x4_1 : Int).toNat * 9 + 6, none⟩ = false := hfr11 6; have hf11_7 : wr.frozen? ⟨go11, (x4_1 : Int).toNat * 9 + 7, none⟩ = false := hfr11 7; have hf11_8 : wr.frozen? ⟨go11, (x4_1 : Int).toNat * 9 + 8, none⟩ = false := hfr11 8; clear hcl11 hcc11 hfr11 hM11; replace p11 := eq_true p11; replace q11 := eq_true q11; have HX35 := zb.mk (show Kd.R k34 34 wr w.heap.size (fun _ => True) (.slice (some ⟨go11, 0, none⟩) x3_1.length co11) x3_1 from (Kd.rx HO_3.out)); obtain ⟨ce35, hcl35, hM35, hcc35, hfr35⟩ := Kd.xt HX35.out z34 (x4_1 : Int) (dq) (by have h_ : (x4_1 : Int) < ((x3_1.length : Int) : Int) := dq; exact h_); obtain rfl := qG hM35; have HP35 := Kd.R_seg HX35.out (x4_1 : Int) (dq) (by have h_ : (x4_1 : Int) < ((x3_1.length : Int) : Int) := dq; exact h_) (seg := [.int .i64 (wrap64 (t527 - x4_1))]) (j := 1) hcl35 hcc35 (show 2 ≤ 9 from by decide) (x' := (⟨(za x3_1 x4_1).f0, wrap64 (t527 - x4_1), (za x3_1 x4_1).f2, (za x3_1 x4_1).f3, (za x3_1 x4_1).f4, (⟨(za x3_1 x4_1).f5.f0, (za x3_1 x4_1).f5.f1, (za x3_1 x4_1).f5.f2, (za x3_1 x4_1).f5.f3⟩ : S32)⟩ : S34)) (xm _ _ _ (⟨(za x3_1 x4_1).f0, wrap64 (t527 - x4_1), (za x3_1 x4_1).f2, (za x3_1 x4_1).f3, (za x3_1 x4_1).f4, (⟨(za x3_1 x4_1).f5.f0, (za x3_1 x4_1).f5.f1, (za x3_1 x4_1).f5.f2, (za x3_1 x4_1).f5.f3⟩ : S32)⟩ : S34) ) (fun _ hk => hk); have hx35_1 := hcc35 1 _ rfl; (try simp only [show (k34).sz = 9 from rfl, Nat.mul_one, Nat.add_zero] at hx35_1); have hf35_1 := hfr35 1; (try simp only [show (k34).sz = 9 from rfl, Nat.mul_one, Nat.add_zero] at hf35_1); clear hcl35 hcc35 hfr35 hM35) | ((with_reducible refine zG (t := 3) (p := 37) rfl ?_); refine zy (t := 3) (p := 37) (v := ?vo_w36) (w1 := (wr.setCell ⟨go11, (x4_1 : Int).toNat * 9 + 1, none⟩ (.int .i64 (wrap64 (t527 - x4_1))))) ?hg ?ho ?hn ?hr ?_; (case ho => rfl); (case hg => rfl); (case hn => rfl); (case hr => (go_simp; done)); intro w36 hw; have hg : wr.grownBy w36 (some go11) := (by rw [hw]; exact HP35.2); have hp_ : Kd.R k34 34 w36 w.heap.size (fun _ => True) (.slice (some ⟨go11, 0, none⟩) x3_1.length co11) y529 := (by rw [hw, Ny529.out]; exact HP35.1); clear HP35; replace HO_3 := zb.mk (hp_); replace HB := zb.mk ((by rw [hw]; exact zB (HB.out) GB11.out : Below w.heap.size w w36)); clear hg hw hp_; have p530 : 0 ≤ (t527 : Int) := dq; have q530 : t527 < (l0.length : Int) := dq; obtain ⟨ad530, e530, hx530_0, hx530_1, hx530_2, hx530_3, hx530_4, hx530_5, hx530_6, hx530_7, hx530_8⟩ := zO (Kd.qe HR0.out HB.out) t527 p530 q530; obtain rfl : ad525 = ad530 := (by injection e530); replace p530 := eq_true p530; replace q530 := eq_true q530; have p531 : 0 ≤ (x4_1 : Int) := dq; have q531 : x4_1 < (l0.length : Int) := dq; obtain ⟨ad531, e531, hx531_0, hx531_1, hx531_2, hx531_3, hx531_4, hx531_5, hx531_6, hx531_7, hx531_8⟩ := zO (Kd.qe HR0.out HB.out) x4_1 p531 q531; obtain rfl : ad525 = ad531 := (by injection e531); replace p531 := eq_true p531; replace q531 := eq_true q531; have p34 : 0 ≤ (x4_1 : Int) := dq; have q34 : (x4_1 : Int) < ((x3_1.length : Int) : Int) := dq; obtain ⟨ce34, hcl34, hM34, hcc34, hfr34⟩ := Kd.xt HO_3.out z34 (x4_1 : Int) p34 q34; obtain rfl := qG hM34; have hx34_0 : w36.cell? ⟨go11, (x4_1 : Int).toNat * 9, none⟩ = some (.int .i64 ((za y529 x4_1).f0)) := hcc34 0 _ rfl; have hx34_1 : w36.cell? ⟨go11, (x4_1 : Int).toNat * 9 + 1, none⟩ = some (.int .i64 ((za y529 x4_1).f1)) := hcc34 1 _ rfl; have hx34_2 : w36.cell? ⟨go11, (x4_1 : Int).toNat * 9 + 2, none⟩ = some (.int .i64 ((za y529 x4_1).f2)) := hcc34 2 _ rfl; have hx34_3 : w36.cell? ⟨go11, (x4_1 : Int).toNat * 9 + 3, none⟩ = some (.int .i64 ((za y529 x4_1).f3)) := hcc34 3 _ rfl; have hx34_4 : w36.cell? ⟨go11, (x4_1 : Int).toNat * 9 + 4, none⟩ = some (.string ((za y529 x4_1).f4)) := hcc34 4 _ rfl; have hx34_5 : w36.cell? ⟨go11, (x4_1 : Int).toNat * 9 + 5, none⟩ = some (.int .u64 ((za y529 x4_1).f5.f0)) := hcc34 5 _ rfl; have hx34_6 : w36.cell? ⟨go11, (x4_1 : Int).toNat * 9 + 6, none⟩ = some (.int .u64 ((za y529 x4_1).f5.f1)) := hcc34 6 _ rfl; have hx34_7 : w36.cell? ⟨go11, (x4_1 : Int).toNat * 9 + 7, none⟩ = some (.int .u64 ((za y529 x4_1).f5.f2)) := hcc34 7 _ rfl; have hx34_8 : w36.cell? ⟨go11, (x4_1 : Int).toNat * 9 + 8, none⟩ = some (.int .u64 ((za y529 x4_1).f5.f3)) := hcc34 8 _ rfl; have hf34_0 : w36.frozen? ⟨go11, (x4_1 : Int).toNat * 9, none⟩ = false := hfr34 0; have hf34_1 : w36.frozen? ⟨go11, (x4_1 : Int).toNat * 9 + 1, none⟩ = false := hfr34 1; have hf34_2 : w36.frozen? ⟨go11, (x4_1 : Int).toNat * 9 + 2, none⟩ = false := hfr34 2; have hf34_3 : w36.frozen? ⟨go11, (x4_1 : Int).toNat * 9 + 3, none⟩ = false := hfr34 3; have hf34_4 : w36.frozen? ⟨go11, (x4_1 : Int).toNat * 9 + 4, none⟩ = false := hfr34 4; have hf34_5 : w36.frozen? ⟨go11, (x4_1 : Int).toNat * 9 + 5, none⟩ = false := hfr34 5; have hf34_6 : w36.frozen? ⟨go11, (x4_1 : Int).toNat * 9 + 6, none⟩ = false := hfr34 6; have hf34_7 : w36.frozen? ⟨go11, (x4_1 : Int).toNat * 9 + 7, none⟩ = false := hfr34 7; have hf34_8 : w36.frozen? ⟨go11, (x4_1 : Int).toNat * 9 + 8, none⟩ = false := hfr34 8; clear hcl34 hcc34 hfr34 hM34; replace p34 := eq_true p34; replace q34 := eq_true q34; have HX37 := zb.mk (show Kd.R k34 34 w36 w.heap.size (fun _ => True) (.slice (some ⟨go11, 0, none⟩) x3_1.length co11) y529 from (Kd.rx HO_3.out)); obtain ⟨ce37, hcl37, hM37, hcc37, hfr37⟩ := Kd.xt HX37.out z34 (x4_1 : Int) (dq) (by have h_ : (x4_1 : Int) < ((x3_1.length : Int) : Int) := dq; exact h_); obtain rfl := qG hM37; have HP37 := Kd.R_seg HX37.out (x4_1 : Int) (dq) (by have h_ : (x4_1 : Int) < ((x3_1.length : Int) : Int) := dq; exact h_) (seg := [.int .i64 ((za l0 t527).f0), .int .i64 0, .int .i64 0, .int .i64 0, .string (⟨#[]⟩ : ByteArray), .int .u64 0, .int .u64 0, .int .u64 0, .int .u64 0]) (j := 0) hcl37 hcc37 (show 9 ≤ 9 from by decide) (x' := (⟨(za l0 t527).f0, 0, 0, 0, (⟨#[]⟩ : ByteArray), (⟨0, 0, 0, 0⟩ : S32)⟩ : S34)) (xm _ _ _ (⟨(za l0 t527).f0, 0, 0, 0, (⟨#[]⟩ : ByteArray), (⟨0, 0, 0, 0⟩ : S32)⟩ : S34) ) (fun _ hk => hk); have hx37_0 := hcc37 0 _ rfl; (try simp only [show (k34).sz = 9 from rfl, Nat.mul_one, Nat.add_zero] at hx37_0); have hf37_0 := hfr37 0; (try simp only [show (k34).sz = 9 from rfl, Nat.mul_one, Nat.add_zero] at hf37_0); have hx37_1 := hcc37 1 _ rfl; (try simp only [show (k34).sz = 9 from rfl, Nat.mul_one, Nat.add_zero] at hx37_1); have hf37_1 := hfr37 1; (try simp only [show (k34).sz = 9 from rfl, Nat.mul_one, Nat.add_zero] at hf37_1); have hx37_2 := hcc37 2 _ rfl; (try simp only [show (k34).sz = 9 from rfl, Nat.mul_one, Nat.add_zero] at hx37_2); have hf37_2 := hfr37 2; (try simp only [show (k34).sz = 9 from rfl, Nat.mul_one, Nat.add_zero] at hf37_2); have hx37_3 := hcc37 3 _ rfl; (try simp only [show (k34).sz = 9 from rfl, Nat.mul_one, Nat.add_zero] at hx37_3); have hf37_3 := hfr37 3; (try simp only [show (k34).sz = 9 from rfl, Nat.mul_one, Nat.add_zero] at hf37_3); have hx37_4 := hcc37 4 _ rfl; (try simp only [show (k34).sz = 9 from rfl, Nat.mul_one, Nat.add_zero] at hx37_4); have hf37_4 := hfr37 4; (try simp only [show (k34).sz = 9 from rfl, Nat.mul_one, Nat.add_zero] at hf37_4); have hx37_5 := hcc37 5 _ rfl; (try simp only [show (k34).sz = 9 from rfl, Nat.mul_one, Nat.add_zero] at hx37_5); have hf37_5 := hfr37 5; (try simp only [show (k34).sz = 9 from rfl, Nat.mul_one, Nat.add_zero] at hf37_5); have hx37_6 := hcc37 6 _ rfl; (try simp only [show (k34).sz = 9 from rfl, Nat.mul_one, Nat.add_zero] at hx37_6); have hf37_6 := hfr37 6; (try simp only [show (k34).sz = 9 from rfl, Nat.mul_one, Nat.add_zero] at hf37_6); have hx37_7 := hcc37 7 _ rfl; (try simp only [show (k34).sz = 9 from rfl, Nat.mul_one, Nat.add_zero] at hx37_7); have hf37_7 := hfr37 7; (try simp only [show (k34).sz = 9 from rfl, Nat.mul_one, Nat.add_zero] at hf37_7); have hx37_8 := hcc37 8 _ rfl; (try simp only [show (k34).sz = 9 from rfl, Nat.mul_one, Nat.add_zero] at hx37_8); have hf37_8 := hfr37 8; (try simp only [show (k34).sz = 9 from rfl, Nat.mul_one, Nat.add_zero] at hf37_8); clear hcl37 hcc37 hfr37 hM37) | ((with_reducible refine zG (t := 34) (p := 69) rfl ?_); refine zy (t := 34) (p := 69) (v := ?vo_w38) (w1 := (((((((((w36.setCell ⟨go11, (x4_1 : Int).toNat * 9, none⟩ (.int .i64 ((za l0 t527).f0))).setCell ⟨go11, (x4_1 : Int).toNat * 9 + 1, none⟩ (.int .i64 0)).setCell ⟨go11, (x4_1 : Int).toNat * 9 + 2, none⟩ (.int .i64 0)).setCell ⟨go11, (x4_1 : Int).toNat * 9 + 3, none⟩ (.int .i64 0)).setCell ⟨go11, (x4_1 : Int).toNat * 9 + 4, none⟩ (.string (⟨#[]⟩ : ByteArray))).setCell ⟨go11, (x4_1 : Int).toNat * 9 + 5, none⟩ (.int .u64 0)).setCell ⟨go11, (x4_1 : Int).toNat * 9 + 6, none⟩ (.int .u64 0)).setCell ⟨go11, (x4_1 : Int).toNat * 9 + 7, none⟩ (.int .u64 0)).setCell ⟨go11, (x4_1 : Int).toNat * 9 + 8, none⟩ (.int .u64 0))) ?hg ?ho ?hn ?hr ?_; (case ho => rfl); (case hg => rfl); (case hn => rfl); (case hr => (go_simp; done)); intro w38 hw; have hg : w36.grownBy w38 (some go11) := (by rw [hw]; exact HP37.2); have hp_ : Kd.R k34 34 w38 w.heap.size (fun _ => True) (.slice (some ⟨go11, 0, none⟩) x3_1.length co11) y535 := (by rw [hw, Ny535.out]; exact HP37.1); clear HP37; replace HO_3 := zb.mk (hp_); replace HB := zb.mk ((by rw [hw]; exact zB (zB (zB (zB (zB (zB (zB (zB (zB (HB.out) GB11.out) GB11.out) GB11.out) GB11.out) GB11.out) GB11.out) GB11.out) GB11.out) GB11.out : Below w.heap.size w w38)); clear hg hw hp_))
           go_roundg k1
           case measure => have := HK1.out; omega
           case rel => exact ⟨(y535), (wrap64 (x4_1 + 1)), eq0, H', ⟨by have := HK1.out; omega⟩, ⟨Kd.rx HO_3.out⟩, ⟨bl HB.out⟩⟩
          ·rw [if_neg c33] at H
           have c33b0 := beq_eq_false_iff_ne.mpr c33
           have c33b1 := bne_iff_ne.mpr c33
           have H' := zb.mk H
           clear H
           have p525 : 0 ≤ (x4_1 : Int) := dq
           have q525 : x4_1 < (l0.length : Int) := dq
           obtain ⟨ad525, e525, hx525_0, hx525_1, hx525_2, hx525_3, hx525_4, hx525_5, hx525_6, hx525_7, hx525_8⟩ := zO HR0.out x4_1 p525 q525
           cases e525
           replace hx525_0 := cb HB.out hx525_0
           replace hx525_1 := cb HB.out hx525_1
           replace hx525_2 := cb HB.out hx525_2
           replace hx525_3 := cb HB.out hx525_3
           replace hx525_4 := cb HB.out hx525_4
           replace hx525_5 := cb HB.out hx525_5
           replace hx525_6 := cb HB.out hx525_6
           replace hx525_7 := cb HB.out hx525_7
           replace hx525_8 := cb HB.out hx525_8
           replace p525 := eq_true p525
           replace q525 := eq_true q525
           go_wp2_with (first | ((with_reducible refine zd (f := 19) rfl ?_); refine zl (some 21) rfl rfl Tryd.func19 (by kernel_rfl) rfl #[.int .i64 ((za l0 x4_1).f0)] rfl hq ?_; (with_reducible refine (zs.calls ((za l0 x4_1).f0) true _ ?side1 A6.out).mono ?_); (case side1 => exact gb HG HB); rintro e w' ⟨rfl, ⟨nd, rfl⟩⟩; refine ⟨_, rfl, ?_⟩; (try (rw [xc wr]; generalize hq_ : World.drewN wr _ = wr; replace HO_3 : zb (Kd.R k34 34 wr w.heap.size (fun _ => True) v523 x3_1) := ⟨by rw [← hq_]; exact (Kd.rx HO_3.out)⟩; replace HB : zb (Below w.heap.size w wr) := ⟨by rw [← hq_]; exact (bl HB.out)⟩; clear hq_))) | ((with_reducible refine zd (f := 56) rfl ?_); refine zl (some 26) rfl rfl Tryd.func56 (by kernel_rfl) rfl #[.slice (some ad525) l0.length c0, .int .i64 x4_1] rfl hq ?_; (with_reducible refine (qf.calls k1 _ _ l0 x4_1 t527 true _ ?side3 ?side1 ?side2 A8.out).mono ?_); (case side1 => exact Kd.cx (Kd.qe HR0.out HB.out)); (case side2 => exact HC0.out); (case side3 => exact gb HG HB); rintro e w' ⟨rfl, ⟨nd, rfl⟩⟩; refine ⟨_, rfl, ?_⟩; (try (rw [xc wr]; generalize hq_ : World.drewN wr _ = wr; replace HO_3 : zb (Kd.R k34 34 wr w.heap.size (fun _ => True) v523 x3_1) := ⟨by rw [← hq_]; exact (Kd.rx HO_3.out)⟩; replace HB : zb (Below w.heap.size w wr) := ⟨by rw [← hq_]; exact (bl HB.out)⟩; clear hq_)); have p11 : 0 ≤ (x4_1 : Int) := dq; have q11 : (x4_1 : Int) < ((x3_1.length : Int) : Int) := dq; obtain ⟨go11, co11, eo11, gb11, gl11, cl11, HG11⟩ := Kd.xJ HO_3.out (by omega); (cases eo11); have GB11 := zb.mk gb11; have GG11 := zb.mk HG11; clear gb11 gl11 HG11; obtain ⟨ce11, hcl11, hM11, hcc11, hfr11⟩ := Kd.xt HO_3.out z34 (x4_1 : Int) p11 q11; obtain rfl := qG hM11; have hx11_0 : wr.cell? ⟨go11, (x4_1 : Int).toNat * 9, none⟩ = some (.int .i64 ((za x3_1 x4_1).f0)) := hcc11 0 _ rfl; have hx11_1 : wr.cell? ⟨go11, (x4_1 : Int).toNat * 9 + 1, none⟩ = some (.int .i64 ((za x3_1 x4_1).f1)) := hcc11 1 _ rfl; have hx11_2 : wr.cell? ⟨go11, (x4_1 : Int).toNat * 9 + 2, none⟩ = some (.int .i64 ((za x3_1 x4_1).f2)) := hcc11 2 _ rfl; have hx11_3 : wr.cell? ⟨go11, (x4_1 : Int).toNat * 9 + 3, none⟩ = some (.int .i64 ((za x3_1 x4_1).f3)) := hcc11 3 _ rfl; have hx11_4 : wr.cell? ⟨go11, (x4_1 : Int).toNat * 9 + 4, none⟩ = some (.string ((za x3_1 x4_1).f4)) := hcc11 4 _ rfl; have hx11_5 : wr.cell? ⟨go11, (x4_1 : Int).toNat * 9 + 5, none⟩ = some (.int .u64 ((za x3_1 x4_1).f5.f0)) := hcc11 5 _ rfl; have hx11_6 : wr.cell? ⟨go11, (x4_1 : Int).toNat * 9 + 6, none⟩ = some (.int .u64 ((za x3_1 x4_1).f5.f1)) := hcc11 6 _ rfl; have hx11_7 : wr.cell? ⟨go11, (x4_1 : Int).toNat * 9 + 7, none⟩ = some (.int .u64 ((za x3_1 x4_1).f5.f2)) := hcc11 7 _ rfl; have hx11_8 : wr.cell? ⟨go11, (x4_1 : Int).toNat * 9 + 8, none⟩ = some (.int .u64 ((za x3_1 x4_1).f5.f3)) := hcc11 8 _ rfl; have hf11_0 : wr.frozen? ⟨go11, (x4_1 : Int).toNat * 9, none⟩ = false := hfr11 0; have hf11_1 : wr.frozen? ⟨go11, (x4_1 : Int).toNat * 9 + 1, none⟩ = false := hfr11 1; have hf11_2 : wr.frozen? ⟨go11, (x4_1 : Int).toNat * 9 + 2, none⟩ = false := hfr11 2; have hf11_3 : wr.frozen? ⟨go11, (x4_1 : Int).toNat * 9 + 3, none⟩ = false := hfr11 3; have hf11_4 : wr.frozen? ⟨go11, (x4_1 : Int).toNat * 9 + 4, none⟩ = false := hfr11 4; have hf11_5 : wr.frozen? ⟨go11, (x4_1 : Int).toNat * 9 + 5, none⟩ = false := hfr11 5; have hf11_6 : wr.frozen? ⟨go11, (x4_1 : Int).toNat * 9 + 6, none⟩ = false := hfr11 6; have hf11_7 : wr.frozen? ⟨go11, (x4_1 : Int).toNat * 9 + 7, none⟩ = false := hfr11 7; have hf11_8 : wr.frozen? ⟨go11, (x4_1 : Int).toNat * 9 + 8, none⟩ = false := hfr11 8; clear hcl11 hcc11 hfr11 hM11; replace p11 := eq_true p11; replace q11 := eq_true q11; have HX39 := zb.mk (show Kd.R k34 34 wr w.heap.size (fun _ => True) (.slice (some ⟨go11, 0, none⟩) x3_1.length co11) x3_1 from (Kd.rx HO_3.out)); obtain ⟨ce39, hcl39, hM39, hcc39, hfr39⟩ := Kd.xt HX39.out z34 (x4_1 : Int) (dq) (by have h_ : (x4_1 : Int) < ((x3_1.length : Int) : Int) := dq; exact h_); obtain rfl := qG hM39; have HP39 := Kd.R_seg HX39.out (x4_1 : Int) (dq) (by have h_ : (x4_1 : Int) < ((x3_1.length : Int) : Int) := dq; exact h_) (seg := [.int .i64 (wrap64 (t527 - x4_1))]) (j := 1) hcl39 hcc39 (show 2 ≤ 9 from by decide) (x' := (⟨(za x3_1 x4_1).f0, wrap64 (t527 - x4_1), (za x3_1 x4_1).f2, (za x3_1 x4_1).f3, (za x3_1 x4_1).f4, (⟨(za x3_1 x4_1).f5.f0, (za x3_1 x4_1).f5.f1, (za x3_1 x4_1).f5.f2, (za x3_1 x4_1).f5.f3⟩ : S32)⟩ : S34)) (xm _ _ _ (⟨(za x3_1 x4_1).f0, wrap64 (t527 - x4_1), (za x3_1 x4_1).f2, (za x3_1 x4_1).f3, (za x3_1 x4_1).f4, (⟨(za x3_1 x4_1).f5.f0, (za x3_1 x4_1).f5.f1, (za x3_1 x4_1).f5.f2, (za x3_1 x4_1).f5.f3⟩ : S32)⟩ : S34) ) (fun _ hk => hk); have hx39_1 := hcc39 1 _ rfl; (try simp only [show (k34).sz = 9 from rfl, Nat.mul_one, Nat.add_zero] at hx39_1); have hf39_1 := hfr39 1; (try simp only [show (k34).sz = 9 from rfl, Nat.mul_one, Nat.add_zero] at hf39_1); clear hcl39 hcc39 hfr39 hM39) | ((with_reducible refine zG (t := 3) (p := 37) rfl ?_); refine zy (t := 3) (p := 37) (v := ?vo_w40) (w1 := (wr.setCell ⟨go11, (x4_1 : Int).toNat * 9 + 1, none⟩ (.int .i64 (wrap64 (t527 - x4_1))))) ?hg ?ho ?hn ?hr ?_; (case ho => rfl); (case hg => rfl); (case hn => rfl); (case hr => (go_simp; done)); intro w40 hw; have hg : wr.grownBy w40 (some go11) := (by rw [hw]; exact HP39.2); have hp_ : Kd.R k34 34 w40 w.heap.size (fun _ => True) (.slice (some ⟨go11, 0, none⟩) x3_1.length co11) y529 := (by rw [hw, Ny529.out]; exact HP39.1); clear HP39; replace HO_3 := zb.mk (hp_); replace HB := zb.mk ((by rw [hw]; exact zB (HB.out) GB11.out : Below w.heap.size w w40)); clear hg hw hp_; have p530 : 0 ≤ (t527 : Int) := dq; have q530 : t527 < (l0.length : Int) := dq; obtain ⟨ad530, e530, hx530_0, hx530_1, hx530_2, hx530_3, hx530_4, hx530_5, hx530_6, hx530_7, hx530_8⟩ := zO (Kd.qe HR0.out HB.out) t527 p530 q530; obtain rfl : ad525 = ad530 := (by injection e530); replace p530 := eq_true p530; replace q530 := eq_true q530; have p531 : 0 ≤ (x4_1 : Int) := dq; have q531 : x4_1 < (l0.length : Int) := dq; obtain ⟨ad531, e531, hx531_0, hx531_1, hx531_2, hx531_3, hx531_4, hx531_5, hx531_6, hx531_7, hx531_8⟩ := zO (Kd.qe HR0.out HB.out) x4_1 p531 q531; obtain rfl : ad525 = ad531 := (by injection e531); replace p531 := eq_true p531; replace q531 := eq_true q531))
           go_roundg k1
           case measure => have := HK1.out; omega
           case rel => exact ⟨(y529), (wrap64 (x4_1 + 1)), eq0, H', ⟨by have := HK1.out; omega⟩, ⟨Kd.rx HO_3.out⟩, ⟨bl HB.out⟩⟩
      ·rw [if_neg c14] at H
       have c14b0 := beq_eq_false_iff_ne.mpr c14
       have c14b1 := bne_iff_ne.mpr c14
       have H' := zb.mk H
       clear H
       have p525 : 0 ≤ (x4_1 : Int) := dq
       have q525 : x4_1 < (l0.length : Int) := dq
       obtain ⟨ad525, e525, hx525_0, hx525_1, hx525_2, hx525_3, hx525_4, hx525_5, hx525_6, hx525_7, hx525_8⟩ := zO HR0.out x4_1 p525 q525
       cases e525
       replace hx525_0 := cb HB.out hx525_0
       replace hx525_1 := cb HB.out hx525_1
       replace hx525_2 := cb HB.out hx525_2
       replace hx525_3 := cb HB.out hx525_3
       replace hx525_4 := cb HB.out hx525_4
       replace hx525_5 := cb HB.out hx525_5
       replace hx525_6 := cb HB.out hx525_6
       replace hx525_7 := cb HB.out hx525_7
       replace hx525_8 := cb HB.out hx525_8
       replace p525 := eq_true p525
       replace q525 := eq_true q525
       go_wp2_with (first | ((with_reducible refine zd (f := 19) rfl ?_); refine zl (some 21) rfl rfl Tryd.func19 (by kernel_rfl) rfl #[.int .i64 ((za l0 x4_1).f0)] rfl hq ?_; (with_reducible refine (zs.calls ((za l0 x4_1).f0) true _ ?side1 A6.out).mono ?_); (case side1 => exact gb HG HB); rintro e w' ⟨rfl, ⟨nd, rfl⟩⟩; refine ⟨_, rfl, ?_⟩; (try (rw [xc wr]; generalize hq_ : World.drewN wr _ = wr; replace HO_3 : zb (Kd.R k34 34 wr w.heap.size (fun _ => True) v523 x3_1) := ⟨by rw [← hq_]; exact (Kd.rx HO_3.out)⟩; replace HB : zb (Below w.heap.size w wr) := ⟨by rw [← hq_]; exact (bl HB.out)⟩; clear hq_))) | ((with_reducible refine zd (f := 56) rfl ?_); refine zl (some 26) rfl rfl Tryd.func56 (by kernel_rfl) rfl #[.slice (some ad525) l0.length c0, .int .i64 x4_1] rfl hq ?_; (with_reducible refine (qf.calls k1 _ _ l0 x4_1 t527 true _ ?side3 ?side1 ?side2 A8.out).mono ?_); (case side1 => exact Kd.cx (Kd.qe HR0.out HB.out)); (case side2 => exact HC0.out); (case side3 => exact gb HG HB); rintro e w' ⟨rfl, ⟨nd, rfl⟩⟩; refine ⟨_, rfl, ?_⟩; (try (rw [xc wr]; generalize hq_ : World.drewN wr _ = wr; replace HO_3 : zb (Kd.R k34 34 wr w.heap.size (fun _ => True) v523 x3_1) := ⟨by rw [← hq_]; exact (Kd.rx HO_3.out)⟩; replace HB : zb (Below w.heap.size w wr) := ⟨by rw [← hq_]; exact (bl HB.out)⟩; clear hq_)); have p11 : 0 ≤ (x4_1 : Int) := dq; have q11 : (x4_1 : Int) < ((x3_1.length : Int) : Int) := dq; obtain ⟨go11, co11, eo11, gb11, gl11, cl11, HG11⟩ := Kd.xJ HO_3.out (by omega); (cases eo11); have GB11 := zb.mk gb11; have GG11 := zb.mk HG11; clear gb11 gl11 HG11; obtain ⟨ce11, hcl11, hM11, hcc11, hfr11⟩ := Kd.xt HO_3.out z34 (x4_1 : Int) p11 q11; obtain rfl := qG hM11; have hx11_0 : wr.cell? ⟨go11, (x4_1 : Int).toNat * 9, none⟩ = some (.int .i64 ((za x3_1 x4_1).f0)) := hcc11 0 _ rfl; have hx11_1 : wr.cell? ⟨go11, (x4_1 : Int).toNat * 9 + 1, none⟩ = some (.int .i64 ((za x3_1 x4_1).f1)) := hcc11 1 _ rfl; have hx11_2 : wr.cell? ⟨go11, (x4_1 : Int).toNat * 9 + 2, none⟩ = some (.int .i64 ((za x3_1 x4_1).f2)) := hcc11 2 _ rfl; have hx11_3 : wr.cell? ⟨go11, (x4_1 : Int).toNat * 9 + 3, none⟩ = some (.int .i64 ((za x3_1 x4_1).f3)) := hcc11 3 _ rfl; have hx11_4 : wr.cell? ⟨go11, (x4_1 : Int).toNat * 9 + 4, none⟩ = some (.string ((za x3_1 x4_1).f4)) := hcc11 4 _ rfl; have hx11_5 : wr.cell? ⟨go11, (x4_1 : Int).toNat * 9 + 5, none⟩ = some (.int .u64 ((za x3_1 x4_1).f5.f0)) := hcc11 5 _ rfl; have hx11_6 : wr.cell? ⟨go11, (x4_1 : Int).toNat * 9 + 6, none⟩ = some (.int .u64 ((za x3_1 x4_1).f5.f1)) := hcc11 6 _ rfl; have hx11_7 : wr.cell? ⟨go11, (x4_1 : Int).toNat * 9 + 7, none⟩ = some (.int .u64 ((za x3_1 x4_1).f5.f2)) := hcc11 7 _ rfl; have hx11_8 : wr.cell? ⟨go11, (x4_1 : Int).toNat * 9 + 8, none⟩ = some (.int .u64 ((za x3_1 x4_1).f5.f3)) := hcc11 8 _ rfl; have hf11_0 : wr.frozen? ⟨go11, (x4_1 : Int).toNat * 9, none⟩ = false := hfr11 0; have hf11_1 : wr.frozen? ⟨go11, (x4_1 : Int).toNat * 9 + 1, none⟩ = false := hfr11 1; have hf11_2 : wr.frozen? ⟨go11, (x4_1 : Int).toNat * 9 + 2, none⟩ = false := hfr11 2; have hf11_3 : wr.frozen? ⟨go11, (x4_1 : Int).toNat * 9 + 3, none⟩ = false := hfr11 3; have hf11_4 : wr.frozen? ⟨go11, (x4_1 : Int).toNat * 9 + 4, none⟩ = false := hfr11 4; have hf11_5 : wr.frozen? ⟨go11, (x4_1 : Int).toNat * 9 + 5, none⟩ = false := hfr11 5; have hf11_6 : wr.frozen? ⟨go11, (x4_1 : Int).toNat * 9 + 6, none⟩ = false := hfr11 6; have hf11_7 : wr.frozen? ⟨go11, (x4_1 : Int).toNat * 9 + 7, none⟩ = false := hfr11 7; have hf11_8 : wr.frozen? ⟨go11, (x4_1 : Int).toNat * 9 + 8, none⟩ = false := hfr11 8; clear hcl11 hcc11 hfr11 hM11; replace p11 := eq_true p11; replace q11 := eq_true q11; have HX41 := zb.mk (show Kd.R k34 34 wr w.heap.size (fun _ => True) (.slice (some ⟨go11, 0, none⟩) x3_1.length co11) x3_1 from (Kd.rx HO_3.out)); obtain ⟨ce41, hcl41, hM41, hcc41, hfr41⟩ := Kd.xt HX41.out z34 (x4_1 : Int) (dq) (by have h_ : (x4_1 : Int) < ((x3_1.length : Int) : Int) := dq; exact h_); obtain rfl := qG hM41; have HP41 := Kd.R_seg HX41.out (x4_1 : Int) (dq) (by have h_ : (x4_1 : Int) < ((x3_1.length : Int) : Int) := dq; exact h_) (seg := [.int .i64 (wrap64 (t527 - x4_1))]) (j := 1) hcl41 hcc41 (show 2 ≤ 9 from by decide) (x' := (⟨(za x3_1 x4_1).f0, wrap64 (t527 - x4_1), (za x3_1 x4_1).f2, (za x3_1 x4_1).f3, (za x3_1 x4_1).f4, (⟨(za x3_1 x4_1).f5.f0, (za x3_1 x4_1).f5.f1, (za x3_1 x4_1).f5.f2, (za x3_1 x4_1).f5.f3⟩ : S32)⟩ : S34)) (xm _ _ _ (⟨(za x3_1 x4_1).f0, wrap64 (t527 - x4_1), (za x3_1 x4_1).f2, (za x3_1 x4_1).f3, (za x3_1 x4_1).f4, (⟨(za x3_1 x4_1).f5.f0, (za x3_1 x4_1).f5.f1, (za x3_1 x4_1).f5.f2, (za x3_1 x4_1).f5.f3⟩ : S32)⟩ : S34) ) (fun _ hk => hk); have hx41_1 := hcc41 1 _ rfl; (try simp only [show (k34).sz = 9 from rfl, Nat.mul_one, Nat.add_zero] at hx41_1); have hf41_1 := hfr41 1; (try simp only [show (k34).sz = 9 from rfl, Nat.mul_one, Nat.add_zero] at hf41_1); clear hcl41 hcc41 hfr41 hM41) | ((with_reducible refine zG (t := 3) (p := 37) rfl ?_); refine zy (t := 3) (p := 37) (v := ?vo_w42) (w1 := (wr.setCell ⟨go11, (x4_1 : Int).toNat * 9 + 1, none⟩ (.int .i64 (wrap64 (t527 - x4_1))))) ?hg ?ho ?hn ?hr ?_; (case ho => rfl); (case hg => rfl); (case hn => rfl); (case hr => (go_simp; done)); intro w42 hw; have hg : wr.grownBy w42 (some go11) := (by rw [hw]; exact HP41.2); have hp_ : Kd.R k34 34 w42 w.heap.size (fun _ => True) (.slice (some ⟨go11, 0, none⟩) x3_1.length co11) y529 := (by rw [hw, Ny529.out]; exact HP41.1); clear HP41; replace HO_3 := zb.mk (hp_); replace HB := zb.mk ((by rw [hw]; exact zB (HB.out) GB11.out : Below w.heap.size w w42)); clear hg hw hp_; have p530 : 0 ≤ (t527 : Int) := dq; have q530 : t527 < (l0.length : Int) := dq; obtain ⟨ad530, e530, hx530_0, hx530_1, hx530_2, hx530_3, hx530_4, hx530_5, hx530_6, hx530_7, hx530_8⟩ := zO (Kd.qe HR0.out HB.out) t527 p530 q530; obtain rfl : ad525 = ad530 := (by injection e530); replace p530 := eq_true p530; replace q530 := eq_true q530; have p531 : 0 ≤ (x4_1 : Int) := dq; have q531 : x4_1 < (l0.length : Int) := dq; obtain ⟨ad531, e531, hx531_0, hx531_1, hx531_2, hx531_3, hx531_4, hx531_5, hx531_6, hx531_7, hx531_8⟩ := zO (Kd.qe HR0.out HB.out) x4_1 p531 q531; obtain rfl : ad525 = ad531 := (by injection e531); replace p531 := eq_true p531; replace q531 := eq_true q531))
       go_roundg k1
       case measure => have := HK1.out; omega
       case rel => exact ⟨(y529), (wrap64 (x4_1 + 1)), eq0, H', ⟨by have := HK1.out; omega⟩, ⟨Kd.rx HO_3.out⟩, ⟨bl HB.out⟩⟩
     ·replace c9 := Bool.eq_false_iff.mpr c9
      subst c9
      replace H := ifF H
      have H' := zb.mk H
      clear H
      have p525 : 0 ≤ (x4_1 : Int) := dq
      have q525 : x4_1 < (l0.length : Int) := dq
      obtain ⟨ad525, e525, hx525_0, hx525_1, hx525_2, hx525_3, hx525_4, hx525_5, hx525_6, hx525_7, hx525_8⟩ := zO HR0.out x4_1 p525 q525
      cases e525
      replace hx525_0 := cb HB.out hx525_0
      replace hx525_1 := cb HB.out hx525_1
      replace hx525_2 := cb HB.out hx525_2
      replace hx525_3 := cb HB.out hx525_3
      replace hx525_4 := cb HB.out hx525_4
      replace hx525_5 := cb HB.out hx525_5
      replace hx525_6 := cb HB.out hx525_6
      replace hx525_7 := cb HB.out hx525_7
      replace hx525_8 := cb HB.out hx525_8
      replace p525 := eq_true p525
      replace q525 := eq_true q525
      go_wp2_with (first | ((with_reducible refine zd (f := 19) rfl ?_); refine zl (some 21) rfl rfl Tryd.func19 (by kernel_rfl) rfl #[.int .i64 ((za l0 x4_1).f0)] rfl hq ?_; (with_reducible refine (zs.calls ((za l0 x4_1).f0) true _ ?side1 A6.out).mono ?_); (case side1 => exact gb HG HB); rintro e w' ⟨rfl, ⟨nd, rfl⟩⟩; refine ⟨_, rfl, ?_⟩) | ((with_reducible refine zd (f := 56) rfl ?_); refine zl (some 26) rfl rfl Tryd.func56 (by kernel_rfl) rfl #[.slice (some ad525) l0.length c0, .int .i64 x4_1] rfl hq ?_; (with_reducible refine (qf.calls k1 _ _ l0 x4_1 t527 false _ ?side3 ?side1 ?side2 A8.out).mono ?_); (case side1 => exact Kd.cx (Kd.qe HR0.out HB.out)); (case side2 => exact HC0.out); (case side3 => exact gb HG HB); rintro e w' ⟨rfl, ⟨nd, rfl⟩⟩; refine ⟨_, rfl, ?_⟩))
      go_roundg k1
      case measure => have := HK1.out; omega
      case rel => exact ⟨(x3_1), (wrap64 (x4_1 + 1)), eq0, H', ⟨by have := HK1.out; omega⟩, ⟨Kd.rx HO_3.out⟩, ⟨bl HB.out⟩⟩
    ·replace c7 := Bool.eq_false_iff.mpr c7
     subst c7
     replace H := ifF H
     have H' := zb.mk H
     clear H
     have p525 : 0 ≤ (x4_1 : Int) := dq
     have q525 : x4_1 < (l0.length : Int) := dq
     obtain ⟨ad525, e525, hx525_0, hx525_1, hx525_2, hx525_3, hx525_4, hx525_5, hx525_6, hx525_7, hx525_8⟩ := zO HR0.out x4_1 p525 q525
     cases e525
     replace hx525_0 := cb HB.out hx525_0
     replace hx525_1 := cb HB.out hx525_1
     replace hx525_2 := cb HB.out hx525_2
     replace hx525_3 := cb HB.out hx525_3
     replace hx525_4 := cb HB.out hx525_4
     replace hx525_5 := cb HB.out hx525_5
     replace hx525_6 := cb HB.out hx525_6
     replace hx525_7 := cb HB.out hx525_7
     replace hx525_8 := cb HB.out hx525_8
     replace p525 := eq_true p525
     replace q525 := eq_true q525
     go_wp2_with (((with_reducible refine zd (f := 19) rfl ?_); refine zl (some 21) rfl rfl Tryd.func19 (by kernel_rfl) rfl #[.int .i64 ((za l0 x4_1).f0)] rfl hq ?_; (with_reducible refine (zs.calls ((za l0 x4_1).f0) false _ ?side1 A6.out).mono ?_); (case side1 => exact gb HG HB); rintro e w' ⟨rfl, ⟨nd, rfl⟩⟩; refine ⟨_, rfl, ?_⟩))
     go_roundg k1
     case measure => have := HK1.out; omega
     case rel => exact ⟨(x3_1), (wrap64 (x4_1 + 1)), eq0, H', ⟨by have := HK1.out; omega⟩, ⟨Kd.rx HO_3.out⟩, ⟨bl HB.out⟩⟩
   ·rw [if_neg c4] at H
    have c4b0 := decide_eq_false c4
    clear c4
    obtain rfl := Option.some.inj H
    go_wp2
    go_ret
    exact ⟨_, eq1, Kd.rx HO_3.out, bl HB.out⟩
def z9.l0 : Nat → List (S34) → List (S34) → Int → Option (Bool)
 | 0, _, _, _ => none
 | k + 1, x0, x1, x5 => if x5 < (x0.length : Int) then (if 0 ≤ x5 then (if x5 < (x1.length : Int) then (if (!(((za x0 x5).f0) == ((za x1 x5).f0)) || (!(((za x0 x5).f1) == ((za x1 x5).f1)) || (!(((za x0 x5).f2) == ((za x1 x5).f2)) || (!(((za x0 x5).f3) == ((za x1 x5).f3)) || (!((((za x0 x5).f4).toList) == (((za x1 x5).f4).toList)) || ((!(((za x0 x5).f5.f0) == ((za x1 x5).f5.f0)) || (!(((za x0 x5).f5.f1) == ((za x1 x5).f5.f1)) || (!(((za x0 x5).f5.f2) == ((za x1 x5).f5.f2)) || (!(((za x0 x5).f5.f3) == ((za x1 x5).f5.f3)))))))))))) = true then (some false) else (z9.l0 k x0 x1 (wrap64 (x5 + 1)))) else (none)) else (none)) else (some true)
def z9.f (k : Nat) (l0 : List (S34)) (l1 : List (S34)) : Option (Bool) := if (l0.length : Int) = (l1.length : Int) then (z9.l0 k l0 l1 0) else (some false)
theorem z9.calls (k : Nat) (A0 : Option Addr) (c0 : Nat) (l0 : List (S34)) (A1 : Option Addr) (c1 : Nat) (l1 : List (S34)) (r : Bool) (w : World) (hG : GW w) (hr0 : Kd.C k34 w A0 l0.length l0) (hc0 : l0.length ≤ c0) (hr1 : Kd.C k34 w A1 l1.length l1) (hc1 : l1.length ≤ c1) (h : z9.f k l0 l1 = some r) :
  Calls Tryd.prog 38 #[.slice A0 l0.length c0, .slice A1 l1.length c1] w fun e w' => e = .returned (.bool r) ∧ zg w w' := by
 have hu34 := Tryd.underlying34
 have HR0 := zb.mk hr0
 have HC0 := zb.mk hc0
 clear hr0 hc0
 have HR1 := zb.mk hr1
 have HC1 := zb.mk hc1
 clear hr1 hc1
 have HG := zb.mk hG
 clear hG
 have H : (if (l0.length : Int) = (l1.length : Int) then (z9.l0 k l0 l1 0) else (some false)) = some r := h
 clear h
 by_cases c3 : (l0.length : Int) = (l1.length : Int)
 ·rw [if_pos c3] at H
  have c3b0 := beq_iff_eq.mpr c3
  have c3b1 := bne_eq_false_iff_eq.mpr c3
  have c3b2 : (l0.length == l1.length) = true := by (simp at c3 ⊢; omega)
  clear c3
  have H' := zb.mk H
  clear H
  go_enter Tryd.func38, Tryd.ntmps38
  go_wp2
  go_loopg [5] k (fun kq v5 w' => ∃ (x5_1 : Int), v5 = .int .i64 x5_1 ∧ zb (z9.l0 kq l0 l1 x5_1 = some r) ∧ zb (kq ≤ k) ∧ zg w w')
  case atStart => exact ⟨(0), eq0, H', ⟨Nat.le_refl _⟩, by repeat (exact zg.refl _)⟩
  case round =>
   clear H'
   (try clear c3b0); (try clear c3b1); (try clear c3b2)
   obtain ⟨x5_1, rfl, HA, HK1, ⟨m1, rfl⟩⟩ := hrel
   cases gk with
   | zero => exact absurd HA.out (by simp [z9.l0])
   | succ k1 =>
    have H := HA.out
    clear HA
    simp only [z9.l0] at H
    by_cases c4 : x5_1 < (l0.length : Int)
    ·rw [if_pos c4] at H
     have c4b0 := decide_eq_true c4
     clear c4
     replace H := z8 H; obtain ⟨c5, H⟩ := H
     have c5b0 := decide_eq_true c5
     clear c5
     replace H := z8 H; obtain ⟨c6, H⟩ := H
     have c6b0 := decide_eq_true c6
     clear c6
     by_cases c7 : (!(((za l0 x5_1).f0) == ((za l1 x5_1).f0)) || (!(((za l0 x5_1).f1) == ((za l1 x5_1).f1)) || (!(((za l0 x5_1).f2) == ((za l1 x5_1).f2)) || (!(((za l0 x5_1).f3) == ((za l1 x5_1).f3)) || (!((((za l0 x5_1).f4).toList) == (((za l1 x5_1).f4).toList)) || ((!(((za l0 x5_1).f5.f0) == ((za l1 x5_1).f5.f0)) || (!(((za l0 x5_1).f5.f1) == ((za l1 x5_1).f5.f1)) || (!(((za l0 x5_1).f5.f2) == ((za l1 x5_1).f5.f2)) || (!(((za l0 x5_1).f5.f3) == ((za l1 x5_1).f5.f3)))))))))))) = true
     ·rw [if_pos c7] at H
      have c7b0 : (!(((za l0 x5_1).f0) == ((za l1 x5_1).f0)) || (!(((za l0 x5_1).f1) == ((za l1 x5_1).f1)) || (!(((za l0 x5_1).f2) == ((za l1 x5_1).f2)) || (!(((za l0 x5_1).f3) == ((za l1 x5_1).f3)) || (!((((za l0 x5_1).f4).toList) == (((za l1 x5_1).f4).toList)) || ((!(((za l0 x5_1).f5.f0) == ((za l1 x5_1).f5.f0)) || (!(((za l0 x5_1).f5.f1) == ((za l1 x5_1).f5.f1)) || (!(((za l0 x5_1).f5.f2) == ((za l1 x5_1).f5.f2)) || (!(((za l0 x5_1).f5.f3) == ((za l1 x5_1).f5.f3)))))))))))) = true := c7
      clear c7
      obtain rfl := Option.some.inj H
      have p536 : 0 ≤ (x5_1 : Int) := dq
      have q536 : x5_1 < (l0.length : Int) := dq
      obtain ⟨ad536, e536, hx536_0, hx536_1, hx536_2, hx536_3, hx536_4, hx536_5, hx536_6, hx536_7, hx536_8⟩ := zO HR0.out x5_1 p536 q536
      cases e536
      replace p536 := eq_true p536
      replace q536 := eq_true q536
      have p537 : 0 ≤ (x5_1 : Int) := dq
      have q537 : x5_1 < (l1.length : Int) := dq
      obtain ⟨ad537, e537, hx537_0, hx537_1, hx537_2, hx537_3, hx537_4, hx537_5, hx537_6, hx537_7, hx537_8⟩ := zO HR1.out x5_1 p537 q537
      cases e537
      replace p537 := eq_true p537
      replace q537 := eq_true q537
      go_wp2
      repeat (go_quiet (fail); try go_wp2)
      go_ret
      exact ⟨eq0, by repeat (first | exact zg.refl _ | apply zg.step)⟩
     ·rw [if_neg c7] at H
      have c7b0 : (!(((za l0 x5_1).f0) == ((za l1 x5_1).f0)) || (!(((za l0 x5_1).f1) == ((za l1 x5_1).f1)) || (!(((za l0 x5_1).f2) == ((za l1 x5_1).f2)) || (!(((za l0 x5_1).f3) == ((za l1 x5_1).f3)) || (!((((za l0 x5_1).f4).toList) == (((za l1 x5_1).f4).toList)) || ((!(((za l0 x5_1).f5.f0) == ((za l1 x5_1).f5.f0)) || (!(((za l0 x5_1).f5.f1) == ((za l1 x5_1).f5.f1)) || (!(((za l0 x5_1).f5.f2) == ((za l1 x5_1).f5.f2)) || (!(((za l0 x5_1).f5.f3) == ((za l1 x5_1).f5.f3)))))))))))) = false := by simpa using c7
      clear c7
      have H' := zb.mk H
      clear H
      have p536 : 0 ≤ (x5_1 : Int) := dq
      have q536 : x5_1 < (l0.length : Int) := dq
      obtain ⟨ad536, e536, hx536_0, hx536_1, hx536_2, hx536_3, hx536_4, hx536_5, hx536_6, hx536_7, hx536_8⟩ := zO HR0.out x5_1 p536 q536
      cases e536
      replace p536 := eq_true p536
      replace q536 := eq_true q536
      have p537 : 0 ≤ (x5_1 : Int) := dq
      have q537 : x5_1 < (l1.length : Int) := dq
      obtain ⟨ad537, e537, hx537_0, hx537_1, hx537_2, hx537_3, hx537_4, hx537_5, hx537_6, hx537_7, hx537_8⟩ := zO HR1.out x5_1 p537 q537
      cases e537
      replace p537 := eq_true p537
      replace q537 := eq_true q537
      go_wp2
      repeat (go_quiet (fail); try go_wp2)
      go_roundg k1
      case measure => have := HK1.out; omega
      case rel => exact ⟨(wrap64 (x5_1 + 1)), eq0, H', ⟨by have := HK1.out; omega⟩, by repeat (first | exact zg.refl _ | apply zg.step)⟩
    ·rw [if_neg c4] at H
     have c4b0 := decide_eq_false c4
     clear c4
     obtain rfl := Option.some.inj H
     go_wp2
     go_ret
     exact ⟨eq0, by repeat (first | exact zg.refl _ | apply zg.step)⟩
 ·rw [if_neg c3] at H
  have c3b0 := beq_eq_false_iff_ne.mpr c3
  have c3b1 := bne_iff_ne.mpr c3
  have c3b2 : (l0.length == l1.length) = false := by (simp at c3 ⊢; omega)
  obtain rfl := Option.some.inj H
  go_enter Tryd.func38, Tryd.ntmps38
  go_wp2
  go_ret
  exact ⟨eq0, by repeat (exact zg.refl _)⟩
mutual
def zm.j0 : Nat → List (S34) → Int → Bool → Option ((List (S34)) × Int)
 | 0, _, _, _ => none
 | k + 1, x0, x1, x22 => if x22 = true then (some (([] : List (S34)), 1)) else (zm.l0 k x0 x1)
def zm.l0 : Nat → List (S34) → Int → Option ((List (S34)) × Int)
 | 0, _, _ => none
 | k + 1, x0, x1 => (qE.f x0).bind fun t540 => (if (Int.tmod (wrap64 (Int.tdiv x1 32)) 2) = 1 then ((z6.f k t540).bind fun t543 => (zm.j2 k x0 x1 t543)) else (zm.j2 k x0 x1 t540))
def zm.j2 : Nat → List (S34) → Int → List (S34) → Option ((List (S34)) × Int)
 | 0, _, _, _ => none
 | k + 1, x0, x1, x8 => if (Int.tmod (wrap64 (Int.tdiv x1 64)) 2) = 1 then ((zv.f k x8).bind fun t546 => ((z5.f k t546).bind fun t549 => ((z3.f k t549).bind fun t552 => ((z9.f k t552 x0).bind fun t555 => (if t555 = true then (some (t552, 0)) else (zm.l0 k t552 x1)))))) else ((z9.f k x8 x0).bind fun t556 => (if t556 = true then (some (x8, 0)) else (zm.l0 k x8 x1)))
end
def zm.f (k : Nat) (l0 : List (S34)) (a1 : Int) : Option ((List (S34)) × Int) := (zt.f k l0).bind fun bt538 => (if bt538.2 = 0 then (if a1 < 0 then (zm.j0 k l0 a1 true) else (zm.j0 k l0 a1 (decide (a1 > 127)))) else (some (([] : List (S34)), bt538.2)))
theorem zm.calls (k : Nat) (P0_ : Nat → Prop) (A0 : Option Addr) (c0 : Nat) (l0 : List (S34)) (a1 : Int) (r1 : List (S34)) (r2 : Int) (w : World) (hG : GW w) (hs0 : Kd.V k34 34 w w.heap.size (fun k_ => P0_ k_) (.slice A0 l0.length c0) l0) (h : zm.f k l0 a1 = some (r1, r2)) :
  Calls Tryd.prog 15 #[.slice A0 l0.length c0, .int .i64 a1] w fun e w' => ∃ v0_ : Value, e = .returned (.tuple #[v0_, .int .i64 r2]) ∧ Kd.R k34 34 w' w.heap.size (fun k_ => (w.heap.size ≤ k_)) v0_ r1 ∧ Below w.heap.size w w' := by
 have HO0 := zb.mk (show Kd.V k34 34 w w.heap.size (fun k_ => (P0_ k_ ∨ w.heap.size ≤ k_)) (.slice A0 l0.length c0) l0 from Kd.V_mono hs0 (fun k_ hk => .inl hk))
 have HG := zb.mk hG
 clear hG
 have HB := zb.mk (Below.refl w.heap.size w)
 have H : ((zt.f k l0).bind fun bt538 => (if bt538.2 = 0 then (if a1 < 0 then (zm.j0 k l0 a1 true) else (zm.j0 k l0 a1 (decide (a1 > 127)))) else (some (([] : List (S34)), bt538.2)))) = some (r1, r2) := h
 clear h
 replace H := qb H; obtain ⟨⟨t538, t539⟩, A3, H⟩ := H; try dsimp only at H
 by_cases c4 : t539 = 0
 ·rw [if_pos c4] at H
  have c4b0 := beq_iff_eq.mpr c4
  have c4b1 := bne_eq_false_iff_eq.mpr c4
  clear c4
  have HC5 := zb.mk H
  clear H
  go_enter Tryd.func15, Tryd.ntmps15
  go_upto_region 4 with (((with_reducible refine zd (f := 18) rfl ?_); refine zl (some 11) rfl rfl Tryd.func18 (by kernel_rfl) rfl #[.slice A0 l0.length c0] rfl hq ?_; (with_reducible refine (zt.calls k _ _ l0 t538 t539 _ ?side3 ?side1 ?side2 A3.out).mono ?_); (case side1 => repeat (exact (Kd.xN HO0.out).2.2)); (case side2 => exact (Kd.xN HO0.out).2.1); (case side3 => exact gb HG HB); rintro e w6 ⟨rfl, hb⟩; refine ⟨_, rfl, ?_⟩; replace HO0 := zb.mk (Kd.V_below (by (with_reducible skip); exact HO0.out) hb); replace HB := bst HB hb; (try clear hb)))
  go_cut [22] (fun v22 wc => ∃ (kq : Nat) (x22_4 : Bool), v22 = .bool x22_4 ∧ zb (zm.j0 kq l0 a1 x22_4 = some (r1, r2)) ∧ zb (kq ≤ k) ∧ zb (Kd.V k34 34 wc w.heap.size (fun k_ => (P0_ k_ ∨ w.heap.size ≤ k_)) (.slice A0 l0.length c0) l0) ∧ zb (Below w.heap.size w wc))
  case first =>
   have H := HC5.out
   clear HC5
   by_cases c7 : a1 < 0
   ·rw [if_pos c7] at H
    have c7b0 := decide_eq_true c7
    clear c7
    (skip)
    have H' := zb.mk H
    clear H
    go_wp2
    go_meet
    case rel => exact ⟨_, (true), eq0, H', ⟨by omega⟩, ⟨by (with_reducible skip); exact HO0.out⟩, ⟨bl HB.out⟩⟩
   ·rw [if_neg c7] at H
    have c7b0 := decide_eq_false c7
    clear c7
    (skip)
    have H' := zb.mk H
    clear H
    go_wp2
    go_meet
    case rel => exact ⟨_, (decide (a1 > 127)), eq0, H', ⟨by omega⟩, ⟨by (with_reducible skip); exact HO0.out⟩, ⟨bl HB.out⟩⟩
  case rest =>
   clear HC5
   (try clear c4b0); (try clear c4b1)
   obtain ⟨kq, x22_4, rfl, HA, HJ4, HO_0, HB⟩ := hcut
   cases kq with
   | zero => exact absurd HA.out (by simp [zm.j0])
   | succ kj4 =>
    have H := HA.out
    clear HA
    simp only [zm.j0] at H
    by_cases c8 : x22_4 = true
    ·subst c8
     replace H := ifT H
     simp only [Option.some.injEq, Prod.mk.injEq] at H
     obtain ⟨rfl, rfl⟩ := H
     go_wp2
     go_ret2
     exact ⟨_, eq1, by exact Kd.jy _ _ _ _ _, bl HB.out⟩
    ·replace c8 := Bool.eq_false_iff.mpr c8
     subst c8
     replace H := ifF H
     have H' := zb.mk H
     clear H
     go_wp2
     go_loopg [0] kj4 (fun kq v0 w' => ∃ (x0_2 : List (S34)), zb (zm.l0 kq x0_2 a1 = some (r1, r2)) ∧ zb (kq ≤ kj4) ∧ zb (Kd.V k34 34 w' w.heap.size (fun k_ => (P0_ k_ ∨ w.heap.size ≤ k_)) v0 x0_2) ∧ zb (Below w.heap.size w w'))
     case atStart => exact ⟨(l0), H', ⟨Nat.le_refl _⟩, ⟨by (with_reducible skip); exact HO_0.out⟩, ⟨bl HB.out⟩⟩
     case round =>
      clear H'
      obtain ⟨x0_2, HA, HK2, HO_0, HB⟩ := hrel
      cases gk with
      | zero => exact absurd HA.out (by simp [zm.l0])
      | succ k2 =>
       have H := HA.out
       clear HA
       simp only [zm.l0] at H
       replace H := qb H; obtain ⟨t540, A9, H⟩ := H
       have HC10 := zb.mk H
       clear H
       obtain ⟨Ao11, co11, eo11⟩ := Kd.V_slice HO_0.out
       subst eo11
       go_upto_if 28 with (((with_reducible refine zd (f := 33) rfl ?_); refine zl (some 24) rfl rfl Tryd.func33 (by kernel_rfl) rfl #[.slice Ao11 x0_2.length co11] rfl hq ?_; (with_reducible refine (qE.calls _ _ x0_2 t540 _ ?side3 ?side1 ?side2 A9.out).mono ?_); (case side1 => repeat (exact (Kd.xN HO_0.out).2.2)); (case side2 => exact (Kd.xN HO_0.out).2.1); (case side3 => exact gb HG HB); rintro e w12 ⟨v541, rfl, ho0, hb⟩; refine ⟨_, rfl, ?_⟩; replace HO_0 := zb.mk (Kd.V_elder' (by (with_reducible skip); exact HO_0.out) (Kd.R_base ho0) hb); have HO542 := zb.mk (Kd.rlo (Kd.R_newM (M := fun k_ => (w.heap.size ≤ k_)) ho0 (zh (bl HB.out)) (fun k_ h_ => h_)) HB); replace HB := bst HB hb; (try clear hb); (try clear ho0)))
       go_cut [8] (fun v8 wc => ∃ (kq : Nat) (x8_9 : List (S34)), zb (zm.j2 kq x0_2 a1 x8_9 = some (r1, r2)) ∧ zb (kq ≤ k2) ∧ zb (Kd.V k34 34 wc w.heap.size (fun k_ => (P0_ k_ ∨ w.heap.size ≤ k_) ∧ some k_ ≠ (v8 : Value).ownBlock) (.slice Ao11 x0_2.length co11) x0_2) ∧ zb (Kd.R k34 34 wc w.heap.size (fun k_ => (w.heap.size ≤ k_)) v8 x8_9) ∧ zb (Below w.heap.size w wc))
       case first =>
        have H := HC10.out
        clear HC10
        by_cases c13 : (Int.tmod (wrap64 (Int.tdiv a1 32)) 2) = 1
        ·rw [if_pos c13] at H
         have c13b0 := beq_iff_eq.mpr c13
         have c13b1 := bne_eq_false_iff_eq.mpr c13
         clear c13
         (rw [c13b0])
         replace H := qb H; obtain ⟨t543, A14, H⟩ := H
         have H' := zb.mk H
         clear H
         obtain ⟨Ao15, co15, eo15⟩ := Kd.zY HO542.out
         subst eo15
         go_wp2_with (((with_reducible refine zd (f := 34) rfl ?_); refine zl (some 30) rfl rfl Tryd.func34 (by kernel_rfl) rfl #[.slice Ao15 t540.length co15] rfl hq ?_; (with_reducible refine (z6.calls k2 _ _ t540 t543 _ ?side3 ?side1 ?side2 A14.out).mono ?_); (case side1 => repeat (exact (Kd.zq HO542.out).2.2)); (case side2 => exact (Kd.zq HO542.out).2.1); (case side3 => exact gb HG HB); rintro e w16 ⟨v544, rfl, ho0, hb⟩; refine ⟨_, rfl, ?_⟩; replace HO_0 := zb.mk (Kd.V_elder' (by (with_reducible skip); exact HO_0.out) (Kd.R_base ho0) hb); have HO545 := zb.mk (Kd.rlo (Kd.xo (Kd.R_newM (M := fun k_ => (w.heap.size ≤ k_)) ho0 (zh (bl HB.out)) (fun k_ h_ => h_)) (Kd.jj (Kd.rx HO542.out))) HB); replace HO542 := Kd.eld HO542 ho0 hb; replace HB := bst HB hb; (try clear hb); (try clear ho0)))
         go_meet
         case rel => exact ⟨_, (t543), H', ⟨by have := HJ4.out; have := HK2.out; omega⟩, ⟨by (with_reducible skip); exact Kd.V_mono HO_0.out (fun _ hk => ⟨hk.1.1, hk.2⟩)⟩, ⟨Kd.rx (Kd.zI HO545.out (fun _ hk => hk.1.1))⟩, ⟨bl HB.out⟩⟩
        ·rw [if_neg c13] at H
         have c13b0 := beq_eq_false_iff_ne.mpr c13
         have c13b1 := bne_iff_ne.mpr c13
         (rw [c13b0])
         have H' := zb.mk H
         clear H
         go_wp2
         go_meet
         case rel => exact ⟨_, (t540), H', ⟨by have := HJ4.out; have := HK2.out; omega⟩, ⟨by (with_reducible skip); exact HO_0.out⟩, ⟨Kd.rx (Kd.zI HO542.out (fun _ hk => hk.1))⟩, ⟨bl HB.out⟩⟩
       case rest =>
        clear HC10
        obtain ⟨kq, x8_9, HA, HJ9, HO_0, HO_8, HB⟩ := hcut
        cases kq with
        | zero => exact absurd HA.out (by simp [zm.j2])
        | succ kj9 =>
         have H := HA.out
         clear HA
         simp only [zm.j2] at H
         by_cases c17 : (Int.tmod (wrap64 (Int.tdiv a1 64)) 2) = 1
         ·rw [if_pos c17] at H
          have c17b0 := beq_iff_eq.mpr c17
          have c17b1 := bne_eq_false_iff_eq.mpr c17
          clear c17
          replace H := qb H; obtain ⟨t546, A18, H⟩ := H
          replace H := qb H; obtain ⟨t549, A19, H⟩ := H
          replace H := qb H; obtain ⟨t552, A20, H⟩ := H
          replace H := qb H; obtain ⟨t555, A21, H⟩ := H
          by_cases c22 : t555 = true
          ·subst c22
           replace H := ifT H
           simp only [Option.some.injEq, Prod.mk.injEq] at H
           obtain ⟨rfl, rfl⟩ := H
           obtain ⟨Ao23, co23, eo23⟩ := Kd.zY HO_8.out
           subst eo23
           go_wp2_with (first | ((with_reducible refine zd (f := 37) rfl ?_); refine zl (some 36) rfl rfl Tryd.func37 (by kernel_rfl) rfl #[.slice Ao23 x8_9.length co23] rfl hq ?_; (with_reducible refine (zv.calls kj9 _ _ x8_9 t546 _ ?side3 ?side1 ?side2 A18.out).mono ?_); (case side1 => repeat (exact (Kd.zq HO_8.out).2.2)); (case side2 => exact (Kd.zq HO_8.out).2.1); (case side3 => exact gb HG HB); rintro e w24 ⟨v547, rfl, ho0, hb⟩; refine ⟨_, rfl, ?_⟩; replace HO_0 := zb.mk (Kd.V_elder' (by (with_reducible skip); exact HO_0.out) (Kd.R_base ho0) hb); have HO548 := zb.mk (Kd.rlo (Kd.xo (Kd.R_newM (M := fun k_ => (w.heap.size ≤ k_)) ho0 (zh (bl HB.out)) (fun k_ h_ => h_)) (Kd.jj (Kd.rx HO_8.out))) HB); replace HO_8 := Kd.eld HO_8 ho0 hb; replace HB := bst HB hb; (try clear hb); (try clear ho0); obtain ⟨Ao25, co25, eo25⟩ := Kd.zY HO548.out; subst eo25) | ((with_reducible refine zd (f := 36) rfl ?_); refine zl (some 37) rfl rfl Tryd.func36 (by kernel_rfl) rfl #[.slice Ao25 t546.length co25] rfl hq ?_; (with_reducible refine (z5.calls kj9 _ _ t546 t549 _ ?side3 ?side1 ?side2 A19.out).mono ?_); (case side1 => repeat (exact (Kd.zq HO548.out).2.2)); (case side2 => exact (Kd.zq HO548.out).2.1); (case side3 => exact gb HG HB); rintro e w26 ⟨v550, rfl, ho0, hb⟩; refine ⟨_, rfl, ?_⟩; replace HO_0 := zb.mk (Kd.V_elder' (by (with_reducible skip); exact HO_0.out) (Kd.R_base ho0) hb); have HO551 := zb.mk (Kd.rlo (Kd.xo (Kd.xo (Kd.R_newM (M := fun k_ => (w.heap.size ≤ k_)) ho0 (zh (bl HB.out)) (fun k_ h_ => h_)) (Kd.jj (Kd.rx HO_8.out))) (Kd.jj (Kd.rx HO548.out))) HB); replace HO_8 := Kd.eld HO_8 ho0 hb; replace HO548 := Kd.eld HO548 ho0 hb; replace HB := bst HB hb; (try clear hb); (try clear ho0); obtain ⟨Ao27, co27, eo27⟩ := Kd.zY HO551.out; subst eo27) | ((with_reducible refine zd (f := 35) rfl ?_); refine zl (some 38) rfl rfl Tryd.func35 (by kernel_rfl) rfl #[.slice Ao27 t549.length co27] rfl hq ?_; (with_reducible refine (z3.calls kj9 _ _ t549 t552 _ ?side3 ?side1 ?side2 A20.out).mono ?_); (case side1 => repeat (exact (Kd.zq HO551.out).2.2)); (case side2 => exact (Kd.zq HO551.out).2.1); (case side3 => exact gb HG HB); rintro e w28 ⟨v553, rfl, ho0, hb⟩; refine ⟨_, rfl, ?_⟩; replace HO_0 := zb.mk (Kd.V_elder' (by (with_reducible skip); exact HO_0.out) (Kd.R_base ho0) hb); have HO554 := zb.mk (Kd.rlo (Kd.xo (Kd.xo (Kd.xo (Kd.R_newM (M := fun k_ => (w.heap.size ≤ k_)) ho0 (zh (bl HB.out)) (fun k_ h_ => h_)) (Kd.jj (Kd.rx HO_8.out))) (Kd.jj (Kd.rx HO548.out))) (Kd.jj (Kd.rx HO551.out))) HB); replace HO_8 := Kd.eld HO_8 ho0 hb; replace HO548 := Kd.eld HO548 ho0 hb; replace HO551 := Kd.eld HO551 ho0 hb; replace HB := bst HB hb; (try clear hb); (try clear ho0); obtain ⟨Ao29, co29, eo29⟩ := Kd.zY HO554.out; subst eo29) | ((with_reducible refine zd (f := 38) rfl ?_); refine zl (some 41) rfl rfl Tryd.func38 (by kernel_rfl) rfl #[.slice Ao29 t552.length co29, .slice Ao11 x0_2.length co11] rfl hq ?_; (with_reducible refine (z9.calls kj9 _ _ t552 _ _ x0_2 true _ ?side5 ?side1 ?side2 ?side3 ?side4 A21.out).mono ?_); (case side1 => repeat (exact (Kd.zq HO554.out).2.2)); (case side2 => exact (Kd.zq HO554.out).2.1); (case side3 => repeat (exact (Kd.xN HO_0.out).2.2)); (case side4 => exact (Kd.xN HO_0.out).2.1); (case side5 => exact gb HG HB); rintro e w' ⟨rfl, ⟨nd, rfl⟩⟩; refine ⟨_, rfl, ?_⟩))
           go_ret2
           exact ⟨_, eq1, Kd.rx (Kd.zI HO554.out (fun _ hk => hk.1.1.1.1)), bl HB.out⟩
          ·replace c22 := Bool.eq_false_iff.mpr c22
           subst c22
           replace H := ifF H
           have H' := zb.mk H
           clear H
           obtain ⟨Ao30, co30, eo30⟩ := Kd.zY HO_8.out
           subst eo30
           go_wp2_with (first | ((with_reducible refine zd (f := 37) rfl ?_); refine zl (some 36) rfl rfl Tryd.func37 (by kernel_rfl) rfl #[.slice Ao30 x8_9.length co30] rfl hq ?_; (with_reducible refine (zv.calls kj9 _ _ x8_9 t546 _ ?side3 ?side1 ?side2 A18.out).mono ?_); (case side1 => repeat (exact (Kd.zq HO_8.out).2.2)); (case side2 => exact (Kd.zq HO_8.out).2.1); (case side3 => exact gb HG HB); rintro e w31 ⟨v547, rfl, ho0, hb⟩; refine ⟨_, rfl, ?_⟩; replace HO_0 := zb.mk (Kd.V_elder' (by (with_reducible skip); exact HO_0.out) (Kd.R_base ho0) hb); have HO548 := zb.mk (Kd.rlo (Kd.xo (Kd.R_newM (M := fun k_ => (w.heap.size ≤ k_)) ho0 (zh (bl HB.out)) (fun k_ h_ => h_)) (Kd.jj (Kd.rx HO_8.out))) HB); replace HO_8 := Kd.eld HO_8 ho0 hb; replace HB := bst HB hb; (try clear hb); (try clear ho0); obtain ⟨Ao32, co32, eo32⟩ := Kd.zY HO548.out; subst eo32) | ((with_reducible refine zd (f := 36) rfl ?_); refine zl (some 37) rfl rfl Tryd.func36 (by kernel_rfl) rfl #[.slice Ao32 t546.length co32] rfl hq ?_; (with_reducible refine (z5.calls kj9 _ _ t546 t549 _ ?side3 ?side1 ?side2 A19.out).mono ?_); (case side1 => repeat (exact (Kd.zq HO548.out).2.2)); (case side2 => exact (Kd.zq HO548.out).2.1); (case side3 => exact gb HG HB); rintro e w33 ⟨v550, rfl, ho0, hb⟩; refine ⟨_, rfl, ?_⟩; replace HO_0 := zb.mk (Kd.V_elder' (by (with_reducible skip); exact HO_0.out) (Kd.R_base ho0) hb); have HO551 := zb.mk (Kd.rlo (Kd.xo (Kd.xo (Kd.R_newM (M := fun k_ => (w.heap.size ≤ k_)) ho0 (zh (bl HB.out)) (fun k_ h_ => h_)) (Kd.jj (Kd.rx HO_8.out))) (Kd.jj (Kd.rx HO548.out))) HB); replace HO_8 := Kd.eld HO_8 ho0 hb; replace HO548 := Kd.eld HO548 ho0 hb; replace HB := bst HB hb; (try clear hb); (try clear ho0); obtain ⟨Ao34, co34, eo34⟩ := Kd.zY HO551.out; subst eo34) | ((with_reducible refine zd (f := 35) rfl ?_); refine zl (some 38) rfl rfl Tryd.func35 (by kernel_rfl) rfl #[.slice Ao34 t549.length co34] rfl hq ?_; (with_reducible refine (z3.calls kj9 _ _ t549 t552 _ ?side3 ?side1 ?side2 A20.out).mono ?_); (case side1 => repeat (exact (Kd.zq HO551.out).2.2)); (case side2 => exact (Kd.zq HO551.out).2.1); (case side3 => exact gb HG HB); rintro e w35 ⟨v553, rfl, ho0, hb⟩; refine ⟨_, rfl, ?_⟩; replace HO_0 := zb.mk (Kd.V_elder' (by (with_reducible skip); exact HO_0.out) (Kd.R_base ho0) hb); have HO554 := zb.mk (Kd.rlo (Kd.xo (Kd.xo (Kd.xo (Kd.R_newM (M := fun k_ => (w.heap.size ≤ k_)) ho0 (zh (bl HB.out)) (fun k_ h_ => h_)) (Kd.jj (Kd.rx HO_8.out))) (Kd.jj (Kd.rx HO548.out))) (Kd.jj (Kd.rx HO551.out))) HB); replace HO_8 := Kd.eld HO_8 ho0 hb; replace HO548 := Kd.eld HO548 ho0 hb; replace HO551 := Kd.eld HO551 ho0 hb; replace HB := bst HB hb; (try clear hb); (try clear ho0); obtain ⟨Ao36, co36, eo36⟩ := Kd.zY HO554.out; subst eo36) | ((with_reducible refine zd (f := 38) rfl ?_); refine zl (some 41) rfl rfl Tryd.func38 (by kernel_rfl) rfl #[.slice Ao36 t552.length co36, .slice Ao11 x0_2.length co11] rfl hq ?_; (with_reducible refine (z9.calls kj9 _ _ t552 _ _ x0_2 false _ ?side5 ?side1 ?side2 ?side3 ?side4 A21.out).mono ?_); (case side1 => repeat (exact (Kd.zq HO554.out).2.2)); (case side2 => exact (Kd.zq HO554.out).2.1); (case side3 => repeat (exact (Kd.xN HO_0.out).2.2)); (case side4 => exact (Kd.xN HO_0.out).2.1); (case side5 => exact gb HG HB); rintro e w' ⟨rfl, ⟨nd, rfl⟩⟩; refine ⟨_, rfl, ?_⟩))
           go_roundg kj9
           case measure => have := HJ4.out; have := HK2.out; have := HJ9.out; omega
           case rel => exact ⟨(t552), H', ⟨by have := HJ4.out; have := HK2.out; have := HJ9.out; omega⟩, ⟨Kd.V_mono (Kd.R_V (Kd.rx (Kd.zI HO554.out (fun _ hk => hk.1.1.1.1)))) (fun k_ hk => by exact (.inr (hk)))⟩, ⟨bl HB.out⟩⟩
         ·rw [if_neg c17] at H
          have c17b0 := beq_eq_false_iff_ne.mpr c17
          have c17b1 := bne_iff_ne.mpr c17
          replace H := qb H; obtain ⟨t556, A37, H⟩ := H
          by_cases c38 : t556 = true
          ·subst c38
           replace H := ifT H
           simp only [Option.some.injEq, Prod.mk.injEq] at H
           obtain ⟨rfl, rfl⟩ := H
           obtain ⟨Ao39, co39, eo39⟩ := Kd.zY HO_8.out
           subst eo39
           go_wp2_with (((with_reducible refine zd (f := 38) rfl ?_); refine zl (some 41) rfl rfl Tryd.func38 (by kernel_rfl) rfl #[.slice Ao39 x8_9.length co39, .slice Ao11 x0_2.length co11] rfl hq ?_; (with_reducible refine (z9.calls kj9 _ _ x8_9 _ _ x0_2 true _ ?side5 ?side1 ?side2 ?side3 ?side4 A37.out).mono ?_); (case side1 => repeat (exact (Kd.zq HO_8.out).2.2)); (case side2 => exact (Kd.zq HO_8.out).2.1); (case side3 => repeat (exact (Kd.xN HO_0.out).2.2)); (case side4 => exact (Kd.xN HO_0.out).2.1); (case side5 => exact gb HG HB); rintro e w' ⟨rfl, ⟨nd, rfl⟩⟩; refine ⟨_, rfl, ?_⟩))
           go_ret2
           exact ⟨_, eq1, Kd.rx HO_8.out, bl HB.out⟩
          ·replace c38 := Bool.eq_false_iff.mpr c38
           subst c38
           replace H := ifF H
           have H' := zb.mk H
           clear H
           obtain ⟨Ao40, co40, eo40⟩ := Kd.zY HO_8.out
           subst eo40
           go_wp2_with (((with_reducible refine zd (f := 38) rfl ?_); refine zl (some 41) rfl rfl Tryd.func38 (by kernel_rfl) rfl #[.slice Ao40 x8_9.length co40, .slice Ao11 x0_2.length co11] rfl hq ?_; (with_reducible refine (z9.calls kj9 _ _ x8_9 _ _ x0_2 false _ ?side5 ?side1 ?side2 ?side3 ?side4 A37.out).mono ?_); (case side1 => repeat (exact (Kd.zq HO_8.out).2.2)); (case side2 => exact (Kd.zq HO_8.out).2.1); (case side3 => repeat (exact (Kd.xN HO_0.out).2.2)); (case side4 => exact (Kd.xN HO_0.out).2.1); (case side5 => exact gb HG HB); rintro e w' ⟨rfl, ⟨nd, rfl⟩⟩; refine ⟨_, rfl, ?_⟩))
           go_roundg kj9
           case measure => have := HJ4.out; have := HK2.out; have := HJ9.out; omega
           case rel => exact ⟨(x8_9), H', ⟨by have := HJ4.out; have := HK2.out; have := HJ9.out; omega⟩, ⟨Kd.V_mono (Kd.R_V (Kd.rx HO_8.out)) (fun k_ hk => by exact (.inr (hk)))⟩, ⟨bl HB.out⟩⟩
 ·rw [if_neg c4] at H
  have c4b0 := beq_eq_false_iff_ne.mpr c4
  have c4b1 := bne_iff_ne.mpr c4
  simp only [Option.some.injEq, Prod.mk.injEq] at H
  obtain ⟨rfl, rfl⟩ := H
  go_enter Tryd.func15, Tryd.ntmps15
  go_wp2_with (((with_reducible refine zd (f := 18) rfl ?_); refine zl (some 11) rfl rfl Tryd.func18 (by kernel_rfl) rfl #[.slice A0 l0.length c0] rfl hq ?_; (with_reducible refine (zt.calls k _ _ l0 t538 t539 _ ?side3 ?side1 ?side2 A3.out).mono ?_); (case side1 => repeat (exact (Kd.xN HO0.out).2.2)); (case side2 => exact (Kd.xN HO0.out).2.1); (case side3 => exact gb HG HB); rintro e w41 ⟨rfl, hb⟩; refine ⟨_, rfl, ?_⟩; replace HO0 := zb.mk (Kd.V_below (by (with_reducible skip); exact HO0.out) hb); replace HB := bst HB hb; (try clear hb)))
  go_ret2
  exact ⟨_, eq1, by exact Kd.jy _ _ _ _ _, bl HB.out⟩
def qm.f (k : Nat) (l0 l1 : List S34) : Option Bool := (zo.f k l0 l1).bind fun t => some t
theorem qm.len {k : Nat} {l0 l1 : List S34} (h : zo.f k l0 l1 = some true) : l0.length = l1.length := by
 unfold zo.f at h
 by_cases e : (l0.length : Int) = (l1.length : Int)
 ·omega
 ·rw [if_neg e] at h; cases h
theorem qm.cut (A0 : Option Addr) (n m c : Nat) (j : Int) (hj : j = (m : Int)) (hm : m ≤ c) (i : TypeInfo) (hi : Tryd.prog.info? 34 = some i) : ∀ W : World, (Instr.slice 22 (.slice A0 n c) none (some (.int .i64 j)) none).run Tryd.prog W = .ok (.slice A0 m c) W := by
 subst hj
 have h := cut_to (P := Tryd.prog) 22 34 .i64 Tryd.underlying22 hi A0 m c (m : Int) (by omega) (Int.le_refl _) hm
 intro W
 have h1 := h W
 rw [Int.toNat_natCast] at h1
 rw [← h1]
 have hel : Tryd.prog.elem 22 = 34 := by simp [Program.elem, Tryd.underlying22]
 have hu : Tryd.prog.underlying 22 = some (.slice (Tryd.prog.elem 22)) := by rw [hel]; exact Tryd.underlying22
 rw [run_slice_h W 22 A0 n c hu .i64 (m : Int) (by omega) (by omega), run_slice_h W 22 A0 m c hu .i64 (m : Int) (by omega) (by omega)]
theorem qm.calls (k : Nat) (A0 : Option Addr) (c0 : Nat) (l0 : List (S34)) (A1 : Option Addr) (c1 : Nat) (l1 : List (S34)) (r : Bool) (w : World) (hG : GW w) (hr0 : Kd.C k34 w A0 l0.length l0) (hc0 : l0.length ≤ c0) (hr1 : Kd.C k34 w A1 l1.length l1) (hc1 : l1.length ≤ c1) (hx : Kd.C k34 w A0 (l0 ++ [sentS]).length (l0 ++ [sentS])) (hxc : l0.length + 1 ≤ c0) (h : qm.f k l0 l1 = some r) :
  Calls Tryd.prog 17 #[.slice A0 l0.length c0, .slice A1 l1.length c1] w fun e w' => e = .returned (.bool r) ∧ zg w w' := by
 have hu34 := Tryd.underlying34
 have HR0 := zb.mk hr0
 have HC0 := zb.mk hc0
 clear hr0 hc0
 have HR1 := zb.mk hr1
 have HC1 := zb.mk hc1
 clear hr1 hc1
 have HG := zb.mk hG
 clear hG
 have H : ((zo.f k l0 l1).bind fun t => some t) = some r := h
 clear h
 replace H := qb H; obtain ⟨t0, A3, H⟩ := H
 obtain rfl := Option.some.inj H
 by_cases c4 : t0 = true
 ·subst c4
  have hlen := qm.len A3.out
  obtain ⟨ji5, hji5⟩ : ∃ j_ : Int, (wrap64 ((l1.length : Int) + 1)) = j_ := ⟨_, rfl⟩
  have hji5w : (IntKind.i64.wrap ((l1.length : Int) + 1)) = ji5 := (zZ _).trans hji5
  obtain ⟨y5, hy5⟩ : ∃ y_ : List S34, y_ = l0 ++ [sentS] := ⟨_, rfl⟩
  rw [← hy5] at hx
  have hyl : y5.length = l1.length + 1 := by rw [hy5, List.length_append, hlen]; rfl
  have hmx := hx.2.1
  have hje : ji5 = (y5.length : Int) := by rw [← hji5, hyl]; unfold wrap64; omega
  have HE := zb.mk (show za y5 (l1.length : Int) = sentS by rw [hy5, ← hlen]; simp [za, List.getD_eq_getElem?_getD])
  have HCUT := zb.mk (qm.cut A0 l0.length y5.length c0 ji5 hje (by omega))
  have HQ := zb.mk (show (l1.length : Int) < (y5.length : Int) by omega)
  have c7b1 : decide (0 ≤ ji5) = true := decide_eq_true (by omega)
  have c8b0 : decide (0 ≤ (l1.length : Int)) = true := decide_eq_true (by omega)
  have c8b1 : decide (0 ≤ l1.length) = true := decide_eq_true (by omega)
  have c9b0 : decide ((l1.length : Int) < (y5.length : Int)) = true := decide_eq_true HQ.out
  have c9b1 : decide (l1.length < y5.length) = true := decide_eq_true (by omega)
  have HX := zb.mk hx
  clear hx hxc hlen hyl hmx hje hji5 H
  clear hy5
  go_enter Tryd.func17, Tryd.ntmps17
  go_wp2_with (((with_reducible refine zd (f := 16) rfl ?_); refine zl (some 7) rfl rfl Tryd.func16 (by kernel_rfl) rfl #[.slice A0 l0.length c0, .slice A1 l1.length c1] rfl hq ?_; (with_reducible refine (zo.calls k _ _ l0 _ _ l1 true _ ?side5 ?side1 ?side2 ?side3 ?side4 A3.out).mono ?_); (case side1 => exact Kd.cx HR0.out); (case side2 => exact HC0.out); (case side3 => exact Kd.cx HR1.out); (case side4 => exact HC1.out); (case side5 => repeat (exact HG.out)); rintro e w' ⟨rfl, ⟨nd, rfl⟩⟩; refine ⟨_, rfl, ?_⟩;obtain ⟨i010, hi010, _, hsz10, _⟩ := info_parts info34; have hcut10 := HCUT.out i010 hi010; clear hi010 hsz10; have p562 : 0 ≤ ((l1.length : Int) : Int) := Int.natCast_nonneg _; have q562 := HQ.out; obtain ⟨ad562, e562, hx562_0, hx562_1, hx562_2, hx562_3, hx562_4, hx562_5, hx562_6, hx562_7, hx562_8⟩ := zO HX.out (l1.length : Int) p562 q562; cases e562; (try simp only [Go.IntWalk.toNatUp] at hx562_0 hx562_1 hx562_2 hx562_3 hx562_4 hx562_5 hx562_6 hx562_7 hx562_8); replace p562 := eq_true p562; replace q562 := eq_true q562))
  go_ret
  exact ⟨by rw [HE.out]; simp [sentS, show (⟨#[]⟩ : ByteArray).toList = ([] : List UInt8) from by decide +kernel], by repeat (first | exact zg.refl _ | apply zg.step)⟩
 ·replace c4 := Bool.eq_false_iff.mpr c4
  subst c4
  go_enter Tryd.func17, Tryd.ntmps17
  go_wp2_with (((with_reducible refine zd (f := 16) rfl ?_); refine zl (some 7) rfl rfl Tryd.func16 (by kernel_rfl) rfl #[.slice A0 l0.length c0, .slice A1 l1.length c1] rfl hq ?_; (with_reducible refine (zo.calls k _ _ l0 _ _ l1 false _ ?side5 ?side1 ?side2 ?side3 ?side4 A3.out).mono ?_); (case side1 => exact Kd.cx HR0.out); (case side2 => exact HC0.out); (case side3 => exact Kd.cx HR1.out); (case side4 => exact HC1.out); (case side5 => repeat (exact HG.out)); rintro e w' ⟨rfl, ⟨nd, rfl⟩⟩; refine ⟨_, rfl, ?_⟩))
  go_ret
  exact ⟨eq0, by repeat (first | exact zg.refl _ | apply zg.step)⟩
def qN.f (k : Nat) (l0 : List (S34)) (a1 : Int) : Option (Bool) := (qt.f l0).bind fun t563 => ((z7.f k t563 a1).bind fun bt566 => ((zm.f k l0 a1).bind fun bt570 => ((qJ.f k).bind fun t574 => (if t574 = true then ((zo.f k bt566.1 bt570.1).bind fun t575 => (if t575 = true then (if bt566.2 = bt570.2 then ((qm.f k t563 l0).bind fun t576 => (some t576)) else (some false)) else (some false))) else (some false)))))
theorem qN.calls (k : Nat) (A0 : Option Addr) (c0 : Nat) (l0 : List (S34)) (a1 : Int) (r : Bool) (w : World) (hG : GW w) (hr0 : Kd.C k34 w A0 l0.length l0) (hc0 : l0.length ≤ c0) (h : qN.f k l0 a1 = some r) :
  Calls Tryd.prog 4 #[.slice A0 l0.length c0, .int .i64 a1] w fun e w' => e = .returned (.bool r) ∧ Below w.heap.size w w' := by
 have HR0 := zb.mk hr0
 have HC0 := zb.mk hc0
 clear hr0 hc0
 have HG := zb.mk hG
 clear hG
 have HB := zb.mk (Below.refl w.heap.size w)
 have H : ((qt.f l0).bind fun t563 => ((z7.f k t563 a1).bind fun bt566 => ((zm.f k l0 a1).bind fun bt570 => ((qJ.f k).bind fun t574 => (if t574 = true then ((zo.f k bt566.1 bt570.1).bind fun t575 => (if t575 = true then (if bt566.2 = bt570.2 then ((qm.f k t563 l0).bind fun t576 => (some t576)) else (some false)) else (some false))) else (some false)))))) = some r := h
 clear h
 replace H := qb H; obtain ⟨t563, A3, H⟩ := H
 replace H := qb H; obtain ⟨⟨t566, t567⟩, A4, H⟩ := H; try dsimp only at H
 replace H := qb H; obtain ⟨⟨t570, t573⟩, A5, H⟩ := H; try dsimp only at H
 replace H := qb H; obtain ⟨t574, A6, H⟩ := H
 by_cases c7 : t574 = true
 ·subst c7
  replace H := ifT H
  replace H := qb H; obtain ⟨t575, A8, H⟩ := H
  by_cases c9 : t575 = true
  ·subst c9
   replace H := ifT H
   by_cases c10 : t567 = t573
   ·rw [if_pos c10] at H
    have c10b0 := beq_iff_eq.mpr c10
    have c10b1 := bne_eq_false_iff_eq.mpr c10
    clear c10
    replace H := qb H; obtain ⟨t576, A11, H⟩ := H
    obtain rfl := Option.some.inj H
    go_enter Tryd.func4, Tryd.ntmps4
    go_wp2_with (first | ((with_reducible refine zd (f := 13) rfl ?_); refine zl (some 11) rfl rfl Tryd.func13 (by kernel_rfl) rfl #[.slice A0 l0.length c0] rfl hq ?_; (with_reducible refine (qt.calls _ _ l0 t563 _ ?side3 ?side1 ?side2 A3.out).mono ?_); (case side1 => exact Kd.cx HR0.out); (case side2 => exact HC0.out); (case side3 => exact gb HG HB); rintro e w12 ⟨v564, rfl, ho0, hx0, hb⟩; refine ⟨_, rfl, ?_⟩; have HO565 := zb.mk (Kd.rlo ho0 HB); have HX := zb.mk (Kd.rlo hx0 HB); clear hx0; replace HB := bst HB hb; (try clear hb); (try clear ho0); obtain ⟨Ao13, co13, eo13⟩ := Kd.zY HO565.out; subst eo13) | ((with_reducible refine zd (f := 14) rfl ?_); refine zl (some 15) rfl rfl Tryd.func14 (by kernel_rfl) rfl #[.slice Ao13 t563.length co13, .int .i64 a1] rfl hq ?_; (with_reducible refine (z7.calls k _ _ t563 a1 t566 t567 _ ?side3 ?side1 ?side2 A4.out).mono ?_); (case side1 => repeat (exact (Kd.zq HO565.out).2.2)); (case side2 => exact (Kd.zq HO565.out).2.1); (case side3 => exact gb HG HB); rintro e w14 ⟨v568, rfl, ho0, hb⟩; refine ⟨_, rfl, ?_⟩; have HO569 := zb.mk (Kd.rlo (Kd.xo ho0 (Kd.jj (Kd.rx HO565.out))) HB); replace HO565 := Kd.eld HO565 ho0 hb; replace HX := Kd.eld HX ho0 hb; replace HB := bst HB hb; (try clear hb); (try clear ho0)) | ((with_reducible refine zd (f := 15) rfl ?_); refine zl (some 21) rfl rfl Tryd.func15 (by kernel_rfl) rfl #[.slice A0 l0.length c0, .int .i64 a1] rfl hq ?_; (with_reducible refine (zm.calls k (fun k_ => k_ < w.heap.size) _ _ l0 a1 t570 t573 _ ?side2 ?side1 A5.out).mono ?_); (case side1 => exact Kd.V_mk HC0.out (Kd.F_below (Kd.C_F k34_heap HR0.out) (bl HB.out))); (case side2 => exact gb HG HB); rintro e w15 ⟨v571, rfl, ho0, hb⟩; refine ⟨_, rfl, ?_⟩; have HO572 := zb.mk (Kd.rlo (Kd.xo (Kd.xo (Kd.zI (ok' := fun k_ => True) ho0 (fun _ hk_ => trivial)) (Kd.jj (Kd.rx HO565.out))) (Kd.jj (Kd.rx HO569.out))) HB); replace HO565 := Kd.eld HO565 ho0 hb; replace HX := Kd.eld HX ho0 hb; replace HO569 := Kd.eld HO569 ho0 hb; replace HB := bst HB hb; (try clear hb); (try clear ho0)) | ((with_reducible refine zd (f := 11) rfl ?_); refine zl (some 24) rfl rfl Tryd.func11 (by kernel_rfl) rfl #[] rfl hq ?_; (with_reducible refine (qJ.calls k  true _ ?side1 A6.out).mono ?_); (case side1 => exact gb HG HB); rintro e w16 ⟨rfl, hb⟩; refine ⟨_, rfl, ?_⟩; replace HO565 := Kd.rbl HO565 hb; replace HX := Kd.rbl HX hb; replace HO569 := Kd.rbl HO569 hb; replace HO572 := Kd.rbl HO572 hb; replace HB := bst HB hb; (try clear hb); obtain ⟨Ao17, co17, eo17⟩ := Kd.zY HO569.out; subst eo17; obtain ⟨Ao18, co18, eo18⟩ := Kd.zY HO572.out; subst eo18) | (go_at_call 16; (with_reducible refine (zo.calls k _ _ t566 _ _ t570 true _ ?side5 ?side1 ?side2 ?side3 ?side4 A8.out).mono ?_); (case side1 => repeat (exact (Kd.zq HO569.out).2.2)); (case side2 => exact (Kd.zq HO569.out).2.1); (case side3 => repeat (exact (Kd.zq HO572.out).2.2)); (case side4 => exact (Kd.zq HO572.out).2.1); (case side5 => exact gb HG HB); rintro e w' ⟨rfl, ⟨nd, rfl⟩⟩) | (go_at_call 17; (with_reducible refine (qm.calls k _ _ t563 _ _ l0 t576 _ ?side5 ?side1 ?side2 ?side3 ?side4 ?sideX ?sideY A11.out).mono ?_); (case sideX => repeat (exact (Kd.zq HX.out).2.2)); (case sideY => exact (Kd.zq (d := k34) (xs := t563 ++ [sentS]) HX.out).2.1); (case side1 => repeat (exact (Kd.zq HO565.out).2.2)); (case side2 => exact (Kd.zq HO565.out).2.1); (case side3 => exact Kd.cx (Kd.qe HR0.out HB.out)); (case side4 => exact HC0.out); (case side5 => exact gb HG HB); rintro e w' ⟨rfl, ⟨nd, rfl⟩⟩))
    go_ret
    exact ⟨eq1, bl HB.out⟩
   ·rw [if_neg c10] at H
    have c10b0 := beq_eq_false_iff_ne.mpr c10
    have c10b1 := bne_iff_ne.mpr c10
    obtain rfl := Option.some.inj H
    go_enter Tryd.func4, Tryd.ntmps4
    go_wp2_with (first | ((with_reducible refine zd (f := 13) rfl ?_); refine zl (some 11) rfl rfl Tryd.func13 (by kernel_rfl) rfl #[.slice A0 l0.length c0] rfl hq ?_; (with_reducible refine (qt.calls _ _ l0 t563 _ ?side3 ?side1 ?side2 A3.out).mono ?_); (case side1 => exact Kd.cx HR0.out); (case side2 => exact HC0.out); (case side3 => exact gb HG HB); rintro e w19 ⟨v564, rfl, ho0, hx0, hb⟩; refine ⟨_, rfl, ?_⟩; have HO565 := zb.mk (Kd.rlo ho0 HB); have HX := zb.mk (Kd.rlo hx0 HB); clear hx0; replace HB := bst HB hb; (try clear hb); (try clear ho0); obtain ⟨Ao20, co20, eo20⟩ := Kd.zY HO565.out; subst eo20) | ((with_reducible refine zd (f := 14) rfl ?_); refine zl (some 15) rfl rfl Tryd.func14 (by kernel_rfl) rfl #[.slice Ao20 t563.length co20, .int .i64 a1] rfl hq ?_; (with_reducible refine (z7.calls k _ _ t563 a1 t566 t567 _ ?side3 ?side1 ?side2 A4.out).mono ?_); (case side1 => repeat (exact (Kd.zq HO565.out).2.2)); (case side2 => exact (Kd.zq HO565.out).2.1); (case side3 => exact gb HG HB); rintro e w21 ⟨v568, rfl, ho0, hb⟩; refine ⟨_, rfl, ?_⟩; have HO569 := zb.mk (Kd.rlo (Kd.xo ho0 (Kd.jj (Kd.rx HO565.out))) HB); replace HO565 := Kd.eld HO565 ho0 hb; replace HX := Kd.eld HX ho0 hb; replace HB := bst HB hb; (try clear hb); (try clear ho0)) | ((with_reducible refine zd (f := 15) rfl ?_); refine zl (some 21) rfl rfl Tryd.func15 (by kernel_rfl) rfl #[.slice A0 l0.length c0, .int .i64 a1] rfl hq ?_; (with_reducible refine (zm.calls k (fun k_ => k_ < w.heap.size) _ _ l0 a1 t570 t573 _ ?side2 ?side1 A5.out).mono ?_); (case side1 => exact Kd.V_mk HC0.out (Kd.F_below (Kd.C_F k34_heap HR0.out) (bl HB.out))); (case side2 => exact gb HG HB); rintro e w22 ⟨v571, rfl, ho0, hb⟩; refine ⟨_, rfl, ?_⟩; have HO572 := zb.mk (Kd.rlo (Kd.xo (Kd.xo (Kd.zI (ok' := fun k_ => True) ho0 (fun _ hk_ => trivial)) (Kd.jj (Kd.rx HO565.out))) (Kd.jj (Kd.rx HO569.out))) HB); replace HO565 := Kd.eld HO565 ho0 hb; replace HX := Kd.eld HX ho0 hb; replace HO569 := Kd.eld HO569 ho0 hb; replace HB := bst HB hb; (try clear hb); (try clear ho0)) | ((with_reducible refine zd (f := 11) rfl ?_); refine zl (some 24) rfl rfl Tryd.func11 (by kernel_rfl) rfl #[] rfl hq ?_; (with_reducible refine (qJ.calls k  true _ ?side1 A6.out).mono ?_); (case side1 => exact gb HG HB); rintro e w23 ⟨rfl, hb⟩; refine ⟨_, rfl, ?_⟩; replace HO565 := Kd.rbl HO565 hb; replace HX := Kd.rbl HX hb; replace HO569 := Kd.rbl HO569 hb; replace HO572 := Kd.rbl HO572 hb; replace HB := bst HB hb; (try clear hb); obtain ⟨Ao24, co24, eo24⟩ := Kd.zY HO569.out; subst eo24; obtain ⟨Ao25, co25, eo25⟩ := Kd.zY HO572.out; subst eo25) | (go_at_call 16; (with_reducible refine (zo.calls k _ _ t566 _ _ t570 true _ ?side5 ?side1 ?side2 ?side3 ?side4 A8.out).mono ?_); (case side1 => repeat (exact (Kd.zq HO569.out).2.2)); (case side2 => exact (Kd.zq HO569.out).2.1); (case side3 => repeat (exact (Kd.zq HO572.out).2.2)); (case side4 => exact (Kd.zq HO572.out).2.1); (case side5 => exact gb HG HB); rintro e w' ⟨rfl, ⟨nd, rfl⟩⟩))
    go_ret
    exact ⟨eq1, bl HB.out⟩
  ·replace c9 := Bool.eq_false_iff.mpr c9
   subst c9
   replace H := ifF H
   obtain rfl := Option.some.inj H
   go_enter Tryd.func4, Tryd.ntmps4
   go_wp2_with (first | ((with_reducible refine zd (f := 13) rfl ?_); refine zl (some 11) rfl rfl Tryd.func13 (by kernel_rfl) rfl #[.slice A0 l0.length c0] rfl hq ?_; (with_reducible refine (qt.calls _ _ l0 t563 _ ?side3 ?side1 ?side2 A3.out).mono ?_); (case side1 => exact Kd.cx HR0.out); (case side2 => exact HC0.out); (case side3 => exact gb HG HB); rintro e w26 ⟨v564, rfl, ho0, hx0, hb⟩; refine ⟨_, rfl, ?_⟩; have HO565 := zb.mk (Kd.rlo ho0 HB); have HX := zb.mk (Kd.rlo hx0 HB); clear hx0; replace HB := bst HB hb; (try clear hb); (try clear ho0); obtain ⟨Ao27, co27, eo27⟩ := Kd.zY HO565.out; subst eo27) | ((with_reducible refine zd (f := 14) rfl ?_); refine zl (some 15) rfl rfl Tryd.func14 (by kernel_rfl) rfl #[.slice Ao27 t563.length co27, .int .i64 a1] rfl hq ?_; (with_reducible refine (z7.calls k _ _ t563 a1 t566 t567 _ ?side3 ?side1 ?side2 A4.out).mono ?_); (case side1 => repeat (exact (Kd.zq HO565.out).2.2)); (case side2 => exact (Kd.zq HO565.out).2.1); (case side3 => exact gb HG HB); rintro e w28 ⟨v568, rfl, ho0, hb⟩; refine ⟨_, rfl, ?_⟩; have HO569 := zb.mk (Kd.rlo (Kd.xo ho0 (Kd.jj (Kd.rx HO565.out))) HB); replace HO565 := Kd.eld HO565 ho0 hb; replace HX := Kd.eld HX ho0 hb; replace HB := bst HB hb; (try clear hb); (try clear ho0)) | ((with_reducible refine zd (f := 15) rfl ?_); refine zl (some 21) rfl rfl Tryd.func15 (by kernel_rfl) rfl #[.slice A0 l0.length c0, .int .i64 a1] rfl hq ?_; (with_reducible refine (zm.calls k (fun k_ => k_ < w.heap.size) _ _ l0 a1 t570 t573 _ ?side2 ?side1 A5.out).mono ?_); (case side1 => exact Kd.V_mk HC0.out (Kd.F_below (Kd.C_F k34_heap HR0.out) (bl HB.out))); (case side2 => exact gb HG HB); rintro e w29 ⟨v571, rfl, ho0, hb⟩; refine ⟨_, rfl, ?_⟩; have HO572 := zb.mk (Kd.rlo (Kd.xo (Kd.xo (Kd.zI (ok' := fun k_ => True) ho0 (fun _ hk_ => trivial)) (Kd.jj (Kd.rx HO565.out))) (Kd.jj (Kd.rx HO569.out))) HB); replace HO565 := Kd.eld HO565 ho0 hb; replace HX := Kd.eld HX ho0 hb; replace HO569 := Kd.eld HO569 ho0 hb; replace HB := bst HB hb; (try clear hb); (try clear ho0)) | ((with_reducible refine zd (f := 11) rfl ?_); refine zl (some 24) rfl rfl Tryd.func11 (by kernel_rfl) rfl #[] rfl hq ?_; (with_reducible refine (qJ.calls k  true _ ?side1 A6.out).mono ?_); (case side1 => exact gb HG HB); rintro e w30 ⟨rfl, hb⟩; refine ⟨_, rfl, ?_⟩; replace HO565 := Kd.rbl HO565 hb; replace HX := Kd.rbl HX hb; replace HO569 := Kd.rbl HO569 hb; replace HO572 := Kd.rbl HO572 hb; replace HB := bst HB hb; (try clear hb); obtain ⟨Ao31, co31, eo31⟩ := Kd.zY HO569.out; subst eo31; obtain ⟨Ao32, co32, eo32⟩ := Kd.zY HO572.out; subst eo32) | (go_at_call 16; (with_reducible refine (zo.calls k _ _ t566 _ _ t570 false _ ?side5 ?side1 ?side2 ?side3 ?side4 A8.out).mono ?_); (case side1 => repeat (exact (Kd.zq HO569.out).2.2)); (case side2 => exact (Kd.zq HO569.out).2.1); (case side3 => repeat (exact (Kd.zq HO572.out).2.2)); (case side4 => exact (Kd.zq HO572.out).2.1); (case side5 => exact gb HG HB); rintro e w' ⟨rfl, ⟨nd, rfl⟩⟩))
   go_ret
   exact ⟨eq1, bl HB.out⟩
 ·replace c7 := Bool.eq_false_iff.mpr c7
  subst c7
  replace H := ifF H
  obtain rfl := Option.some.inj H
  go_enter Tryd.func4, Tryd.ntmps4
  go_wp2_with (first | ((with_reducible refine zd (f := 13) rfl ?_); refine zl (some 11) rfl rfl Tryd.func13 (by kernel_rfl) rfl #[.slice A0 l0.length c0] rfl hq ?_; (with_reducible refine (qt.calls _ _ l0 t563 _ ?side3 ?side1 ?side2 A3.out).mono ?_); (case side1 => exact Kd.cx HR0.out); (case side2 => exact HC0.out); (case side3 => exact gb HG HB); rintro e w33 ⟨v564, rfl, ho0, hx0, hb⟩; refine ⟨_, rfl, ?_⟩; have HO565 := zb.mk (Kd.rlo ho0 HB); have HX := zb.mk (Kd.rlo hx0 HB); clear hx0; replace HB := bst HB hb; (try clear hb); (try clear ho0); obtain ⟨Ao34, co34, eo34⟩ := Kd.zY HO565.out; subst eo34) | ((with_reducible refine zd (f := 14) rfl ?_); refine zl (some 15) rfl rfl Tryd.func14 (by kernel_rfl) rfl #[.slice Ao34 t563.length co34, .int .i64 a1] rfl hq ?_; (with_reducible refine (z7.calls k _ _ t563 a1 t566 t567 _ ?side3 ?side1 ?side2 A4.out).mono ?_); (case side1 => repeat (exact (Kd.zq HO565.out).2.2)); (case side2 => exact (Kd.zq HO565.out).2.1); (case side3 => exact gb HG HB); rintro e w35 ⟨v568, rfl, ho0, hb⟩; refine ⟨_, rfl, ?_⟩; have HO569 := zb.mk (Kd.rlo (Kd.xo ho0 (Kd.jj (Kd.rx HO565.out))) HB); replace HO565 := Kd.eld HO565 ho0 hb; replace HX := Kd.eld HX ho0 hb; replace HB := bst HB hb; (try clear hb); (try clear ho0)) | ((with_reducible refine zd (f := 15) rfl ?_); refine zl (some 21) rfl rfl Tryd.func15 (by kernel_rfl) rfl #[.slice A0 l0.length c0, .int .i64 a1] rfl hq ?_; (with_reducible refine (zm.calls k (fun k_ => k_ < w.heap.size) _ _ l0 a1 t570 t573 _ ?side2 ?side1 A5.out).mono ?_); (case side1 => exact Kd.V_mk HC0.out (Kd.F_below (Kd.C_F k34_heap HR0.out) (bl HB.out))); (case side2 => exact gb HG HB); rintro e w36 ⟨v571, rfl, ho0, hb⟩; refine ⟨_, rfl, ?_⟩; have HO572 := zb.mk (Kd.rlo (Kd.xo (Kd.xo (Kd.zI (ok' := fun k_ => True) ho0 (fun _ hk_ => trivial)) (Kd.jj (Kd.rx HO565.out))) (Kd.jj (Kd.rx HO569.out))) HB); replace HO565 := Kd.eld HO565 ho0 hb; replace HX := Kd.eld HX ho0 hb; replace HO569 := Kd.eld HO569 ho0 hb; replace HB := bst HB hb; (try clear hb); (try clear ho0)) | ((with_reducible refine zd (f := 11) rfl ?_); refine zl (some 24) rfl rfl Tryd.func11 (by kernel_rfl) rfl #[] rfl hq ?_; (with_reducible refine (qJ.calls k  false _ ?side1 A6.out).mono ?_); (case side1 => exact gb HG HB); rintro e w37 ⟨rfl, hb⟩; refine ⟨_, rfl, ?_⟩; replace HO565 := Kd.rbl HO565 hb; replace HX := Kd.rbl HX hb; replace HO569 := Kd.rbl HO569 hb; replace HO572 := Kd.rbl HO572 hb; replace HB := bst HB hb; (try clear hb)))
  go_ret
  exact ⟨eq1, bl HB.out⟩
def peep_on_tails.f (k : Nat) (l0 : List (S34))  : Option ((List (S34)) × Int) := (zJ.f k l0).bind fun bt577 => (if bt577.2 = 0 then ((qK.f k l0).bind fun t579 => (some (t579, 0))) else (some (([] : List (S34)), bt577.2)))
def peep_Tails.f (k : Nat) (l0 : List (S34)) : Option ((List (S34)) × Int) := (peep_on_tails.f k l0).bind fun bt582 => (some (bt582.1, bt582.2))
def peep_on_threads.f (k : Nat) (l0 : List (S34))  : Option ((List (S34)) × Int) := (zJ.f k l0).bind fun bt586 => (if bt586.2 = 0 then ((zX.f k l0).bind fun t588 => (some (t588, 0))) else (some (([] : List (S34)), bt586.2)))
def peep_Threads.f (k : Nat) (l0 : List (S34)) : Option ((List (S34)) × Int) := (peep_on_threads.f k l0).bind fun bt591 => (some (bt591.1, bt591.2))
def peep_on_hops.f (k : Nat) (l0 : List (S34))  : Option ((List (S34)) × Int) := (zJ.f k l0).bind fun bt595 => (if bt595.2 = 0 then ((qS.f k l0).bind fun t597 => (some (t597, 0))) else (some (([] : List (S34)), bt595.2)))
def peep_Hops.f (k : Nat) (l0 : List (S34)) : Option ((List (S34)) × Int) := (peep_on_hops.f k l0).bind fun bt600 => (some (bt600.1, bt600.2))
end Go.Proofs.YtnpeabmlcakegaaDoor.PAll
namespace Go.Proofs.YtnpeabmlcakegaaDoor.PAll
open Go.RowKit Go.Proofs.YtnpeabmlcakegaaDoorW.PrintWords
set_option linter.unusedVariables false
set_option linter.unusedSimpArgs false
section
variable {α β : Type} {c : Prop} [Decidable c] {a b : Nat → Option α} {r : α}
theorem zc (h : c) (k : Ev a r) : Ev (fun n => if c then a n else b n) r := by simpa only [if_pos h] using k
theorem ze (h : ¬ c) (k : Ev b r) : Ev (fun n => if c then a n else b n) r := by simpa only [if_neg h] using k
theorem zn : Ev (fun _ => some r) r := Ev.now r
theorem zA {g : Nat → Option β} {f : Nat → β → Option α} {y : β} (h : Ev g y) (k : Ev (fun n => f n y) r) : Ev (fun n => (g n).bind (f n)) r := Ev.bind h k
theorem zx {g : Option β} {f : Nat → β → Option α} {y : β} (h : g = some y) (k : Ev (fun n => f n y) r) : Ev (fun n => g.bind (f n)) r := Ev.bind ⟨0, fun _ _ => h⟩ k
theorem zu {g f : Nat → Option α} (h : ∀ k, g (k + 1) = f k) (k : Ev f r) : Ev g r := Ev.step h k
theorem ev_same {g : Nat → Option α} {r q : α} (h : Ev g r) (h' : Ev g q) : r = q := by
  obtain ⟨K, h⟩ := h
  obtain ⟨K', h'⟩ := h'
  have h1 := h (max K K') (Nat.le_max_left _ _)
  rw [h' (max K K') (Nat.le_max_right _ _)] at h1
  exact (Option.some.inj h1).symm
end
theorem qZ {x : Int} (h0 : -9223372036854775808 ≤ x) (h1 : x ≤ 9223372036854775807) : wrap64 x = x := by unfold wrap64; omega
theorem qC {i : Nat} (h : i < 9223372036854775807) : wrap64 ((i : Int) + 1) = ((i + 1 : Nat) : Int) := by rw [qZ (by omega) (by omega)]; omega
def arF (op : Int) : Int := if op = 7 ∨ op = 8 then 2 else if (1 ≤ op ∧ op ≤ 6) ∨ op = 17 then 0 else if 8 < op ∧ op ≤ 23 then 1 else -1
theorem arity_j1 (op : Int) (b : Bool) : Ev (fun k => qi.j1 k op b) (if b = true then 0 else if 8 < op ∧ op ≤ 23 then 1 else -1) := by
  refine zu (fun k => qi.j1.eq_2 _ _ _) ?_
  cases b with
  | true => refine zc rfl ?_; exact zn
  | false =>
    refine ze (by decide) ?_
    by_cases h1 : op > 8
    · refine zc h1 ?_
      by_cases h2 : op ≤ 23
      · refine zc h2 ?_
        simp only [Bool.false_eq_true, if_false]
        rw [if_pos ⟨by omega, h2⟩]
        exact zn
      · refine ze h2 ?_
        simp only [Bool.false_eq_true, if_false]
        rw [if_neg (by omega)]
        exact zn
    · refine ze h1 ?_
      simp only [Bool.false_eq_true, if_false]
      rw [if_neg (by omega)]
      exact zn
theorem arity_j0 (op : Int) (b : Bool) : Ev (fun k => qi.j0 k op b) (if b = true then 2 else if (1 ≤ op ∧ op ≤ 6) ∨ op = 17 then 0 else if 8 < op ∧ op ≤ 23 then 1 else -1) := by
  refine zu (fun k => qi.j0.eq_2 _ _ _) ?_
  cases b with
  | true => refine zc rfl ?_; exact zn
  | false =>
    refine ze (by decide) ?_
    simp only [Bool.false_eq_true, if_false]
    by_cases h1 : op ≥ 1
    · refine zc h1 ?_
      by_cases h2 : op ≤ 6
      · refine zc h2 ?_
        rw [if_pos (Or.inl ⟨h1, h2⟩)]
        exact arity_j1 op true
      · refine ze h2 ?_
        by_cases h3 : op = 17
        · rw [if_pos (Or.inr h3), show (op == 17) = true by simpa using h3]
          exact arity_j1 op true
        · rw [if_neg (by omega), show (op == 17) = false by simpa using h3]
          exact arity_j1 op false
    · refine ze h1 ?_
      rw [if_neg (by omega), show (op == 17) = false by simp; omega]
      exact arity_j1 op false
theorem arity_ev (op : Int) : Ev (fun k => qi.f k op) (arF op) := by
  unfold qi.f arF
  by_cases h : op = 7
  · refine zc h ?_
    rw [if_pos (Or.inl h)]
    exact arity_j0 op true
  · refine ze h ?_
    by_cases h8 : op = 8
    · rw [if_pos (Or.inr h8), show (op == 8) = true by simpa using h8]
      exact arity_j0 op true
    · rw [if_neg (by omega), show (op == 8) = false by simpa using h8]
      exact arity_j0 op false
theorem head_some (c : Int) : ∃ b, xl.f c = some b := by
  unfold xl.f
  repeat' split
  all_goals exact ⟨_, rfl⟩
theorem counted_some (c : Int) : ∃ b, xC.f c = some b := by
  unfold xC.f
  repeat' split
  all_goals exact ⟨_, rfl⟩
theorem name_loop (s : ByteArray) (hs : s.size ≤ 140737488351232) (d : Nat) : ∀ i : Nat, i + d = s.size → ∃ b, Ev (fun k => zD.l0 k s (s.size : Int) (i : Int)) b := by
  induction d with
  | zero =>
    intro i hi
    refine ⟨true, zu (fun k => zD.l0.eq_2 _ _ _ _) ?_⟩
    refine ze (by omega) ?_
    exact zn
  | succ d ih =>
    intro i hi
    obtain ⟨b, hb⟩ := head_some (bt s (i : Int))
    obtain ⟨q, hq⟩ := ih (i + 1) (by omega)
    have hw := qC (i := i) (by omega)
    have pre : ∀ r, Ev (fun k => if b = true then zD.l0 k s (s.size : Int) (wrap64 ((i : Int) + 1)) else if bt s (i : Int) < 48 then some false else if bt s (i : Int) > 57 then some false else zD.l0 k s (s.size : Int) (wrap64 ((i : Int) + 1))) r → Ev (fun k => zD.l0 k s (s.size : Int) (i : Int)) r := by
      intro r h
      refine zu (fun k => zD.l0.eq_2 _ _ _ _) ?_
      refine zc (by omega) ?_
      refine zc (by omega) ?_
      refine zc (by omega) ?_
      exact zx hb h
    cases b with
    | true =>
      refine ⟨q, pre _ ?_⟩
      refine zc rfl ?_
      rw [hw]; exact hq
    | false =>
      by_cases h1 : bt s (i : Int) < 48
      · refine ⟨false, pre _ ?_⟩
        refine ze (by decide) ?_
        refine zc h1 ?_
        exact zn
      · by_cases h2 : bt s (i : Int) > 57
        · refine ⟨false, pre _ ?_⟩
          refine ze (by decide) ?_
          refine ze h1 ?_
          refine zc h2 ?_
          exact zn
        · refine ⟨q, pre _ ?_⟩
          refine ze (by decide) ?_
          refine ze h1 ?_
          refine ze h2 ?_
          rw [hw]; exact hq
theorem name_j0 (s : ByteArray) (hs : s.size ≤ 140737488351232) (b : Bool) : ∃ r, Ev (fun k => zD.j0 k s b) r := by
  cases b with
  | true =>
    refine ⟨false, zu (fun k => zD.j0.eq_2 _ _ _) ?_⟩
    refine zc rfl ?_
    exact zn
  | false =>
    obtain ⟨q, hq⟩ := name_loop s hs s.size 0 (by omega)
    refine ⟨q, zu (fun k => zD.j0.eq_2 _ _ _) ?_⟩
    refine ze (by decide) ?_
    exact hq
theorem name_total (s : ByteArray) (hs : s.size ≤ 140737488351232) : ∃ r, Ev (fun k => zD.f k s) r := by
  unfold zD.f
  by_cases h : s.toList = ([] : List UInt8)
  · obtain ⟨r, hr⟩ := name_j0 s hs true
    exact ⟨r, zc h hr⟩
  · by_cases h1 : (s.size : Int) > 32
    · obtain ⟨r, hr⟩ := name_j0 s hs true
      exact ⟨r, ze h (zc h1 hr)⟩
    · have h2 : 0 < (s.size : Int) := by
        rcases Nat.eq_zero_or_pos s.size with h0 | h0
        · exfalso
          apply h
          have : s.toList.length = 0 := by rw [ByteArray.toList_eq]; simpa using h0
          exact List.eq_nil_of_length_eq_zero this
        · omega
      obtain ⟨b, hb⟩ := head_some (bt s 0)
      obtain ⟨r, hr⟩ := name_j0 s hs (!b)
      exact ⟨r, ze h (ze h1 (zc h2 (zx hb hr)))⟩
theorem template_loop (s : ByteArray) (hs : s.size ≤ 140737488351232) (d : Nat) : ∀ i : Nat, s.size ≤ i + d → i ≤ s.size + 1 → ∃ b, Ev (fun k => zK.l0 k s (i : Int)) b := by
  induction d with
  | zero =>
    intro i hi _
    refine ⟨true, zu (fun k => zK.l0.eq_2 _ _ _) ?_⟩
    refine ze (by omega) ?_
    exact zn
  | succ d ih =>
    intro i hi hi2
    by_cases h0 : (i : Int) < (s.size : Int)
    · have hw := qC (i := i) (by omega)
      have hw2 := qC (i := i + 1) (by omega)
      have pre : ∀ r, Ev (fun k => if bt s (i : Int) = 37 then (if (((i + 1 : Nat) : Int)) = (s.size : Int) then some false else if 0 ≤ ((i + 1 : Nat) : Int) then if ((i + 1 : Nat) : Int) < (s.size : Int) then if bt s ((i + 1 : Nat) : Int) = 37 then zK.l0 k s (((i + 1 + 1 : Nat) : Int)) else if bt s ((i + 1 : Nat) : Int) < 48 then some false else if bt s ((i + 1 : Nat) : Int) > 57 then some false else zK.l0 k s (((i + 1 + 1 : Nat) : Int)) else none else none) else zK.l0 k s ((i + 1 : Nat) : Int)) r → Ev (fun k => zK.l0 k s (i : Int)) r := by
        intro r h
        refine zu (fun k => zK.l0.eq_2 _ _ _) ?_
        refine zc h0 ?_
        refine zc (by omega) ?_
        rw [hw, hw2]
        exact h
      obtain ⟨q, hq⟩ := ih (i + 1) (by omega) (by omega)
      by_cases h1 : bt s (i : Int) = 37
      · by_cases h2 : (((i + 1 : Nat) : Int)) = (s.size : Int)
        · exact ⟨false, pre _ (zc h1 (zc h2 zn))⟩
        · obtain ⟨q2, hq2⟩ := ih (i + 1 + 1) (by omega) (by omega)
          by_cases h3 : bt s ((i + 1 : Nat) : Int) = 37
          · exact ⟨q2, pre _ (zc h1 (ze h2 (zc (by omega) (zc (by omega) (zc h3 hq2)))))⟩
          · by_cases h4 : bt s ((i + 1 : Nat) : Int) < 48
            · exact ⟨false, pre _ (zc h1 (ze h2 (zc (by omega) (zc (by omega) (ze h3 (zc h4 zn))))))⟩
            · by_cases h5 : bt s ((i + 1 : Nat) : Int) > 57
              · exact ⟨false, pre _ (zc h1 (ze h2 (zc (by omega) (zc (by omega) (ze h3 (ze h4 (zc h5 zn)))))))⟩
              · exact ⟨q2, pre _ (zc h1 (ze h2 (zc (by omega) (zc (by omega) (ze h3 (ze h4 (ze h5 hq2)))))))⟩
      · exact ⟨q, pre _ (ze h1 hq)⟩
    · refine ⟨true, zu (fun k => zK.l0.eq_2 _ _ _) ?_⟩
      exact ze h0 zn
theorem jh (s : ByteArray) (hs : s.size ≤ 140737488351232) : ∃ r, Ev (fun k => zK.f k s) r := by
  unfold zK.f
  by_cases h : (s.size : Int) > 255
  · exact ⟨false, zc h zn⟩
  · obtain ⟨q, hq⟩ := template_loop s hs s.size 0 (by omega) (by omega)
    exact ⟨q, ze h hq⟩
theorem fields_j1 (x : Bool) (op n : Int) (s : ByteArray) (hs : s.size ≤ 140737488351232) (w0 w1 w2 w3 : Int) : ∃ r, Ev (fun k => zE.j1 k x op n s w0 w1 w2 w3) r := by
  have pre : ∀ r, Ev (fun k => if x = true then some false else if op = 4 then (if s.toList = ([] : List UInt8) then some false else some (decide ((s.size : Int) ≤ 255))) else if op = 6 then (zD.f k s).bind fun t => some t else if op = 19 then (if s.toList = ([] : List UInt8) then some true else (zD.f k s).bind fun t => some t) else if op = 22 then (zK.f k s).bind fun t => some t else some (s.toList == ([] : List UInt8))) r → Ev (fun k => zE.j1 k x op n s w0 w1 w2 w3) r :=
    fun r h => zu (fun k => zE.j1.eq_2 _ _ _ _ _ _ _ _ _) h
  obtain ⟨a, ha⟩ := name_total s hs
  obtain ⟨b, hb⟩ := jh s hs
  cases x with
  | true => exact ⟨_, pre _ (zc rfl zn)⟩
  | false =>
    by_cases h4 : op = 4
    · by_cases he : s.toList = ([] : List UInt8)
      · exact ⟨_, pre _ (ze (by decide) (zc h4 (zc he zn)))⟩
      · exact ⟨_, pre _ (ze (by decide) (zc h4 (ze he zn)))⟩
    · by_cases h6 : op = 6
      · exact ⟨_, pre _ (ze (by decide) (ze h4 (zc h6 (zA ha zn))))⟩
      · by_cases h19 : op = 19
        · by_cases he : s.toList = ([] : List UInt8)
          · exact ⟨_, pre _ (ze (by decide) (ze h4 (ze h6 (zc h19 (zc he zn)))))⟩
          · exact ⟨_, pre _ (ze (by decide) (ze h4 (ze h6 (zc h19 (ze he (zA ha zn))))))⟩
        · by_cases h22 : op = 22
          · exact ⟨_, pre _ (ze (by decide) (ze h4 (ze h6 (ze h19 (zc h22 (zA hb zn))))))⟩
          · exact ⟨_, pre _ (ze (by decide) (ze h4 (ze h6 (ze h19 (ze h22 zn)))))⟩
theorem fields_j0 (x : Bool) (op n : Int) (s : ByteArray) (hs : s.size ≤ 140737488351232) (w0 w1 w2 w3 : Int) : ∃ r, Ev (fun k => zE.j0 k x op n s w0 w1 w2 w3) r := by
  have pre : ∀ r, Ev (fun k => if x = true then some false else if n < 0 then zE.j1 k true op n s w0 w1 w2 w3 else if n > 50 then zE.j1 k true op n s w0 w1 w2 w3 else if n > 0 then (xC.f op).bind fun t => zE.j1 k (!t) op n s w0 w1 w2 w3 else zE.j1 k false op n s w0 w1 w2 w3) r → Ev (fun k => zE.j0 k x op n s w0 w1 w2 w3) r :=
    fun r h => zu (fun k => zE.j0.eq_2 _ _ _ _ _ _ _ _ _) h
  cases x with
  | true => exact ⟨_, pre _ (zc rfl zn)⟩
  | false =>
    obtain ⟨a, ha⟩ := fields_j1 true op n s hs w0 w1 w2 w3
    obtain ⟨b, hb⟩ := fields_j1 false op n s hs w0 w1 w2 w3
    by_cases h1 : n < 0
    · exact ⟨_, pre _ (ze (by decide) (zc h1 ha))⟩
    · by_cases h2 : n > 50
      · exact ⟨_, pre _ (ze (by decide) (ze h1 (zc h2 ha)))⟩
      · by_cases h3 : n > 0
        · obtain ⟨c, hc⟩ := counted_some op
          obtain ⟨d, hd⟩ := fields_j1 (!c) op n s hs w0 w1 w2 w3
          exact ⟨_, pre _ (ze (by decide) (ze h1 (ze h2 (zc h3 (zx hc hd)))))⟩
        · exact ⟨_, pre _ (ze (by decide) (ze h1 (ze h2 (ze h3 hb))))⟩
theorem fields_total (op n : Int) (s : ByteArray) (hs : s.size ≤ 140737488351232) (w0 w1 w2 w3 : Int) : ∃ r, Ev (fun k => zE.f k op n s w0 w1 w2 w3) r := by
  unfold zE.f
  by_cases h : op = 5
  · obtain ⟨r, hr⟩ := fields_j0 false op n s hs w0 w1 w2 w3
    exact ⟨r, zc h hr⟩
  · obtain ⟨r, hr⟩ := fields_j0 _ op n s hs w0 w1 w2 w3
    exact ⟨r, ze h hr⟩
def pany : S63 := ⟨3, 0, ⟨#[]⟩, ⟨0, 0, 0, 0⟩⟩
theorem any_fields : Ev (fun k => zE.f k 3 0 ⟨#[]⟩ 0 0 0 0) true := by
  unfold zE.f
  refine ze (by decide) ?_
  refine zu (fun k => zE.j0.eq_2 _ _ _ _ _ _ _ _ _) ?_
  refine ze (by decide) (ze (by decide) (ze (by decide) (ze (by decide) ?_)))
  refine zu (fun k => zE.j1.eq_2 _ _ _ _ _ _ _ _ _) ?_
  refine ze (by decide) (ze (by decide) (ze (by decide) (ze (by decide) (ze (by decide) ?_))))
  have h : ((⟨#[]⟩ : ByteArray).toList == ([] : List UInt8)) = true := by decide +kernel
  rw [h]
  exact zn
theorem w01 : wrap64 (0 + 1) = 1 := qZ (by decide) (by decide)
theorem w11 : wrap64 (1 + 1) = 2 := qZ (by decide) (by decide)
theorem w1m : wrap64 (1 - 1) = 0 := qZ (by decide) (by decide)
theorem w2m : wrap64 (2 - 1) = 1 := qZ (by decide) (by decide)
theorem each_any (rest : List S63) (r : Int × Int)
    (h : Ev (fun k => qa.l0 k (pany :: rest) [⟨0, 1⟩] (pany :: rest) (((pany :: rest).length : Nat) : Int) 1) r) :
    Ev (fun k => qa.l0 k (pany :: rest) [] (pany :: rest) (((pany :: rest).length : Nat) : Int) 0) r := by
  have hl : (((pany :: rest).length : Nat) : Int) = (rest.length : Int) + 1 := by simp
  have hr : zi (pany :: rest) 0 = pany := rfl
  refine zu (fun k => qa.l0.eq_2 _ _ _ _ _ _) ?_
  refine zc (by omega) (zc (by omega) (zc (by omega) ?_))
  rw [hr]
  refine zA (y := 0) (arity_ev 3) ?_
  refine ze (by decide) ?_
  refine zA (y := true) any_fields ?_
  refine zc rfl ?_
  refine zu (fun k => qa.l1.eq_2 _ _ _ _ _ _ _ _ _ _ _ _ _ _ _ _ _ _) ?_
  refine ze (by decide) ?_
  rw [w01]
  refine ze (by decide) (zc (by decide) ?_)
  exact zx (y := ()) rfl h
theorem check_any : Ev (fun k => xy.f k [pany]) (0, 0) := by
  unfold xy.f
  refine ze (by decide) ?_
  refine zA (y := (0, 0)) ?_ zn
  unfold qa.f
  refine zc (by decide) (zc (by decide) ?_)
  refine each_any [] _ ?_
  refine zu (fun k => qa.l0.eq_2 _ _ _ _ _ _) ?_
  have hl : (([pany].length : Nat) : Int) = 1 := rfl
  rw [hl, w1m]
  refine ze (by decide) (ze (by decide) ?_)
  refine zc (by decide) (zc (by decide) (zc (by decide) ?_))
  exact zn
theorem check_pair (op n : Int) (s : ByteArray) (w0 w1 w2 w3 : Int) (har : arF op = 1) (b : Bool) (hb : Ev (fun k => zE.f k op n s w0 w1 w2 w3) b) :
    Ev (fun k => xy.f k [pany, ⟨op, n, s, ⟨w0, w1, w2, w3⟩⟩]) (if b = true then (0, 0) else (1, 41)) := by
  unfold xy.f
  refine ze (by simp) ?_
  refine zA (y := (if b = true then (0, 0) else (1, 41))) ?_ zn
  unfold qa.f
  refine zc (by simp) (zc (by simp) ?_)
  refine each_any [⟨op, n, s, ⟨w0, w1, w2, w3⟩⟩] _ ?_
  have hr : zi [pany, ⟨op, n, s, ⟨w0, w1, w2, w3⟩⟩] 1 = ⟨op, n, s, ⟨w0, w1, w2, w3⟩⟩ := rfl
  refine zu (fun k => qa.l0.eq_2 _ _ _ _ _ _) ?_
  refine zc (by simp) (zc (by decide) (zc (by simp) ?_))
  rw [hr]
  refine zA (y := 1) (har ▸ arity_ev op) ?_
  refine ze (by decide) ?_
  refine zA hb ?_
  cases b with
  | false => exact ze (by decide) zn
  | true =>
    refine zc rfl ?_
    simp only [if_true]
    refine zu (fun k => qa.l1.eq_2 _ _ _ _ _ _ _ _ _ _ _ _ _ _ _ _ _ _) ?_
    rw [w1m, w01]
    refine zc (by decide) (ze (by decide) (zc (by decide) (zc (by decide) (ze (by decide) ?_))))
    refine zu (fun k => qa.l1.eq_2 _ _ _ _ _ _ _ _ _ _ _ _ _ _ _ _ _ _) ?_
    have hm : mx 0 ((zT [⟨0, 1⟩] 0).f1) = 1 := by decide
    rw [hm, w11]
    refine ze (by decide) (ze (by decide) (zc (by decide) ?_))
    refine zx (y := ()) rfl ?_
    refine zu (fun k => qa.l0.eq_2 _ _ _ _ _ _) ?_
    have hl : (([pany, ⟨op, n, s, ⟨w0, w1, w2, w3⟩⟩].length : Nat) : Int) = 2 := rfl
    rw [hl, w2m]
    refine ze (by decide) (ze (by decide) (zc (by decide) (zc (by decide) (zc (by decide) ?_))))
    exact zn
theorem join_ev (op n : Int) (s : ByteArray) (w0 w1 w2 w3 : Int) (har : arF op = 1) (b : Bool) (hb : Ev (fun k => zE.f k op n s w0 w1 w2 w3) b) :
    ∃ l, Ev (fun k => xi.f k op n s w0 w1 w2 w3 [[pany]]) (l, if b = true then 0 else 41) := by
  unfold xi.f
  cases b with
  | false =>
    refine ⟨[], ?_⟩
    refine zA (y := 1) (har ▸ arity_ev op) ?_
    refine ze (by decide) (zA hb ?_)
    exact ze (by decide) zn
  | true =>
    refine ⟨[pany, ⟨op, n, s, ⟨w0, w1, w2, w3⟩⟩], ?_⟩
    refine zA (y := 1) (har ▸ arity_ev op) ?_
    refine ze (by decide) (zA hb ?_)
    refine zc rfl (zc (by decide) ?_)
    refine zu (fun k => xi.l0.eq_2 _ _ _ _ _ _ _ _ _ _ _ _) ?_
    refine zc (by decide) (zc (by decide) (zc (by decide) ?_))
    have hr : rd_L6 [[pany]] 0 = [pany] := rfl
    rw [hr]
    refine zA check_any ?_
    refine zc rfl (zc (by decide) ?_)
    rw [w01]
    refine zu (fun k => xi.l0.eq_2 _ _ _ _ _ _ _ _ _ _ _ _) ?_
    refine ze (by decide) (zc (by decide) ?_)
    refine zA (y := ([pany, ⟨op, n, s, ⟨w0, w1, w2, w3⟩⟩], 0)) ?_ zn
    unfold jk.f
    refine zA (check_pair op n s w0 w1 w2 w3 har true hb) ?_
    exact zc rfl zn
theorem capture_ev (c n : Int) (s : ByteArray) (h2 : 2 ≤ c) (h7 : c ≤ 7) (b : Bool) (hb : Ev (fun k => zE.f k (c + 16) n s 0 0 0 0) b) : Ev (fun k => qI.f k c n s) b := by
  unfold qI.f
  refine ze (by omega) ?_
  have hw : wrap64 (wrap64 (c - 2) + 18) = c + 16 := by rw [qZ (x := c - 2) (by omega) (by omega), qZ (by omega) (by omega)]; omega
  rw [hw]
  have har : arF (c + 16) = 1 := by
    unfold arF
    rw [if_neg (by omega), if_neg (by omega), if_pos (by omega)]
  obtain ⟨l, hl⟩ := join_ev (c + 16) n s 0 0 0 0 har b hb
  refine zA hl ?_
  cases b with
  | true => exact zn
  | false => exact zn
theorem capture_total (c n : Int) (s : ByteArray) (hs : s.size ≤ 140737488351232) (h1 : 1 ≤ c) (h7 : c ≤ 7) : ∃ b, Ev (fun k => qI.f k c n s) b := by
  by_cases hc : c = 1
  · subst hc
    unfold qI.f
    by_cases hn : n = 0
    · exact ⟨_, zc rfl (zc hn zn)⟩
    · exact ⟨_, zc rfl (ze hn zn)⟩
  · obtain ⟨b, hb⟩ := fields_total (c + 16) n s hs 0 0 0 0
    exact ⟨b, capture_ev c n s (by omega) h7 b hb⟩
theorem fits_j0 (op : Int) (x9 : Bool) (a0 a1 a2 a3 : Int) (a4 : ByteArray) (a5 a6 a7 a8 : Int) (hs : a4.size ≤ 140737488351232) : ∃ b, Ev (fun k => ql.j0 k op x9 a0 a1 a2 a3 a4 a5 a6 a7 a8) b := by
  have pre : ∀ r, Ev (fun k => if x9 = true then (if a2 ≥ 0 then some (decide (a2 ≤ 255)) else some false) else if op = 18 then (if a2 ≥ 2 then (if a2 ≤ 7 then (qI.f k a2 a3 a4).bind fun t => some t else some false) else some false) else if op = 20 then (if a2 < 1 then some false else if a2 > 7 then some false else if a1 < 0 then some false else if a1 > 255 then some false else if a2 = 1 then (if a1 > 0 then some false else (qI.f k a2 a3 a4).bind fun t => some t) else (qI.f k a2 a3 a4).bind fun t => some t) else some true) r → Ev (fun k => ql.j0 k op x9 a0 a1 a2 a3 a4 a5 a6 a7 a8) r :=
    fun r h => zu (fun k => ql.j0.eq_2 _ _ _ _ _ _ _ _ _ _ _ _) h
  cases x9 with
  | true =>
    by_cases h : a2 ≥ 0
    · exact ⟨_, pre _ (zc rfl (zc h zn))⟩
    · exact ⟨_, pre _ (zc rfl (ze h zn))⟩
  | false =>
    by_cases h18 : op = 18
    · by_cases h2 : a2 ≥ 2
      · by_cases h7 : a2 ≤ 7
        · obtain ⟨b, hb⟩ := capture_total a2 a3 a4 hs (by omega) h7
          exact ⟨_, pre _ (ze (by decide) (zc h18 (zc h2 (zc h7 (zA hb zn)))))⟩
        · exact ⟨_, pre _ (ze (by decide) (zc h18 (zc h2 (ze h7 zn))))⟩
      · exact ⟨_, pre _ (ze (by decide) (zc h18 (ze h2 zn)))⟩
    · by_cases h20 : op = 20
      · by_cases c1 : a2 < 1
        · exact ⟨_, pre _ (ze (by decide) (ze h18 (zc h20 (zc c1 zn))))⟩
        · by_cases c2 : a2 > 7
          · exact ⟨_, pre _ (ze (by decide) (ze h18 (zc h20 (ze c1 (zc c2 zn)))))⟩
          · by_cases c3 : a1 < 0
            · exact ⟨_, pre _ (ze (by decide) (ze h18 (zc h20 (ze c1 (ze c2 (zc c3 zn))))))⟩
            · by_cases c4 : a1 > 255
              · exact ⟨_, pre _ (ze (by decide) (ze h18 (zc h20 (ze c1 (ze c2 (ze c3 (zc c4 zn)))))))⟩
              · obtain ⟨b, hb⟩ := capture_total a2 a3 a4 hs (by omega) (by omega)
                by_cases c5 : a2 = 1
                · by_cases c6 : a1 > 0
                  · exact ⟨_, pre _ (ze (by decide) (ze h18 (zc h20 (ze c1 (ze c2 (ze c3 (ze c4 (zc c5 (zc c6 zn)))))))))⟩
                  · exact ⟨_, pre _ (ze (by decide) (ze h18 (zc h20 (ze c1 (ze c2 (ze c3 (ze c4 (zc c5 (ze c6 (zA hb zn))))))))))⟩
                · exact ⟨_, pre _ (ze (by decide) (ze h18 (zc h20 (ze c1 (ze c2 (ze c3 (ze c4 (ze c5 (zA hb zn)))))))))⟩
      · exact ⟨_, pre _ (ze (by decide) (ze h18 (ze h20 zn)))⟩
theorem fits_total (x : S34) (h0 : 1 ≤ x.f0) (h1 : x.f0 ≤ 20) (hs : x.f4.size ≤ 140737488351232) : ∃ b, Ev (fun k => ql.f k x.f0 x.f1 x.f2 x.f3 x.f4 x.f5.f0 x.f5.f1 x.f5.f2 x.f5.f3) b := by
  unfold ql.f
  have hp : ∃ t, qo.f x.f0 x.f1 x.f2 x.f3 x.f4 x.f5.f0 x.f5.f1 x.f5.f2 x.f5.f3 = some t := by
    unfold qo.f
    rw [if_pos (by omega), if_pos (by omega)]
    exact ⟨_, rfl⟩
  obtain ⟨t, ht⟩ := hp
  have key : ∀ c : Bool, ∃ b, Ev (fun k => if c = true then some false else if x.f0 = 2 then ql.j0 k x.f0 (x.f0 == 2) x.f0 x.f1 x.f2 x.f3 x.f4 x.f5.f0 x.f5.f1 x.f5.f2 x.f5.f3 else ql.j0 k x.f0 (x.f0 == 5) x.f0 x.f1 x.f2 x.f3 x.f4 x.f5.f0 x.f5.f1 x.f5.f2 x.f5.f3) b := by
    intro c
    cases c with
    | true => exact ⟨_, zc rfl zn⟩
    | false =>
      by_cases h2 : x.f0 = 2
      · obtain ⟨b, hb⟩ := fits_j0 x.f0 (x.f0 == 2) x.f0 x.f1 x.f2 x.f3 x.f4 x.f5.f0 x.f5.f1 x.f5.f2 x.f5.f3 hs
        exact ⟨b, ze (by decide) (zc h2 hb)⟩
      · obtain ⟨b, hb⟩ := fits_j0 x.f0 (x.f0 == 5) x.f0 x.f1 x.f2 x.f3 x.f4 x.f5.f0 x.f5.f1 x.f5.f2 x.f5.f3 hs
        exact ⟨b, ze (by decide) (ze h2 hb)⟩
  obtain ⟨b, hb⟩ := key _
  exact ⟨b, zx ht hb⟩
theorem has_ev (op bit : Int) (h0 : 0 ≤ op) (h1 : op < 21) : zC.f op bit = some (hasB op bit) := by
  unfold zC.f
  rw [if_pos h0, if_pos h1]
  rfl
structure xb (l : List S34) : Prop where
  pos : 0 < l.length
  len : l.length ≤ 8192
  op : ∀ (i : Nat) (h : i < l.length), 1 ≤ l[i].f0 ∧ l[i].f0 ≤ 20
  goes : ∀ (i : Nat) (h : i < l.length), hasB l[i].f0 32 = true → 0 ≤ (i : Int) + l[i].f1 ∧ (i : Int) + l[i].f1 < l.length
  last : ∀ (h : l.length - 1 < l.length), hasB l[l.length - 1].f0 64 = false
theorem rd34 (l : List S34) (i : Nat) (h : i < l.length) : za l (i : Int) = l[i] := by simp [za, List.getD_eq_getElem?_getD, List.getElem?_eq_getElem h]
theorem check_loop (l : List S34) (hl : l.length ≤ 8192) (hp : 0 < l.length) (hs : ∀ x ∈ l, x.f4.size ≤ 140737488351232) (d : Nat) : ∀ i : Nat, i + d = l.length →
    (∀ (j : Nat) (h : j < l.length), j < i → (1 ≤ l[j].f0 ∧ l[j].f0 ≤ 20) ∧ (hasB l[j].f0 32 = true → 0 ≤ (j : Int) + l[j].f1 ∧ (j : Int) + l[j].f1 < l.length)) →
    ∃ r : Int × Int, Ev (fun k => zJ.l0 k l l (l.length : Int) (i : Int)) r ∧ (r.2 = 0 → r = (0, 0) ∧ xb l) := by
  induction d with
  | zero =>
    intro i hi hj
    have hw : wrap64 ((l.length : Int) - 1) = ((l.length - 1 : Nat) : Int) := by rw [qZ (by omega) (by omega)]; omega
    have hlast := (hj (l.length - 1) (by omega) (by omega)).1
    have hh := has_ev (l[l.length - 1].f0) 64 (by omega) (by omega)
    have pre : ∀ r, Ev (fun k => if hasB l[l.length - 1].f0 64 = true then some (((l.length - 1 : Nat) : Int), (163 : Int)) else some (0, 0)) r → Ev (fun k => zJ.l0 k l l (l.length : Int) (i : Int)) r := by
      intro r h
      refine zu (fun k => zJ.l0.eq_2 _ _ _ _ _) ?_
      refine ze (by omega) ?_
      rw [hw, rd34 l (l.length - 1) (by omega)]
      refine zc (by omega) (zc (by omega) ?_)
      exact zx hh h
    cases hb : hasB l[l.length - 1].f0 64 with
    | true =>
      exact ⟨(((l.length - 1 : Nat) : Int), (163 : Int)), pre _ (zc hb zn), fun h => absurd h (by simp)⟩
    | false =>
      exact ⟨(0, 0), pre _ (ze (by rw [hb]; decide) zn), fun _ => ⟨rfl, hp, hl, fun j h => (hj j h (by omega)).1, fun j h => (hj j h (by omega)).2, fun _ => hb⟩⟩
  | succ d ih =>
    intro i hi hj
    have hil : i < l.length := by omega
    have hw := qC (i := i) (by omega)
    have hrd := rd34 l i hil
    have hn : wrap64 (-(i : Int)) = -(i : Int) := qZ (by omega) (by omega)
    have hn2 : wrap64 ((l.length : Int) - (i : Int)) = (l.length : Int) - (i : Int) := qZ (by omega) (by omega)
    have pre : ∀ r, Ev (fun k => (xF.f l[i].f0).bind fun t => if t = true then ((ql.f k l[i].f0 l[i].f1 l[i].f2 l[i].f3 l[i].f4 l[i].f5.f0 l[i].f5.f1 l[i].f5.f2 l[i].f5.f3).bind fun t => if t = true then ((zC.f l[i].f0 32).bind fun t => if t = true then (if l[i].f1 < -(i : Int) then some ((i : Int), (162 : Int)) else if l[i].f1 ≥ (l.length : Int) - (i : Int) then some ((i : Int), 162) else zJ.l0 k l l (l.length : Int) ((i + 1 : Nat) : Int)) else zJ.l0 k l l (l.length : Int) ((i + 1 : Nat) : Int)) else some ((i : Int), 161)) else some ((i : Int), 160)) r → Ev (fun k => zJ.l0 k l l (l.length : Int) (i : Int)) r := by
      intro r h
      refine zu (fun k => zJ.l0.eq_2 _ _ _ _ _) ?_
      refine zc (by omega) (zc (by omega) (zc (by omega) ?_))
      rw [hrd, hw, hn, hn2]
      exact h
    have his : xF.f l[i].f0 = some (decide (1 ≤ l[i].f0 ∧ l[i].f0 ≤ 20)) := by
      unfold xF.f
      by_cases h1 : l[i].f0 ≥ 1
      · rw [if_pos h1]; congr 1; simp; omega
      · rw [if_neg h1]; congr 1; simp; omega
    by_cases hop : 1 ≤ l[i].f0 ∧ l[i].f0 ≤ 20
    · rw [decide_eq_true hop] at his
      obtain ⟨b, hb⟩ := fits_total l[i] hop.1 hop.2 (hs _ (List.getElem_mem hil))
      have hh := has_ev l[i].f0 32 (by omega) (by omega)
      cases b with
      | false => exact ⟨_, pre _ (zx his (zc rfl (zA hb (ze (by decide) zn)))), fun h => absurd h (by simp)⟩
      | true =>
        cases hg : hasB l[i].f0 32 with
        | false =>
          obtain ⟨r, hr, hr2⟩ := ih (i + 1) (by omega) (fun j h hj1 => by
            by_cases hji : j < i
            · exact hj j h hji
            · obtain rfl : j = i := by omega
              exact ⟨hop, fun h => by rw [hg] at h; cases h⟩)
          rw [hg] at hh
          exact ⟨r, pre _ (zx his (zc rfl (zA hb (zc rfl (zx hh (ze (by decide) hr)))))), hr2⟩
        | true =>
          rw [hg] at hh
          by_cases c1 : l[i].f1 < -(i : Int)
          · exact ⟨_, pre _ (zx his (zc rfl (zA hb (zc rfl (zx hh (zc rfl (zc c1 zn))))))), fun h => absurd h (by simp)⟩
          · by_cases c2 : l[i].f1 ≥ (l.length : Int) - (i : Int)
            · exact ⟨_, pre _ (zx his (zc rfl (zA hb (zc rfl (zx hh (zc rfl (ze c1 (zc c2 zn)))))))), fun h => absurd h (by simp)⟩
            · obtain ⟨r, hr, hr2⟩ := ih (i + 1) (by omega) (fun j h hj1 => by
                by_cases hji : j < i
                · exact hj j h hji
                · obtain rfl : j = i := by omega
                  exact ⟨hop, fun _ => by omega⟩)
              exact ⟨r, pre _ (zx his (zc rfl (zA hb (zc rfl (zx hh (zc rfl (ze c1 (ze c2 hr)))))))), hr2⟩
    · rw [decide_eq_false hop] at his
      exact ⟨_, pre _ (zx his (ze (by decide) zn)), fun h => absurd h (by simp)⟩
theorem check_total (l : List S34) (hs : ∀ x ∈ l, x.f4.size ≤ 140737488351232) : ∃ r : Int × Int, Ev (fun k => zJ.f k l) r ∧ (r.2 = 0 → r = (0, 0) ∧ xb l) := by
  unfold zJ.f
  by_cases h1 : (l.length : Int) > 8192
  · exact ⟨_, zc h1 zn, fun h => absurd h (by simp)⟩
  · by_cases h2 : (l.length : Int) = 0
    · exact ⟨_, ze h1 (zc h2 zn), fun h => absurd h (by simp)⟩
    · obtain ⟨r, hr, hr2⟩ := check_loop l (by omega) (by omega) hs l.length 0 (by omega) (fun j h hj => absurd hj (by omega))
      exact ⟨r, ze h1 (ze h2 hr), hr2⟩
def mix {α : Type} (T l : List α) (i : Nat) : List α := T.take i ++ l.drop i
section
variable {α : Type} {T l : List α} {i : Nat}
theorem mix_zero : mix T l 0 = l := by simp [mix]
theorem mix_full (h : T.length = l.length) : mix T l l.length = T := by unfold mix; rw [List.drop_length, List.append_nil, ← h, List.take_length]
theorem xP (h : T.length = l.length) (hi : i ≤ l.length) : (mix T l i).length = l.length := by simp [mix]; omega
theorem mix_get (h : T.length = l.length) (hi : i < l.length) (hm : i < (mix T l i).length) : (mix T l i)[i] = l[i] := by
  have e : (mix T l i)[i]? = some l[i] := by
    unfold mix
    rw [List.getElem?_append_right (by simp; omega)]
    simp [h, Nat.min_eq_left (Nat.le_of_lt hi), List.getElem?_eq_getElem hi]
  exact (List.getElem?_eq_some_iff.1 e).2
theorem jd (h : T.length = l.length) (hi : i < l.length) (v : α) (hv : T[i]? = some v) : (mix T l i).set i v = mix T l (i + 1) := by
  unfold mix
  have hiT : i < T.length := by omega
  have e : v = T[i] := by rw [List.getElem?_eq_getElem hiT] at hv; exact (Option.some.inj hv).symm
  subst e
  rw [List.set_append_right _ _ (by simp; omega), List.take_succ_eq_append_getElem hiT, List.append_assoc]
  congr 1
  rw [List.length_take, Nat.min_eq_left (Nat.le_of_lt hiT), Nat.sub_self, List.drop_eq_getElem_cons hi]
  rfl
theorem mix_same (h : T.length = l.length) (hi : i < l.length) (hv : T[i]? = some l[i]) : mix T l i = mix T l (i + 1) := by
  rw [← jd h hi _ hv]
  have hm : i < (mix T l i).length := by rw [xP h (Nat.le_of_lt hi)]; exact hi
  rw [← mix_get h hi hm, List.set_getElem_self]
end
theorem eta34 (x : S34) : (⟨x.f0, x.f1, x.f2, x.f3, x.f4, ⟨x.f5.f0, x.f5.f1, x.f5.f2, x.f5.f3⟩⟩ : S34) = x := rfl
theorem clone_ev (l : List S34) (h : l.length ≤ 8192) : qx.f l = some l := by
  unfold qx.f
  simp only [Option.bind_some, List.length_nil, List.nil_append]
  rw [if_pos (by omega)]
theorem rdm (T l : List S34) (i : Nat) (h : T.length = l.length) (hi : i < l.length) : za (mix T l i) (i : Int) = l[i] := by
  have hm : i < (mix T l i).length := by rw [xP h (Nat.le_of_lt hi)]; exact hi
  rw [rd34 _ _ hm, mix_get h hi hm]
def tailAt (l : List S34) (i : Nat) (x : S34) : S34 := if x.f0 = 15 ∧ (l.getD (i + 1) z34).f0 = 16 then { x with f0 := 14 } else x
def jq (l : List S34) : List S34 := l.mapIdx (tailAt l)
theorem qM (l : List S34) : (jq l).length = l.length := by simp [jq]
theorem tailF_get (l : List S34) (i : Nat) (h : i < l.length) : (jq l)[i]? = some (tailAt l i l[i]) := by simp [jq, List.getElem?_eq_getElem h]
theorem on15 : hasB 15 64 = true := by decide +kernel
theorem tails_loop (l : List S34) (R : xb l) (d : Nat) : ∀ i : Nat, i + d = l.length → Ev (fun k => qK.l0 k l (mix (jq l) l i) l (l.length : Int) (i : Int)) (jq l) := by
  have hl := R.len
  induction d with
  | zero =>
    intro i hi
    refine zu (fun k => qK.l0.eq_2 _ _ _ _ _ _) ?_
    refine ze (by omega) ?_
    obtain rfl : i = l.length := by omega
    rw [mix_full (qM l)]
    exact zn
  | succ d ih =>
    intro i hi
    have hil : i < l.length := by omega
    have hw := qC (i := i) (by omega)
    have hrd := rd34 l i hil
    have hT := tailF_get l i hil
    have hn := ih (i + 1) (by omega)
    refine zu (fun k => qK.l0.eq_2 _ _ _ _ _ _) ?_
    refine zc (by omega) (zc (by omega) (zc (by omega) ?_))
    rw [hrd, hw, rdm _ _ _ (qM l) hil]
    by_cases h15 : l[i].f0 = 15
    · have hi1 : i + 1 < l.length := by
        rcases Nat.lt_or_ge (i + 1) l.length with h | h
        · exact h
        · exfalso
          have := R.last (by omega)
          have hq : l.length - 1 = i := by omega
          simp only [hq, h15, on15] at this
          cases this
      have hrd1 := rd34 l (i + 1) hi1
      refine zc h15 (zc (by omega) (zc (by omega) ?_))
      rw [hrd1]
      have hg : l.getD (i + 1) z34 = l[i + 1] := by simp [List.getD_eq_getElem?_getD, List.getElem?_eq_getElem hi1]
      by_cases h16 : l[i + 1].f0 = 16
      · refine zc h16 (zc (by rw [xP (qM l) (by omega)]; omega) ?_)
        have ht : (jq l)[i]? = some (⟨14, l[i].f1, l[i].f2, l[i].f3, l[i].f4, ⟨l[i].f5.f0, l[i].f5.f1, l[i].f5.f2, l[i].f5.f3⟩⟩ : S34) := by
          rw [hT]; unfold tailAt; rw [if_pos ⟨h15, by rw [hg]; exact h16⟩]
        rw [Int.toNat_natCast, jd (qM l) hil _ ht]
        exact hn
      · refine ze h16 ?_
        rw [mix_same (qM l) hil (by rw [hT]; unfold tailAt; rw [if_neg (by rw [hg]; exact fun h => h16 h.2)])]
        exact hn
    · refine ze h15 ?_
      rw [mix_same (qM l) hil (by rw [hT]; unfold tailAt; rw [if_neg (fun h => h15 h.1)])]
      exact hn
theorem tails_ev (l : List S34) (R : xb l) : Ev (fun k => qK.f k l) (jq l) := by
  unfold qK.f
  refine zx (clone_ev l R.len) ?_
  have := tails_loop l R l.length 0 (by omega)
  rwa [mix_zero] at this
theorem goes_ev (op : Int) (h0 : 1 ≤ op) (h1 : op ≤ 20) : xV.f op = some (hasB op 32) := by
  have h : ∀ i : Fin 21, 1 ≤ i.val → xV.f (i.val : Int) = some (hasB (i.val : Int) 32) := by decide +kernel
  have := h ⟨op.toNat, by omega⟩ (by simp; omega)
  rwa [Int.toNat_of_nonneg (by omega)] at this
theorem jump14 : hasB 14 32 = true := by decide +kernel
def tgt (l : List S34) (i : Nat) : Nat := ((i : Int) + (l.getD i z34).f1).toNat
def chain (l : List S34) : Nat → Nat → Option Nat
  | 0, i => if (l.getD i z34).f0 = 14 then none else some i
  | m + 1, i => if (l.getD i z34).f0 = 14 then chain l m (tgt l i) else some i
theorem xh (l : List S34) (i : Nat) (h : i < l.length) : l.getD i z34 = l[i] := by simp [List.getD_eq_getElem?_getD, List.getElem?_eq_getElem h]
theorem jb {l : List S34} (R : xb l) (i : Nat) (h : i < l.length) (hg : hasB l[i].f0 32 = true) : tgt l i < l.length ∧ ((tgt l i : Nat) : Int) = (i : Int) + l[i].f1 := by
  have := R.goes i h hg
  unfold tgt
  rw [xh l i h]
  omega
theorem chain_lt {l : List S34} (R : xb l) : ∀ (m i t : Nat), i < l.length → chain l m i = some t → t < l.length ∧ (l.getD t z34).f0 ≠ 14 := by
  intro m
  induction m with
  | zero =>
    intro i t hi h
    unfold chain at h
    split at h
    · cases h
    · rename_i h14; cases h; exact ⟨hi, h14⟩
  | succ m ih =>
    intro i t hi h
    unfold chain at h
    split at h
    · rename_i h14
      rw [xh l i hi] at h14
      exact ih _ _ (jb R i hi (by rw [h14]; exact jump14)).1 h
    · rename_i h14; cases h; exact ⟨hi, h14⟩
def endR : Option Nat → Int × Bool
  | some t => ((t : Int), true)
  | none => (0, false)
theorem end_loop (l : List S34) (R : xb l) (m : Nat) : ∀ (i s : Nat), i < l.length → s + m = l.length + 1 → Ev (fun k => xn.l0 k l (i : Int) (s : Int)) (endR (chain l m i)) := by
  have hl := R.len
  induction m with
  | zero =>
    intro i s hi hs
    refine zu (fun k => xn.l0.eq_2 _ _ _ _) ?_
    refine zc (by omega) (zc (by omega) ?_)
    rw [rd34 l i hi]
    unfold chain
    rw [xh l i hi]
    by_cases h : l[i].f0 = 14
    · rw [if_pos h]
      exact zc h (zc (by omega) zn)
    · rw [if_neg h]
      exact ze h zn
  | succ m ih =>
    intro i s hi hs
    refine zu (fun k => xn.l0.eq_2 _ _ _ _) ?_
    refine zc (by omega) (zc (by omega) ?_)
    rw [rd34 l i hi]
    unfold chain
    rw [xh l i hi]
    by_cases h : l[i].f0 = 14
    · rw [if_pos h]
      have ht := jb R i hi (by rw [h]; exact jump14)
      refine zc h (ze (by omega) ?_)
      rw [qC (i := s) (by omega), qZ (x := (i : Int) + l[i].f1) (by omega) (by omega), ← ht.2]
      exact ih _ _ ht.1 (by omega)
    · rw [if_neg h]
      exact ze h zn
def endOf (l : List S34) (i : Nat) : Option Nat := chain l (l.length + 1) (tgt l i)
theorem end_ev (l : List S34) (R : xb l) (i : Nat) (hi : i < l.length) (hg : hasB l[i].f0 32 = true) : Ev (fun k => xn.f k l (i : Int)) (endR (endOf l i)) := by
  have hl := R.len
  have ht := jb R i hi hg
  unfold xn.f
  refine zc (by omega) (zc (by omega) ?_)
  rw [rd34 l i hi, qZ (x := (i : Int) + l[i].f1) (by omega) (by omega), ← ht.2]
  exact end_loop l R (l.length + 1) _ 0 ht.1 (by omega)
def stops (op : Int) : Bool := op == 16 || (op == 17 || (op == 13 || op == 12))
def xz (l : List S34) (i : Nat) (x : S34) : S34 :=
  if hasB x.f0 32 = true then match endOf l i with
    | some t => if stops (l.getD t z34).f0 = true ∧ x.f0 = 14 then l.getD t z34 else { x with f1 := (t : Int) - (i : Int) }
    | none => x
  else x
def zN (l : List S34) : List S34 := l.mapIdx (xz l)
theorem qk (l : List S34) : (zN l).length = l.length := by simp [zN]
theorem threadF_get (l : List S34) (i : Nat) (h : i < l.length) : (zN l)[i]? = some (xz l i l[i]) := by simp [zN, List.getElem?_eq_getElem h]
theorem threads_loop (l : List S34) (R : xb l) (d : Nat) : ∀ i : Nat, i + d = l.length → Ev (fun k => zX.l0 k l (mix (zN l) l i) l (l.length : Int) (i : Int)) (zN l) := by
  have hl := R.len
  induction d with
  | zero =>
    intro i hi
    refine zu (fun k => zX.l0.eq_2 _ _ _ _ _ _) ?_
    refine ze (by omega) ?_
    obtain rfl : i = l.length := by omega
    rw [mix_full (qk l)]
    exact zn
  | succ d ih =>
    intro i hi
    have hil : i < l.length := by omega
    have hw := qC (i := i) (by omega)
    have hT := threadF_get l i hil
    have hn := ih (i + 1) (by omega)
    have hop := R.op i hil
    have hge := goes_ev l[i].f0 hop.1 hop.2
    refine zu (fun k => zX.l0.eq_2 _ _ _ _ _ _) ?_
    refine zc (by omega) (zc (by omega) (zc (by omega) ?_))
    rw [rd34 l i hil, hw, rdm _ _ _ (qk l) hil]
    refine zx hge ?_
    cases hg : hasB l[i].f0 32 with
    | false =>
      refine ze (by decide) ?_
      rw [mix_same (qk l) hil (by rw [hT]; unfold xz; rw [hg]; rfl)]
      exact hn
    | true =>
      refine zc rfl ?_
      have hend := end_ev l R i hil hg
      cases he : endOf l i with
      | none =>
        rw [he] at hend
        refine zA (y := (0, false)) hend ?_
        refine ze (by decide) ?_
        rw [mix_same (qk l) hil (by rw [hT]; unfold xz; rw [hg, he]; rfl)]
        exact hn
      | some t =>
        obtain ⟨ht, ht14⟩ := chain_lt R _ _ t (jb R i hil hg).1 he
        have htg := xh l t ht
        rw [he] at hend
        refine zA (y := ((t : Int), true)) hend ?_
        refine zc rfl ?_
        have hml := xP (qk l) (Nat.le_of_lt hil)
        refine zc (by rw [hml]; omega) ?_
        have hwt : wrap64 ((t : Int) - (i : Int)) = (t : Int) - (i : Int) := qZ (by omega) (by omega)
        rw [hwt, Int.toNat_natCast]
        refine zx rfl ?_
        have j1 : ∀ b : Bool, b = stops l[t].f0 → Ev (fun k => zX.j1 k l ((mix (zN l) l i).set i (⟨l[i].f0, (t : Int) - (i : Int), l[i].f2, l[i].f3, l[i].f4, ⟨l[i].f5.f0, l[i].f5.f1, l[i].f5.f2, l[i].f5.f3⟩⟩ : S34)) (i : Int) (t : Int) l (l.length : Int) (i : Int) b l[i].f0 l[i].f1 l[i].f2 l[i].f3 l[i].f4 l[i].f5.f0 l[i].f5.f1 l[i].f5.f2 l[i].f5.f3) (zN l) := by
          intro b hb
          refine zu (fun k => zX.j1.eq_2 _ _ _ _ _ _ _ _ _ _ _ _ _ _ _ _ _ _) ?_
          rw [hw]
          cases b with
          | false =>
            refine ze (by decide) ?_
            rw [jd (qk l) hil _ (by rw [hT]; unfold xz; rw [hg, he]; simp only [if_true]; rw [htg, ← hb, if_neg (fun h => by cases h.1)])]
            exact hn
          | true =>
            refine zc rfl ?_
            by_cases h14 : l[i].f0 = 14
            · refine zc h14 (zc (by omega) (zc (by omega) (zc (by omega) (zc (by rw [List.length_set, hml]; omega) ?_))))
              rw [rd34 l t ht, Int.toNat_natCast, eta34, List.set_set, jd (qk l) hil _ (by rw [hT]; unfold xz; rw [hg, he]; simp only [if_true]; rw [htg, ← hb, if_pos ⟨rfl, h14⟩])]
              exact hn
            · refine ze h14 ?_
              rw [jd (qk l) hil _ (by rw [hT]; unfold xz; rw [hg, he]; simp only [if_true]; rw [htg, if_neg (fun h => h14 h.2)])]
              exact hn
        refine zc (by show 0 ≤ (t : Int); omega) (zc (by show (t : Int) < (l.length : Int); omega) ?_)
        rw [rd34 l t ht]
        by_cases h16 : l[t].f0 = 16
        · exact zc h16 (j1 _ (by unfold stops; rw [h16]; rfl))
        · refine ze h16 ?_
          by_cases h17 : l[t].f0 = 17
          · exact zc h17 (j1 _ (by unfold stops; rw [h17]; rfl))
          · refine ze h17 ?_
            by_cases h13 : l[t].f0 = 13
            · exact zc h13 (j1 _ (by unfold stops; rw [h13]; rfl))
            · refine ze h13 (j1 _ ?_)
              unfold stops
              rw [show (l[t].f0 == 16) = false by simpa using h16, show (l[t].f0 == 17) = false by simpa using h17, show (l[t].f0 == 13) = false by simpa using h13]
              rfl
theorem threads_ev (l : List S34) (R : xb l) : Ev (fun k => zX.f k l) (zN l) := by
  unfold zX.f
  refine zx (clone_ev l R.len) ?_
  have := threads_loop l R l.length 0 (by omega)
  rwa [mix_zero] at this
theorem len_total (a : Int) (h0 : 0 ≤ a) (h1 : a < 256) : ∃ r, Ev (fun k => bits_Len.f k a) r := by
  unfold bits_Len.f xj.f
  have h : ∃ r, Ev (fun k => xj.j0 k a 0) r := ⟨_, zu (fun k => xj.j0.eq_2 _ _ _) (ze (by omega) (ze (by omega) (zc (by omega) (zc (by omega) zn))))⟩
  obtain ⟨r, hr⟩ := h
  exact ⟨r, zA (ze (by omega) hr) zn⟩
theorem less_ev (a b : Int) : xX.f a b = some (decide (a < b)) := by
  unfold xX.f xg.f
  simp
def sort2 : List Int → List Int
  | [a, b] => if b < a then [b, a] else [a, b]
  | l => l
theorem ins_done (l : List Int) (n x : Int) (h : ¬ x < n) : Ev (fun k => zf.l0 k l 0 n x) l := by
  refine zu (fun k => zf.l0.eq_2 _ _ _ _ _) ?_
  exact ze h zn
theorem ins_ev (l : List Int) (h : l.length ≤ 2) : Ev (fun k => zf.f k l 0 (l.length : Int)) (sort2 l) := by
  unfold zf.f
  rw [w01]
  match l, h with
  | [], _ => exact ins_done [] _ _ (by decide)
  | [a], _ => exact ins_done [a] _ _ (by simp)
  | [a, b], _ =>
    refine zu (fun k => zf.l0.eq_2 _ _ _ _ _) ?_
    refine zc (by simp) ?_
    refine zu (fun k => zf.l1.eq_2 _ _ _ _ _ _) ?_
    rw [w1m]
    refine zc (by decide) (zc (by decide) (zc (by simp) (zc (by decide) (zc (by simp) ?_))))
    refine zx (less_ev _ _) ?_
    have h1 : rd [a, b] 1 = b := rfl
    have h0 : rd [a, b] 0 = a := rfl
    rw [h1, h0]
    by_cases hab : b < a
    · refine zc (by simpa using hab) ?_
      have hs : (([a, b].set (1 : Int).toNat a).set (0 : Int).toNat b) = [b, a] := rfl
      rw [hs]
      have e : sort2 [a, b] = [b, a] := by simp [sort2, hab]
      rw [e]
      refine zu (fun k => zf.l1.eq_2 _ _ _ _ _ _) ?_
      refine ze (by decide) ?_
      rw [w11]
      exact ins_done _ _ _ (by simp)
    · refine ze (by simpa using hab) ?_
      have e : sort2 [a, b] = [a, b] := by simp [sort2, hab]
      rw [e, w11]
      exact ins_done _ _ _ (by simp)
theorem sort_ev (l : List Int) (h : l.length ≤ 2) : Ev (fun k => qn.f k l) (sort2 l) := by
  unfold qn.f
  have hw : IntKind.u64.wrap (l.length : Int) = (l.length : Int) := by
    simp [IntKind.wrap, IntKind.bits, IntKind.signed]
    omega
  rw [hw]
  obtain ⟨r, hr⟩ := len_total (l.length : Int) (by omega) (by omega)
  refine zA hr (zA (y := sort2 l) ?_ zn)
  refine zu (fun k => zU.f.eq_2 _ _ _ _ _) ?_
  refine zu (fun k => zU.l0.eq_2 _ _ _ _ _ _) ?_
  rw [qZ (x := (l.length : Int) - 0) (by omega) (by omega)]
  refine zc (by omega) (zA (ins_ev l h) zn)
theorem sort2_mem (l : List Int) (x : Int) : x ∈ sort2 l ↔ x ∈ l := by
  match l with
  | [] => rfl
  | [a] => rfl
  | [a, b] =>
    show (x ∈ if b < a then [b, a] else [a, b]) ↔ _
    split
    · simp; exact Or.comm
    · rfl
  | a :: b :: c :: r => rfl
theorem sort2_length (l : List Int) : (sort2 l).length = l.length := by
  match l with
  | [] => rfl
  | [a] => rfl
  | [a, b] =>
    show (if b < a then [b, a] else [a, b]).length = _
    split <;> rfl
  | a :: b :: c :: r => rfl
def xA (l : List S34) (i : Nat) : List Int := (if hasB (l.getD i z34).f0 64 = true then [((i + 1 : Nat) : Int)] else []) ++ (if hasB (l.getD i z34).f0 32 = true ∧ ¬ (hasB (l.getD i z34).f0 64 = true ∧ (l.getD i z34).f1 = 1) then [((tgt l i : Nat) : Int)] else [])
theorem nexts_length (l : List S34) (i : Nat) : (xA l i).length ≤ 2 := by
  unfold xA
  split <;> split <;> simp
theorem next_on {l : List S34} (R : xb l) (i : Nat) (h : i < l.length) (ho : hasB l[i].f0 64 = true) : i + 1 < l.length := by
  rcases Nat.lt_or_ge (i + 1) l.length with h1 | h1
  · exact h1
  · exfalso
    have := R.last (by omega)
    have hq : l.length - 1 = i := by omega
    simp only [hq, ho] at this
    cases this
theorem nexts_lt {l : List S34} (R : xb l) (i : Nat) (h : i < l.length) : ∀ x ∈ xA l i, ∃ j : Nat, x = (j : Int) ∧ j < l.length := by
  intro x hx
  unfold xA at hx
  rw [xh l i h] at hx
  rcases List.mem_append.1 hx with hx | hx
  · split at hx
    · rename_i ho
      simp only [List.mem_singleton] at hx
      exact ⟨i + 1, hx, next_on R i h ho⟩
    · cases hx
  · split at hx
    · rename_i ho
      simp only [List.mem_singleton] at hx
      exact ⟨_, hx, (jb R i h ho.1).1⟩
    · cases hx
theorem iGoes_ev (l : List S34) (R : xb l) (i : Nat) (hi : i < l.length) : Ev (fun k => qY.f k l (i : Int)) (sort2 (xA l i)) := by
  have hl := R.len
  have hop := R.op i hi
  have h64 := has_ev l[i].f0 64 (by omega) (by omega)
  have h32 := has_ev l[i].f0 32 (by omega) (by omega)
  have hw := qC (i := i) (by omega)
  have hnl := nexts_length l i
  have j0 : ∀ xs : List Int, xs = (if hasB l[i].f0 64 = true then [((i + 1 : Nat) : Int)] else []) → Ev (fun k => qY.j0 k (i : Int) xs l[i].f0 l[i].f1 l[i].f2 l[i].f3 l[i].f4 l[i].f5.f0 l[i].f5.f1 l[i].f5.f2 l[i].f5.f3) (sort2 (xA l i)) := by
    intro xs hxs
    have hxl : xs.length ≤ 1 := by rw [hxs]; split <;> simp
    refine zu (fun k => qY.j0.eq_2 _ _ _ _ _ _ _ _ _ _ _ _) ?_
    refine zx h32 ?_
    cases hg : hasB l[i].f0 32 with
    | false =>
      have e : xA l i = xs := by unfold xA; rw [xh l i hi, hg, hxs]; simp
      refine ze (by decide) (zA (y := sort2 (xA l i)) ?_ zn)
      rw [e]
      exact sort_ev xs (by omega)
    | true =>
      have ht := jb R i hi hg
      refine zc rfl (zx h64 ?_)
      have hwt : wrap64 ((i : Int) + l[i].f1) = ((tgt l i : Nat) : Int) := by rw [qZ (by omega) (by omega), ht.2]
      cases ho : hasB l[i].f0 64 with
      | false =>
        have e : xA l i = xs ++ [((tgt l i : Nat) : Int)] := by unfold xA; rw [xh l i hi, hg, ho, hxs, ho]; simp
        refine ze (by decide) (zc (by omega) (zA (y := sort2 (xA l i)) ?_ zn))
        rw [hwt, e]
        exact sort_ev _ (by simp; omega)
      | true =>
        refine zc rfl ?_
        by_cases h1 : l[i].f1 = 1
        · have e : xA l i = xs := by unfold xA; rw [xh l i hi, hg, ho, hxs, ho, h1]; simp
          refine zc h1 (zA (y := sort2 (xA l i)) ?_ zn)
          rw [e]
          exact sort_ev xs (by omega)
        · have e : xA l i = xs ++ [((tgt l i : Nat) : Int)] := by unfold xA; rw [xh l i hi, hg, ho, hxs, ho]; simp [h1]
          refine ze h1 (zc (by omega) (zA (y := sort2 (xA l i)) ?_ zn))
          rw [hwt, e]
          exact sort_ev _ (by simp; omega)
  unfold qY.f
  refine zc (by omega) (zc (by omega) ?_)
  rw [rd34 l i hi, hw]
  refine zx h64 ?_
  cases ho : hasB l[i].f0 64 with
  | false => exact ze (by decide) (j0 [] (by rw [ho]; rfl))
  | true => exact zc rfl (zc (by decide) (j0 _ (by rw [ho]; rfl)))
theorem rdBool (l : List Bool) (i : Nat) : rdOf false l (i : Int) = l.getD i false := by simp [rdOf]
def lack (out : List Bool) : Nat := (out.filter (fun b => !b)).length
theorem lack_set (out : List Bool) : ∀ (i : Nat), out.getD i true = false → i < out.length → lack (out.set i true) + 1 = lack out := by
  induction out with
  | nil => intro i _ h; simp at h
  | cons b r ih =>
    intro i hb hi
    cases i with
    | zero =>
      simp at hb
      subst hb
      simp [lack]
    | succ i =>
      have := ih i (by simpa using hb) (by simpa using hi)
      unfold lack at this ⊢
      cases b <;> simp at this ⊢ <;> omega
theorem live_loop (l : List S34) (R : xb l) (I : List Bool → List Int → Prop)
    (hpop : ∀ out w (i : Nat), I out (w ++ [(i : Int)]) → i < l.length → out.getD i false = true → I out w)
    (hmark : ∀ out w (i : Nat), I out (w ++ [(i : Int)]) → i < l.length → out.length = l.length → out.getD i false = false → I (out.set i true) (w ++ sort2 (xA l i))) (m : Nat) :
    ∀ (out : List Bool) (w : List Int), out.length = l.length → (∀ x ∈ w, ∃ j : Nat, x = (j : Int) ∧ j < l.length) → 3 * lack out + w.length ≤ m → w.length ≤ 100000 - 3 * lack out → lack out ≤ 8192 → I out w →
    ∃ out' : List Bool, Ev (fun k => qj.l0 k l out w) (out', 0) ∧ out'.length = l.length ∧ I out' [] := by
  have hl := R.len
  induction m with
  | zero =>
    intro out w ho hw hm _ _ hI
    have : w = [] := List.eq_nil_of_length_eq_zero (by omega)
    subst this
    refine ⟨out, zu (fun k => qj.l0.eq_2 _ _ _ _) ?_, ho, hI⟩
    exact ze (by simp) zn
  | succ m ih =>
    intro out w ho hw hm hb hlk hI
    rcases List.eq_nil_or_concat w with rfl | ⟨w', x, rfl⟩
    · refine ⟨out, zu (fun k => qj.l0.eq_2 _ _ _ _) ?_, ho, hI⟩
      exact ze (by simp) zn
    · rw [List.concat_eq_append] at *
      obtain ⟨i, rfl, hi⟩ := hw x (by simp)
      have hlen : ((w' ++ [(i : Int)]).length : Int) = (w'.length : Int) + 1 := by simp
      have hbw : w'.length + 1 ≤ 100000 := by simp at hb; omega
      have hwl : wrap64 (((w' ++ [(i : Int)]).length : Int) - 1) = (w'.length : Int) := by rw [hlen, qZ (by omega) (by omega)]; omega
      have hrd : rd (w' ++ [(i : Int)]) (w'.length : Int) = (i : Int) := by simp [rd, List.getD_eq_getElem?_getD]
      have htk : (w' ++ [(i : Int)]).take w'.length = w' := by simp
      have pre : ∀ r, Ev (fun k => if rdOf false out (i : Int) = true then qj.l0 k l out w' else (qY.f k l (i : Int)).bind fun t => if w'.length + t.length < 17592186044416 then qj.l0 k l (out.set i true) (w' ++ t) else none) r → Ev (fun k => qj.l0 k l out (w' ++ [(i : Int)])) r := by
        intro r h
        refine zu (fun k => qj.l0.eq_2 _ _ _ _) ?_
        rw [hwl, hrd, Int.toNat_natCast, htk]
        refine zc (by omega) (zc (by omega) (zc (by omega) (zc (by omega) ?_)))
        refine zx rfl ?_
        exact zc (by omega) (zc (by omega) h)
      cases hout : out.getD i false with
      | true =>
        obtain ⟨out', h1, h2, h3⟩ := ih out w' ho (fun x hx => hw x (List.mem_append_left _ hx)) (by simp at hm; omega) (by simp at hb; omega) hlk (hpop out w' i hI hi hout)
        exact ⟨out', pre _ (zc (by rw [rdBool]; exact hout) h1), h2, h3⟩
      | false =>
        have hls := lack_set out i (by
          have : i < out.length := by omega
          simp [List.getD_eq_getElem?_getD, List.getElem?_eq_getElem this] at hout ⊢
          exact hout) (by omega)
        have hsl := sort2_length (xA l i)
        have hnl := nexts_length l i
        obtain ⟨out', h1, h2, h3⟩ := ih (out.set i true) (w' ++ sort2 (xA l i)) (by simpa using ho) (fun x hx => by
            rcases List.mem_append.1 hx with hx | hx
            · exact hw x (List.mem_append_left _ hx)
            · exact nexts_lt R i hi x ((sort2_mem _ _).1 hx)) (by simp at hm ⊢; omega) (by simp at hb ⊢; omega) (by omega) (hmark out w' i hI hi ho hout)
        exact ⟨out', pre _ (ze (by rw [rdBool, hout]; decide) (zA (iGoes_ev l R i hi) (zc (by omega) h1))), h2, h3⟩
theorem live_ev (l : List S34) (R : xb l) (hc : Ev (fun k => zJ.f k l) (0, 0)) (I : List Bool → List Int → Prop)
    (hpop : ∀ out w (i : Nat), I out (w ++ [(i : Int)]) → i < l.length → out.getD i false = true → I out w)
    (hmark : ∀ out w (i : Nat), I out (w ++ [(i : Int)]) → i < l.length → out.length = l.length → out.getD i false = false → I (out.set i true) (w ++ sort2 (xA l i)))
    (h0 : I (List.replicate l.length false) [0]) :
    ∃ out : List Bool, Ev (fun k => qj.f k l) (out, 0) ∧ out.length = l.length ∧ I out [] := by
  have hl := R.len
  have hlk : lack (List.replicate l.length false) = l.length := by simp [lack]
  obtain ⟨out, h1, h2, h3⟩ := live_loop l R I hpop hmark _ (List.replicate l.length false) [0] (by simp) (fun x hx => ⟨0, by simpa using hx, R.pos⟩) (Nat.le_refl _) (by rw [hlk]; simp; omega) (by omega) h0
  refine ⟨out, ?_, h2, h3⟩
  unfold qj.f
  refine zA hc (zc rfl (zc (by omega) (zc (by omega) ?_)))
  rw [Int.toNat_natCast]
  exact h1
def kept (g : List Bool) (i : Nat) : Nat := ((g.take i).filter (fun b => !b)).length
theorem kept_zero (g : List Bool) : kept g 0 = 0 := by simp [kept]
theorem kept_succ (g : List Bool) (i : Nat) (h : i < g.length) : kept g (i + 1) = kept g i + if g.getD i false = true then 0 else 1 := by
  unfold kept
  rw [List.take_succ_eq_append_getElem h, List.filter_append, List.length_append]
  have e : g.getD i false = g[i] := by simp [List.getD_eq_getElem?_getD, List.getElem?_eq_getElem h]
  rw [e]
  cases g[i] <;> simp
theorem jv (g : List Bool) (i : Nat) : kept g i ≤ i := by
  unfold kept
  have h1 := List.length_filter_le (fun b => !b) (g.take i)
  have h2 : (g.take i).length ≤ i := List.length_take_le _ _
  omega
theorem kept_mono (g : List Bool) (i j : Nat) (h : i ≤ j) : kept g i ≤ kept g j := by
  unfold kept
  have e : g.take i = (g.take j).take i := by rw [List.take_take, Nat.min_eq_left h]
  rw [e]
  exact (List.Sublist.filter _ (List.take_sublist _ _)).length_le
def jo (l : List S34) (g : List Bool) (i : Nat) (x : S34) : S34 := if hasB x.f0 32 = true then { x with f1 := (kept g (tgt l i) : Int) - (kept g i : Int) } else x
def restAt (l : List S34) (g : List Bool) (i : Nat) : Option S34 := if g.getD i false = true then none else some (jo l g i (l.getD i z34))
def restTo (l : List S34) (g : List Bool) (i : Nat) : List S34 := (List.range i).filterMap (restAt l g)
def rest (l : List S34) (g : List Bool) : List S34 := restTo l g l.length
theorem restTo_succ (l : List S34) (g : List Bool) (i : Nat) : restTo l g (i + 1) = restTo l g i ++ (restAt l g i).toList := by
  unfold restTo
  rw [List.range_succ, List.filterMap_append]
  congr 1
theorem restTo_length_le (l : List S34) (g : List Bool) (i : Nat) : (restTo l g i).length ≤ i := by
  unfold restTo
  have := List.length_filterMap_le (restAt l g) (List.range i)
  simpa using this
theorem restTo_length (l : List S34) (g : List Bool) (i : Nat) (h : i ≤ g.length) : (restTo l g i).length = kept g i := by
  induction i with
  | zero => simp [restTo, kept]
  | succ i ih =>
    rw [restTo_succ, List.length_append, ih (by omega), kept_succ g i (by omega)]
    unfold restAt
    split <;> simp
def Cnt (g : List Bool) (b : List Int) (n i : Nat) : Prop := b.length = n + 1 ∧ ∀ j : Nat, j ≤ i → rd b (j : Int) = (kept g j : Int)
theorem jz (b : List Int) (i : Nat) (v : Int) (h : i < b.length) : rd (b.set i v) (i : Int) = v := by simp [rd, List.getD_eq_getElem?_getD, h]
theorem rd_set_ne (b : List Int) (i j : Nat) (v : Int) (h : j ≠ i) : rd (b.set i v) (j : Int) = rd b (j : Int) := by
  simp only [rd, Int.toNat_natCast, List.getD_eq_getElem?_getD]
  rw [List.getElem?_set_ne (fun e => h e.symm)]
theorem without_l1 (l : List S34) (R : xb l) (g : List Bool) (hg : g.length = l.length) (b : List Int) (hb : Cnt g b l.length l.length) (d : Nat) : ∀ i : Nat, i + d = l.length →
    Ev (fun k => zH.l1 k g b (restTo l g i) l (l.length : Int) (i : Int)) (rest l g) := by
  have hl := R.len
  induction d with
  | zero =>
    intro i hi
    refine zu (fun k => zH.l1.eq_2 _ _ _ _ _ _ _) ?_
    refine ze (by omega) ?_
    obtain rfl : i = l.length := by omega
    exact zn
  | succ d ih =>
    intro i hi
    have hil : i < l.length := by omega
    have hw := qC (i := i) (by omega)
    have hop := R.op i hil
    have hge := goes_ev l[i].f0 hop.1 hop.2
    have hn := ih (i + 1) (by omega)
    have hrl := restTo_length_le l g i
    rw [restTo_succ] at hn
    refine zu (fun k => zH.l1.eq_2 _ _ _ _ _ _ _) ?_
    refine zc (by omega) (zc (by omega) (zc (by omega) (zc (by omega) ?_)))
    rw [rdBool, rd34 l i hil, hw]
    cases hgi : g.getD i false with
    | true =>
      have e : restAt l g i = none := by unfold restAt; rw [hgi]; rfl
      rw [e] at hn
      simp only [Option.toList_none, List.append_nil] at hn
      exact zc rfl hn
    | false =>
      have e : restAt l g i = some (jo l g i l[i]) := by unfold restAt; rw [hgi, xh l i hil]; rfl
      rw [e] at hn
      simp only [Option.toList_some] at hn
      refine ze (by decide) (zx hge ?_)
      cases ho : hasB l[i].f0 32 with
      | true =>
        have ht := jb R i hil ho
        refine zc rfl ?_
        have hwt : wrap64 ((i : Int) + l[i].f1) = ((tgt l i : Nat) : Int) := by rw [qZ (by omega) (by omega), ht.2]
        have k1 := jv g (tgt l i)
        have k2 := jv g i
        rw [hwt, hb.2 _ (by omega), hb.2 _ (by omega), qZ (x := (kept g (tgt l i) : Int) - (kept g i : Int)) (by omega) (by omega)]
        have hbl := hb.1
        refine zc (by omega) (zc (by omega) (zc (by omega) (zc (by omega) ?_)))
        have em : jo l g i l[i] = (⟨l[i].f0, (kept g (tgt l i) : Int) - (kept g i : Int), l[i].f2, l[i].f3, l[i].f4, ⟨l[i].f5.f0, l[i].f5.f1, l[i].f5.f2, l[i].f5.f3⟩⟩ : S34) := by unfold jo; rw [ho]; rfl
        rw [← em]
        exact hn
      | false =>
        refine ze (by decide) (zc (by omega) ?_)
        have em : jo l g i l[i] = l[i] := by unfold jo; rw [ho]; rfl
        rw [eta34, ← em]
        rw [em]
        rw [em] at hn
        exact hn
theorem without_l0 (l : List S34) (R : xb l) (g : List Bool) (hg : g.length = l.length) (d : Nat) : ∀ (i : Nat) (b : List Int), i + d = l.length → Cnt g b l.length i →
    Ev (fun k => zH.l0 k l g b (l.length : Int) (i : Int)) (rest l g) := by
  have hl := R.len
  induction d with
  | zero =>
    intro i b hi hb
    obtain rfl : i = l.length := by omega
    have hk := jv g l.length
    have hbl := hb.1
    refine zu (fun k => zH.l0.eq_2 _ _ _ _ _ _) ?_
    refine ze (by omega) ?_
    rw [hb.2 _ (Nat.le_refl _)]
    refine zc (by omega) (zc (by omega) (zc (by omega) (zc (by omega) ?_)))
    have := without_l1 l R g hg b hb l.length 0 (by omega)
    exact this
  | succ d ih =>
    intro i b hi hb
    have hil : i < l.length := by omega
    have hw := qC (i := i) (by omega)
    have hbl := hb.1
    have hk := jv g i
    refine zu (fun k => zH.l0.eq_2 _ _ _ _ _ _) ?_
    rw [hw]
    refine zc (by omega) (zc (by omega) (zc (by omega) (zc (by omega) (zc (by omega) ?_))))
    refine zx rfl (zc (by omega) ?_)
    rw [rdBool, Int.toNat_natCast, hb.2 i (Nat.le_refl _), jz _ _ _ (by omega)]
    have hks := kept_succ g i (by omega)
    cases hgi : g.getD i false with
    | true =>
      rw [hgi] at hks
      refine zc rfl (ih (i + 1) _ (by omega) ⟨by simpa using hbl, fun j hj => ?_⟩)
      by_cases e : j = i + 1
      · subst e
        rw [jz _ _ _ (by omega), hks]
        simp
      · rw [rd_set_ne _ _ _ _ e]
        exact hb.2 j (by omega)
    | false =>
      rw [hgi] at hks
      rw [qZ (x := (kept g i : Int) + 1) (by omega) (by omega), List.set_set]
      refine ze (by decide) (ih (i + 1) _ (by omega) ⟨by simpa using hbl, fun j hj => ?_⟩)
      by_cases e : j = i + 1
      · subst e
        rw [jz _ _ _ (by omega), hks]
        simp
      · rw [rd_set_ne _ _ _ _ e]
        exact hb.2 j (by omega)
theorem without_ev (l : List S34) (R : xb l) (g : List Bool) (hg : g.length = l.length) : Ev (fun k => zH.f k l g) (rest l g) := by
  have hl := R.len
  unfold zH.f
  rw [qC (i := l.length) (by omega), Int.toNat_natCast]
  refine zc (by omega) (zc (by omega) ?_)
  refine without_l0 l R g hg l.length 0 _ (by omega) ⟨by simp, fun j hj => ?_⟩
  obtain rfl : j = 0 := by omega
  simp [rd, kept, List.getD_eq_getElem?_getD]
def hopG (l : List S34) : List Bool := l.map fun x => decide (x.f0 = 14) && x.f1 == 1
theorem hopG_length (l : List S34) : (hopG l).length = l.length := by simp [hopG]
theorem hopG_get (l : List S34) (i : Nat) (h : i < l.length) : (hopG l)[i]? = some (decide (l[i].f0 = 14) && l[i].f1 == 1) := by simp [hopG, List.getElem?_eq_getElem h]
theorem hops_loop (l : List S34) (R : xb l) (d : Nat) : ∀ i : Nat, i + d = l.length → Ev (fun k => qS.l0 k l (mix (hopG l) (List.replicate l.length false) i) l (l.length : Int) (i : Int)) (rest l (hopG l)) := by
  have hl := R.len
  have hrep : (hopG l).length = (List.replicate l.length false).length := by simp [hopG]
  induction d with
  | zero =>
    intro i hi
    obtain rfl : i = l.length := by omega
    refine zu (fun k => qS.l0.eq_2 _ _ _ _ _ _) ?_
    refine ze (by omega) ?_
    have e : mix (hopG l) (List.replicate l.length false) l.length = hopG l := by have := mix_full hrep; simpa using this
    rw [e]
    exact zA (without_ev l R (hopG l) (hopG_length l)) zn
  | succ d ih =>
    intro i hi
    have hil : i < l.length := by omega
    have hir : i < (List.replicate l.length false).length := by simpa using hil
    have hw := qC (i := i) (by omega)
    have hT := hopG_get l i hil
    have hn := ih (i + 1) (by omega)
    have hml : (mix (hopG l) (List.replicate l.length false) i).length = l.length := by rw [xP hrep (by simp; omega)]; simp
    refine zu (fun k => qS.l0.eq_2 _ _ _ _ _ _) ?_
    refine zc (by omega) (zc (by omega) (zc (by omega) ?_))
    rw [rd34 l i hil, hw, Int.toNat_natCast]
    by_cases h14 : l[i].f0 = 14
    · refine zc h14 (zc (by omega) ?_)
      rw [jd hrep hir _ (by rw [hT, decide_eq_true h14]; simp)]
      exact hn
    · refine ze h14 (zc (by omega) ?_)
      rw [jd hrep hir _ (by rw [hT, decide_eq_false h14]; simp)]
      exact hn
theorem hops_ev (l : List S34) (R : xb l) : Ev (fun k => qS.f k l) (rest l (hopG l)) := by
  have hl := R.len
  unfold qS.f
  refine zc (by omega) (zc (by omega) ?_)
  have := hops_loop l R l.length 0 (by omega)
  rw [mix_zero] at this
  rwa [Int.toNat_natCast]
theorem dead_loop (l : List S34) (R : xb l) (v : List Bool) (hv : v.length = l.length) (d : Nat) : ∀ i : Nat, i + d = l.length →
    Ev (fun k => qU.l0 k l v (mix (v.map fun b => !b) (List.replicate l.length false) i) (l.length : Int) (i : Int)) (rest l (v.map fun b => !b)) := by
  have hl := R.len
  have hrep : (v.map fun b => !b).length = (List.replicate l.length false).length := by simp [hv]
  induction d with
  | zero =>
    intro i hi
    obtain rfl : i = l.length := by omega
    refine zu (fun k => qU.l0.eq_2 _ _ _ _ _ _) ?_
    refine ze (by omega) ?_
    have e : mix (v.map fun b => !b) (List.replicate l.length false) l.length = v.map fun b => !b := by have := mix_full hrep; simpa using this
    rw [e]
    exact zA (without_ev l R _ (by simp [hv])) zn
  | succ d ih =>
    intro i hi
    have hil : i < l.length := by omega
    have hir : i < (List.replicate l.length false).length := by simpa using hil
    have hw := qC (i := i) (by omega)
    have hn := ih (i + 1) (by omega)
    have hml : (mix (v.map fun b => !b) (List.replicate l.length false) i).length = l.length := by rw [xP hrep (by simp; omega)]; simp
    have hiv : i < v.length := by omega
    refine zu (fun k => qU.l0.eq_2 _ _ _ _ _ _) ?_
    refine zc (by omega) (zc (by omega) (zc (by omega) (zc (by omega) ?_)))
    rw [hw, Int.toNat_natCast, rdBool, jd hrep hir _ (by simp [List.getD_eq_getElem?_getD, List.getElem?_eq_getElem hiv])]
    exact hn
theorem dead_ev (l : List S34) (R : xb l) (v : List Bool) (hv : v.length = l.length) (hlive : Ev (fun k => qj.f k l) (v, 0)) : Ev (fun k => qU.f k l) (rest l (v.map fun b => !b)) := by
  have hl := R.len
  unfold qU.f
  refine zA hlive (zc (by omega) (zc (by omega) ?_))
  refine zx rfl ?_
  have := dead_loop l R v hv l.length 0 (by omega)
  rw [mix_zero] at this
  rw [Int.toNat_natCast, List.length_replicate]
  exact this
def headB (c : Int) : Bool := decide ((97 ≤ c ∧ c ≤ 122) ∨ (65 ≤ c ∧ c ≤ 90) ∨ c = 95)
def okB (c : Int) : Bool := headB c || decide (48 ≤ c ∧ c ≤ 57)
theorem bt_byte (s : ByteArray) (i : Int) : 0 ≤ bt s i ∧ bt s i < 256 := by
  have := bt_range s i
  omega
theorem head_val (c : Int) (h0 : 0 ≤ c) (h1 : c < 256) : xl.f c = some (headB c) := by
  have h : ∀ i : Fin 256, xl.f (i.val : Int) = some (headB (i.val : Int)) := by decide +kernel
  have := h ⟨c.toNat, by omega⟩
  rwa [Int.toNat_of_nonneg h0] at this
theorem refName_step (k : Nat) (s : ByteArray) (i : Int) : zj.l0 (k + 1) s i = if i < (s.size : Int) then (if 0 ≤ i then (if okB (bt s i) = true then zj.l0 k s (wrap64 (i + 1)) else some false) else none) else some true := by
  rw [zj.l0.eq_2]
  generalize bt s i = c
  generalize zj.l0 k s (wrap64 (i + 1)) = X
  have hk : okB c = true ↔ (97 ≤ c ∧ c ≤ 122) ∨ (65 ≤ c ∧ c ≤ 90) ∨ c = 95 ∨ (48 ≤ c ∧ c ≤ 57) := by
    unfold okB headB
    rw [Bool.or_eq_true, decide_eq_true_iff, decide_eq_true_iff]
    omega
  by_cases hk2 : okB c = true
  · have h := hk.1 hk2
    rw [if_pos hk2]
    repeat' split
    all_goals first | rfl | (exfalso; omega)
  · have h : ¬ _ := fun z => hk2 (hk.2 z)
    rw [if_neg hk2]
    repeat' split
    all_goals first | rfl | (exfalso; omega)
theorem name16_loop (s : ByteArray) (hs : s.size ≤ 140737488351232) (d : Nat) : ∀ i : Nat, i + d = s.size → ∃ b, Ev (fun k => zD.l0 k s (s.size : Int) (i : Int)) b ∧ Ev (fun k => zj.l0 k s (i : Int)) b := by
  induction d with
  | zero =>
    intro i hi
    exact ⟨true, zu (fun k => zD.l0.eq_2 _ _ _ _) (ze (by omega) zn), zu (fun k => refName_step _ _ _) (ze (by omega) zn)⟩
  | succ d ih =>
    intro i hi
    obtain ⟨q, hq, hq2⟩ := ih (i + 1) (by omega)
    have hw := qC (i := i) (by omega)
    obtain ⟨c0, c1⟩ := bt_byte s (i : Int)
    have hh := head_val _ c0 c1
    have pre : ∀ r, Ev (fun k => if headB (bt s (i : Int)) = true then zD.l0 k s (s.size : Int) (wrap64 ((i : Int) + 1)) else if bt s (i : Int) < 48 then some false else if bt s (i : Int) > 57 then some false else zD.l0 k s (s.size : Int) (wrap64 ((i : Int) + 1))) r → Ev (fun k => zD.l0 k s (s.size : Int) (i : Int)) r := fun r h =>
      zu (fun k => zD.l0.eq_2 _ _ _ _) (zc (by omega) (zc (by omega) (zc (by omega) (zx hh h))))
    have pre2 : ∀ r, Ev (fun k => if okB (bt s (i : Int)) = true then zj.l0 k s (wrap64 ((i : Int) + 1)) else some false) r → Ev (fun k => zj.l0 k s (i : Int)) r := fun r h =>
      zu (fun k => refName_step _ _ _) (zc (by omega) (zc (by omega) h))
    rw [hw] at pre pre2
    cases hb : headB (bt s (i : Int)) with
    | true =>
      have ho : okB (bt s (i : Int)) = true := by unfold okB; rw [hb]; rfl
      exact ⟨q, pre _ (zc hb hq), pre2 _ (zc ho hq2)⟩
    | false =>
      by_cases h1 : bt s (i : Int) < 48
      · have ho : ¬ okB (bt s (i : Int)) = true := by unfold okB; rw [hb, Bool.false_or, decide_eq_true_iff]; omega
        exact ⟨false, pre _ (ze (by rw [hb]; decide) (zc h1 zn)), pre2 _ (ze ho zn)⟩
      · by_cases h2 : bt s (i : Int) > 57
        · have ho : ¬ okB (bt s (i : Int)) = true := by unfold okB; rw [hb, Bool.false_or, decide_eq_true_iff]; omega
          exact ⟨false, pre _ (ze (by rw [hb]; decide) (ze h1 (zc h2 zn))), pre2 _ (ze ho zn)⟩
        · have ho : okB (bt s (i : Int)) = true := by unfold okB; rw [hb, Bool.false_or, decide_eq_true_iff]; omega
          exact ⟨q, pre _ (ze (by rw [hb]; decide) (ze h1 (ze h2 hq))), pre2 _ (zc ho hq2)⟩
theorem size_nil (s : ByteArray) : s.toList = ([] : List UInt8) ↔ s.size = 0 := by
  have : s.toList.length = s.size := by rw [ByteArray.toList_eq]; simp
  constructor
  · intro h; rw [h] at this; simpa using this.symm
  · intro h; exact List.eq_nil_of_length_eq_zero (by omega)
theorem name16 (s : ByteArray) (hs : s.size ≤ 140737488351232) : ∃ b, Ev (fun k => zD.f k s) b ∧ Ev (fun k => zj.f k s) b := by
  have nj1 : Ev (fun k => zD.j0 k s true) false := zu (fun k => zD.j0.eq_2 _ _ _) (zc rfl zn)
  have rj1 : Ev (fun k => zj.j0 k s true) false := zu (fun k => zj.j0.eq_2 _ _ _) (zc rfl zn)
  unfold zD.f zj.f
  by_cases h0 : s.size = 0
  · exact ⟨false, zc ((size_nil s).2 h0) nj1, zc (by omega) rj1⟩
  · have hn : ¬ s.toList = ([] : List UInt8) := fun h => h0 ((size_nil s).1 h)
    by_cases h1 : (s.size : Int) > 32
    · exact ⟨false, ze hn (zc h1 nj1), ze (by omega) (zc h1 rj1)⟩
    · obtain ⟨c0, c1⟩ := bt_byte s 0
      have hh := head_val _ c0 c1
      obtain ⟨q, hq, hq2⟩ := name16_loop s hs s.size 0 (by omega)
      have rj0 : Ev (fun k => zj.j0 k s false) q := zu (fun k => zj.j0.eq_2 _ _ _) (ze (by decide) hq2)
      have nj0 : Ev (fun k => zD.j0 k s false) q := zu (fun k => zD.j0.eq_2 _ _ _) (ze (by decide) hq)
      cases hb : headB (bt s 0) with
      | true =>
        rw [hb] at hh
        refine ⟨q, ze hn (ze h1 (zc (by omega) (zx hh nj0))), ze (by omega) (ze h1 (zc (by omega) ?_))⟩
        have hc : ¬ bt s 0 ≤ 57 := by unfold headB at hb; rw [decide_eq_true_iff] at hb; omega
        by_cases h48 : bt s 0 ≥ 48
        · refine zc h48 ?_
          rw [decide_eq_false hc]
          exact rj0
        · exact ze h48 rj0
      | false =>
        rw [hb] at hh
        refine ⟨false, ze hn (ze h1 (zc (by omega) (zx hh nj1))), ze (by omega) (ze h1 (zc (by omega) ?_))⟩
        have rl : ¬ (48 ≤ bt s 0 ∧ bt s 0 ≤ 57) → Ev (fun k => zj.j0 k s false) false := by
          intro hd
          refine zu (fun k => zj.j0.eq_2 _ _ _) (ze (by decide) ?_)
          refine zu (fun k => refName_step _ _ _) (zc (by omega) (zc (by omega) (ze ?_ zn)))
          unfold okB
          rw [hb, Bool.false_or, decide_eq_true_iff]
          exact hd
        by_cases h48 : bt s 0 ≥ 48
        · refine zc h48 ?_
          by_cases h57 : bt s 0 ≤ 57
          · rw [decide_eq_true h57]; exact rj1
          · rw [decide_eq_false h57]; exact rl (by omega)
        · exact ze h48 (rl (by omega))
theorem template16_l (s : ByteArray) : ∀ k i, zS.l0 k s i = zK.l0 k s i := by
  intro k
  induction k with
  | zero => intro i; rfl
  | succ k ih => intro i; rw [zS.l0.eq_2, zK.l0.eq_2]; simp only [ih]
theorem template16 (s : ByteArray) (k : Nat) : zS.f k s = zK.f k s := by
  unfold zS.f zK.f
  rw [template16_l]
def bitV (a b : Int) : Bool := (Int.tmod (wrap64 (Int.tdiv a b)) 2) == 1
theorem has16 (a b : Int) (h : ¬ b = 0) : zp.f a b = some (bitV a b) := by unfold zp.f; rw [if_neg h]; rfl
def usesOk (op : Int) : Bool := match zQ.f op with
  | some u => !(u.2.1.toList == []) && u.2.2 == hasB op 64 && bitV u.1 1 == hasB op 32 && bitV u.1 2 == (op == 20) && bitV u.1 4 == (op == 2 || op == 5) && bitV u.1 8 == (op == 18 || op == 20) && bitV u.1 16 == hasB op 16
  | none => false
theorem uses_tab : ∀ i : Fin 20, usesOk ((i.val + 1 : Nat) : Int) = true := by decide +kernel
theorem mask_tab : ∀ i : Fin 20, hasB ((i.val + 1 : Nat) : Int) 1 = (hasB ((i.val + 1 : Nat) : Int) 32 || ((i.val + 1 : Nat) : Int) == 20) ∧ hasB ((i.val + 1 : Nat) : Int) 2 = (((i.val + 1 : Nat) : Int) == 2 || ((i.val + 1 : Nat) : Int) == 5 || ((i.val + 1 : Nat) : Int) == 18 || ((i.val + 1 : Nat) : Int) == 20) ∧ hasB ((i.val + 1 : Nat) : Int) 4 = (((i.val + 1 : Nat) : Int) == 18 || ((i.val + 1 : Nat) : Int) == 20) ∧ hasB ((i.val + 1 : Nat) : Int) 8 = (((i.val + 1 : Nat) : Int) == 18 || ((i.val + 1 : Nat) : Int) == 20) := by decide +kernel
theorem uses_at (op : Int) (h0 : 1 ≤ op) (h1 : op ≤ 20) : ∃ u, zQ.f op = some u ∧ ¬ u.2.1.toList = [] ∧ u.2.2 = hasB op 64 ∧ bitV u.1 1 = hasB op 32 ∧ bitV u.1 2 = (op == 20) ∧ bitV u.1 4 = (op == 2 || op == 5) ∧ bitV u.1 8 = (op == 18 || op == 20) ∧ bitV u.1 16 = hasB op 16 := by
  have h := uses_tab ⟨(op - 1).toNat, by omega⟩
  have e : (((op - 1).toNat + 1 : Nat) : Int) = op := by omega
  rw [e] at h
  unfold usesOk at h
  cases hu : zQ.f op with
  | none => rw [hu] at h; cases h
  | some u =>
    rw [hu] at h
    simp only [Bool.and_eq_true, beq_iff_eq, Bool.not_eq_true'] at h
    obtain ⟨⟨⟨⟨⟨⟨h1, h2⟩, h3⟩, h4⟩, h5⟩, h6⟩, h7⟩ := h
    exact ⟨u, rfl, (fun z => by rw [z] at h1; cases h1), h2, h3, h4, h5, h6, h7⟩
theorem mask_at (op : Int) (h0 : 1 ≤ op) (h1 : op ≤ 20) : hasB op 1 = (hasB op 32 || op == 20) ∧ hasB op 2 = (op == 2 || op == 5 || op == 18 || op == 20) ∧ hasB op 4 = (op == 18 || op == 20) ∧ hasB op 8 = (op == 18 || op == 20) := by
  have h := mask_tab ⟨(op - 1).toNat, by omega⟩
  have e : (((op - 1).toNat + 1 : Nat) : Int) = op := by omega
  simp only [e] at h
  exact h
def jc (c n : Int) (s : ByteArray) (nb tb : Bool) : Bool := decide (0 ≤ n ∧ n ≤ 50 ∧ (n = 0 ∨ c = 7)) && (if c = 3 then (s.toList == []) || nb else if c = 6 then tb else s.toList == [])
theorem catchV_n (c n : Int) (s : ByteArray) (nb tb : Bool) (h : ¬ (0 ≤ n ∧ n ≤ 50 ∧ (n = 0 ∨ c = 7))) : jc c n s nb tb = false := by unfold jc; rw [decide_eq_false h]; rfl
theorem catchV_y (c n : Int) (s : ByteArray) (nb tb : Bool) (h : 0 ≤ n ∧ n ≤ 50 ∧ (n = 0 ∨ c = 7)) : jc c n s nb tb = (if c = 3 then (s.toList == []) || nb else if c = 6 then tb else s.toList == []) := by unfold jc; rw [decide_eq_true h]; rfl
theorem nil_true {s : ByteArray} (h : s.toList = ([] : List UInt8)) : (s.toList == ([] : List UInt8)) = true := beq_iff_eq.2 h
theorem nil_false {s : ByteArray} (h : ¬ s.toList = ([] : List UInt8)) : (s.toList == ([] : List UInt8)) = false := beq_eq_false_iff_ne.2 h
theorem fields_val (c n : Int) (s : ByteArray) (h2 : 2 ≤ c) (h7 : c ≤ 7) (nb tb : Bool) (hn : Ev (fun k => zD.f k s) nb) (ht : Ev (fun k => zK.f k s) tb) : Ev (fun k => zE.f k (c + 16) n s 0 0 0 0) (jc c n s nb tb) := by
  unfold zE.f
  refine ze (by omega) ?_
  refine zu (fun k => zE.j0.eq_2 _ _ _ _ _ _ _ _ _) ?_
  refine ze (by decide) ?_
  have jt : Ev (fun k => zE.j1 k true (c + 16) n s 0 0 0 0) false := zu (fun k => zE.j1.eq_2 _ _ _ _ _ _ _ _ _) (zc rfl zn)
  have jf : Ev (fun k => zE.j1 k false (c + 16) n s 0 0 0 0) (if c = 3 then (s.toList == []) || nb else if c = 6 then tb else s.toList == []) := by
    refine zu (fun k => zE.j1.eq_2 _ _ _ _ _ _ _ _ _) (ze (by decide) (ze (by omega) (ze (by omega) ?_)))
    by_cases h3 : c = 3
    · refine zc (by omega) ?_
      rw [if_pos h3]
      by_cases he : s.toList = ([] : List UInt8)
      · rw [nil_true he]; exact zc he zn
      · rw [nil_false he]; exact ze he (zA hn zn)
    · refine ze (by omega) ?_
      rw [if_neg h3]
      by_cases h6 : c = 6
      · rw [if_pos h6]; exact zc (by omega) (zA ht zn)
      · rw [if_neg h6]; exact ze (by omega) zn
  by_cases n0 : n < 0
  · rw [catchV_n _ _ _ _ _ (by omega)]; exact zc n0 jt
  · by_cases n5 : n > 50
    · rw [catchV_n _ _ _ _ _ (by omega)]; exact ze n0 (zc n5 jt)
    · by_cases n1 : n > 0
      · refine ze n0 (ze n5 (zc n1 ?_))
        have hc : xC.f (c + 16) = some (decide (c = 7)) := by
          unfold xC.f
          rw [if_pos (by omega), if_neg (by omega)]
          congr 1
          by_cases h : c = 7
          · subst h; rfl
          · rw [decide_eq_false h]; exact beq_eq_false_iff_ne.2 (by omega)
        refine zx hc ?_
        by_cases h : c = 7
        · rw [decide_eq_true h, catchV_y _ _ _ _ _ (by omega)]; exact jf
        · rw [decide_eq_false h, catchV_n _ _ _ _ _ (by omega)]; exact jt
      · rw [catchV_y _ _ _ _ _ (by omega)]; exact ze n0 (ze n5 (ze n1 jf))
theorem capture_val (c n : Int) (s : ByteArray) (h1 : 1 ≤ c) (h7 : c ≤ 7) (nb tb : Bool) (hn : Ev (fun k => zD.f k s) nb) (ht : Ev (fun k => zK.f k s) tb) : Ev (fun k => qI.f k c n s) (jc c n s nb tb) := by
  by_cases hc : c = 1
  · subst hc
    unfold qI.f
    refine zc rfl ?_
    by_cases h : n = 0
    · rw [show jc 1 n s nb tb = (s.toList == []) by rw [catchV_y _ _ _ _ _ (by omega)]; rfl]; exact zc h zn
    · rw [catchV_n _ _ _ _ _ (by omega)]; exact ze h zn
  · exact capture_ev c n s (by omega) h7 _ (fields_val c n s (by omega) h7 nb tb hn ht)
theorem catches_val (op a b n : Int) (s : ByteArray) (w0 w1 w2 w3 : Int) (nb tb : Bool) (hn : Ev (fun k => zj.f k s) nb) (ht : Ev (fun k => zS.f k s) tb) :
    Ev (fun k => zw.f k op a b n s w0 w1 w2 w3) (decide ((if op = 18 then 2 else 1) ≤ b ∧ b ≤ 7) && jc b n s nb tb) := by
  have jt : Ev (fun k => zw.j1 k true op a b n s w0 w1 w2 w3) false := zu (fun k => zw.j1.eq_2 _ _ _ _ _ _ _ _ _ _ _) (zc rfl zn)
  have jf : Ev (fun k => zw.j1 k false op a b n s w0 w1 w2 w3) (if b = 3 then (s.toList == []) || nb else if b = 6 then tb else s.toList == []) := by
    refine zu (fun k => zw.j1.eq_2 _ _ _ _ _ _ _ _ _ _ _) (ze (by decide) ?_)
    by_cases h3 : b = 3
    · refine zc (by omega) ?_
      rw [if_pos h3]
      by_cases he : s.toList = ([] : List UInt8)
      · rw [nil_true he]; exact zc he zn
      · rw [nil_false he]; exact ze he (zA hn zn)
    · refine ze (by omega) ?_
      rw [if_neg h3]
      by_cases h6 : b = 6
      · rw [if_pos h6]; exact zc (by omega) (zA ht zn)
      · rw [if_neg h6]; exact ze (by omega) zn
  have key : ∀ m : Int, Ev (fun k => zw.j0 k m op a b n s w0 w1 w2 w3) (decide (m ≤ b ∧ b ≤ 7) && jc b n s nb tb) := by
    intro m
    refine zu (fun k => zw.j0.eq_2 _ _ _ _ _ _ _ _ _ _ _) ?_
    by_cases c1 : b < m
    · rw [decide_eq_false (by omega)]; exact zc c1 jt
    · by_cases c2 : b > 7
      · rw [decide_eq_false (by omega)]; exact ze c1 (zc c2 jt)
      · rw [decide_eq_true (by omega), Bool.true_and]
        by_cases n0 : n < 0
        · rw [catchV_n _ _ _ _ _ (by omega)]; exact ze c1 (ze c2 (zc n0 jt))
        · by_cases n5 : n > 50
          · rw [catchV_n _ _ _ _ _ (by omega)]; exact ze c1 (ze c2 (ze n0 (zc n5 jt)))
          · refine ze c1 (ze c2 (ze n0 (ze n5 ?_)))
            by_cases h : b = 7
            · rw [catchV_y _ _ _ _ _ (by omega)]; exact zc h jf
            · refine ze h ?_
              by_cases hz : n = 0
              · rw [catchV_y _ _ _ _ _ (by omega), show (n != 0) = false from bne_eq_false_iff_eq.2 hz]; exact jf
              · rw [catchV_n _ _ _ _ _ (by omega), show (n != 0) = true from bne_iff_ne.2 hz]; exact jt
  unfold zw.f
  by_cases h : op = 18
  · rw [if_pos h]; exact zc h (key 2)
  · rw [if_neg h]; exact ze h (key 1)
theorem nil_list : (⟨#[]⟩ : ByteArray).toList = ([] : List UInt8) := by decide +kernel
theorem mism_val (kA kB kN kX kS : Bool) (op a b n : Int) (s : ByteArray) (w0 w1 w2 w3 : Int) :
    (!(op == op) || (!(a == if kA = true then a else 0) || (!(b == if kB = true then b else 0) || (!(n == if kN = true then n else 0) || (!(s.toList == (if kX = true then s else ⟨#[]⟩).toList) || ((!(w0 == if kS = true then w0 else 0) || (!(w1 == if kS = true then w1 else 0) || (!(w2 == if kS = true then w2 else 0) || (!(w3 == if kS = true then w3 else 0)))))))))))
      = !((kA || a == 0) && ((kB || b == 0) && ((kN || n == 0) && ((kX || s.toList == ([] : List UInt8)) && (kS || (w0 == 0 && (w1 == 0 && (w2 == 0 && w3 == 0)))))))) := by
  cases kA <;> cases kB <;> cases kN <;> cases kX <;> cases kS <;> simp [nil_list]
def keepV (x : S34) : Bool := (hasB x.f0 1 || x.f1 == 0) && ((hasB x.f0 2 || x.f2 == 0) && ((hasB x.f0 4 || x.f3 == 0) && ((hasB x.f0 8 || x.f4.toList == ([] : List UInt8)) && (hasB x.f0 16 || (x.f5.f0 == 0 && (x.f5.f1 == 0 && (x.f5.f2 == 0 && x.f5.f3 == 0)))))))
def tailV (x : S34) (nb tb : Bool) : Bool := if x.f0 = 2 ∨ x.f0 = 5 then decide (0 ≤ x.f2 ∧ x.f2 ≤ 255) else if x.f0 = 18 then decide (2 ≤ x.f2 ∧ x.f2 ≤ 7) && jc x.f2 x.f3 x.f4 nb tb else if x.f0 = 20 then decide (1 ≤ x.f2 ∧ x.f2 ≤ 7 ∧ 0 ≤ x.f1 ∧ x.f1 ≤ 255 ∧ (x.f2 = 1 → ¬ x.f1 > 0)) && jc x.f2 x.f3 x.f4 nb tb else true
theorem fitsj_val (op : Int) (x9 : Bool) (a0 a1 a2 a3 : Int) (a4 : ByteArray) (a5 a6 a7 a8 : Int) (nb tb : Bool) (hn : Ev (fun k => zD.f k a4) nb) (ht : Ev (fun k => zK.f k a4) tb)
    (v : Bool) (hv : v = (if x9 = true then decide (0 ≤ a2 ∧ a2 ≤ 255) else if op = 18 then decide (2 ≤ a2 ∧ a2 ≤ 7) && jc a2 a3 a4 nb tb else if op = 20 then decide (1 ≤ a2 ∧ a2 ≤ 7 ∧ 0 ≤ a1 ∧ a1 ≤ 255 ∧ (a2 = 1 → ¬ a1 > 0)) && jc a2 a3 a4 nb tb else true)) : Ev (fun k => ql.j0 k op x9 a0 a1 a2 a3 a4 a5 a6 a7 a8) v := by
  refine zu (fun k => ql.j0.eq_2 _ _ _ _ _ _ _ _ _ _ _ _) ?_
  cases x9 with
  | true =>
    rw [if_pos rfl] at hv
    by_cases h : a2 ≥ 0
    · refine zc rfl (zc h ?_)
      rw [show decide (0 ≤ a2 ∧ a2 ≤ 255) = decide (a2 ≤ 255) from decide_eq_decide.2 (by omega)] at hv
      subst hv
      exact zn
    · rw [decide_eq_false (by omega)] at hv; subst hv; exact zc rfl (ze h zn)
  | false =>
    rw [if_neg (by decide)] at hv
    refine ze (by decide) ?_
    by_cases h18 : op = 18
    · rw [if_pos h18] at hv
      refine zc h18 ?_
      by_cases h2 : a2 ≥ 2
      · by_cases h7 : a2 ≤ 7
        · rw [decide_eq_true (by omega), Bool.true_and] at hv
          subst hv
          exact zc h2 (zc h7 (zA (capture_val a2 a3 a4 (by omega) h7 nb tb hn ht) zn))
        · rw [decide_eq_false (by omega)] at hv; subst hv; exact zc h2 (ze h7 zn)
      · rw [decide_eq_false (by omega)] at hv; subst hv; exact ze h2 zn
    · rw [if_neg h18] at hv
      refine ze h18 ?_
      by_cases h20 : op = 20
      · rw [if_pos h20] at hv
        refine zc h20 ?_
        by_cases c1 : a2 < 1
        · rw [decide_eq_false (by omega)] at hv; subst hv; exact zc c1 zn
        · by_cases c2 : a2 > 7
          · rw [decide_eq_false (by omega)] at hv; subst hv; exact ze c1 (zc c2 zn)
          · by_cases c3 : a1 < 0
            · rw [decide_eq_false (by omega)] at hv; subst hv; exact ze c1 (ze c2 (zc c3 zn))
            · by_cases c4 : a1 > 255
              · rw [decide_eq_false (by omega)] at hv; subst hv; exact ze c1 (ze c2 (ze c3 (zc c4 zn)))
              · have hb := capture_val a2 a3 a4 (by omega) (by omega) nb tb hn ht
                by_cases c5 : a2 = 1
                · by_cases c6 : a1 > 0
                  · rw [decide_eq_false (fun z => z.2.2.2.2 c5 c6)] at hv; subst hv; exact ze c1 (ze c2 (ze c3 (ze c4 (zc c5 (zc c6 zn)))))
                  · rw [decide_eq_true (⟨by omega, by omega, by omega, by omega, fun _ => c6⟩), Bool.true_and] at hv; subst hv; exact ze c1 (ze c2 (ze c3 (ze c4 (zc c5 (ze c6 (zA hb zn))))))
                · rw [decide_eq_true (⟨by omega, by omega, by omega, by omega, fun z => absurd z c5⟩), Bool.true_and] at hv; subst hv; exact ze c1 (ze c2 (ze c3 (ze c4 (ze c5 (zA hb zn)))))
      · rw [if_neg h20] at hv; subst hv; exact ze h20 zn
theorem fits_val (x : S34) (h0 : 1 ≤ x.f0) (h1 : x.f0 ≤ 20) (nb tb : Bool) (hn : Ev (fun k => zD.f k x.f4) nb) (ht : Ev (fun k => zK.f k x.f4) tb) :
    Ev (fun k => ql.f k x.f0 x.f1 x.f2 x.f3 x.f4 x.f5.f0 x.f5.f1 x.f5.f2 x.f5.f3) (keepV x && tailV x nb tb) := by
  unfold ql.f
  have hp : qo.f x.f0 x.f1 x.f2 x.f3 x.f4 x.f5.f0 x.f5.f1 x.f5.f2 x.f5.f3 = some (x.f0, if hasB x.f0 1 = true then x.f1 else 0, if hasB x.f0 2 = true then x.f2 else 0, if hasB x.f0 4 = true then x.f3 else 0, if hasB x.f0 8 = true then x.f4 else ⟨#[]⟩, if hasB x.f0 16 = true then x.f5.f0 else 0, if hasB x.f0 16 = true then x.f5.f1 else 0, if hasB x.f0 16 = true then x.f5.f2 else 0, if hasB x.f0 16 = true then x.f5.f3 else 0) := by
    unfold qo.f
    rw [if_pos (by omega), if_pos (by omega)]
  refine zx hp ?_
  simp only []
  rw [mism_val]
  have e : ((hasB x.f0 1 || x.f1 == 0) && ((hasB x.f0 2 || x.f2 == 0) && ((hasB x.f0 4 || x.f3 == 0) && ((hasB x.f0 8 || x.f4.toList == ([] : List UInt8)) && (hasB x.f0 16 || (x.f5.f0 == 0 && (x.f5.f1 == 0 && (x.f5.f2 == 0 && x.f5.f3 == 0)))))))) = keepV x := rfl
  rw [e]
  cases keepV x with
  | false => exact zc rfl zn
  | true =>
    refine ze (by decide) ?_
    rw [Bool.true_and]
    unfold tailV
    by_cases h2 : x.f0 = 2
    · rw [if_pos (Or.inl h2)]
      refine zc h2 ?_
      exact fitsj_val x.f0 (x.f0 == 2) x.f0 x.f1 x.f2 x.f3 x.f4 x.f5.f0 x.f5.f1 x.f5.f2 x.f5.f3 nb tb hn ht _ (by rw [if_pos (beq_iff_eq.2 h2)])
    · refine ze h2 ?_
      by_cases h5 : x.f0 = 5
      · rw [if_pos (Or.inr h5)]
        exact fitsj_val x.f0 (x.f0 == 5) x.f0 x.f1 x.f2 x.f3 x.f4 x.f5.f0 x.f5.f1 x.f5.f2 x.f5.f3 nb tb hn ht _ (by rw [if_pos (beq_iff_eq.2 h5)])
      · rw [if_neg (by omega)]
        exact fitsj_val x.f0 (x.f0 == 5) x.f0 x.f1 x.f2 x.f3 x.f4 x.f5.f0 x.f5.f1 x.f5.f2 x.f5.f3 nb tb hn ht _ (by rw [if_neg (show ¬ (x.f0 == 5) = true by rw [beq_iff_eq]; exact h5)])
def argsV (x : S34) (nb tb : Bool) : Bool := (hasB x.f0 16 || (x.f5.f0 == 0 && (x.f5.f1 == 0 && (x.f5.f2 == 0 && x.f5.f3 == 0)))) && ((hasB x.f0 32 || (x.f0 == 20 || x.f1 == 0)) && ((!(x.f0 == 20) || decide (0 ≤ x.f1 ∧ x.f1 ≤ 255 ∧ (x.f2 = 1 → x.f1 = 0))) &&
  (if x.f0 = 18 ∨ x.f0 = 20 then decide ((if x.f0 = 18 then 2 else 1) ≤ x.f2 ∧ x.f2 ≤ 7) && jc x.f2 x.f3 x.f4 nb tb else decide (x.f3 = 0) && ((x.f4.toList == ([] : List UInt8)) && (if x.f0 = 2 ∨ x.f0 = 5 then decide (0 ≤ x.f2 ∧ x.f2 ≤ 255) else decide (x.f2 = 0))))))
theorem args_val (x : S34) (h0 : 1 ≤ x.f0) (h1 : x.f0 ≤ 20) (nb tb : Bool) (hn : Ev (fun k => zj.f k x.f4) nb) (ht : Ev (fun k => zS.f k x.f4) tb) :
    Ev (fun k => zr.f k x.f0 x.f1 x.f2 x.f3 x.f4 x.f5.f0 x.f5.f1 x.f5.f2 x.f5.f3) (argsV x nb tb) := by
  obtain ⟨u, hu, _, _, e1, e2, e4, e8, e16⟩ := uses_at x.f0 h0 h1
  have g1 := has16 u.1 1 (by decide)
  have g2 := has16 u.1 2 (by decide)
  have g4 := has16 u.1 4 (by decide)
  have g8 := has16 u.1 8 (by decide)
  have g16 := has16 u.1 16 (by decide)
  rw [e1] at g1; rw [e2] at g2; rw [e4] at g4; rw [e8] at g8; rw [e16] at g16
  have hc := catches_val x.f0 x.f1 x.f2 x.f3 x.f4 x.f5.f0 x.f5.f1 x.f5.f2 x.f5.f3 nb tb hn ht
  have J1 : ∀ z : Bool, Ev (fun k => zr.j1 k u.1 z x.f0 x.f1 x.f2 x.f3 x.f4 x.f5.f0 x.f5.f1 x.f5.f2 x.f5.f3) (!z && (if x.f0 = 18 ∨ x.f0 = 20 then decide ((if x.f0 = 18 then 2 else 1) ≤ x.f2 ∧ x.f2 ≤ 7) && jc x.f2 x.f3 x.f4 nb tb else decide (x.f3 = 0) && ((x.f4.toList == ([] : List UInt8)) && (if x.f0 = 2 ∨ x.f0 = 5 then decide (0 ≤ x.f2 ∧ x.f2 ≤ 255) else decide (x.f2 = 0))))) := by
    intro z
    refine zu (fun k => zr.j1.eq_2 _ _ _ _ _ _ _ _ _ _ _ _) ?_
    cases z with
    | true => exact zc rfl zn
    | false =>
      refine ze (by decide) (zx g8 ?_)
      rw [Bool.not_false, Bool.true_and]
      by_cases hC : x.f0 = 18 ∨ x.f0 = 20
      · rw [if_pos hC]
        exact zc (by rcases hC with h | h <;> rw [h] <;> rfl) (zA hc zn)
      · rw [if_neg hC]
        refine ze (by rw [Bool.or_eq_true, beq_iff_eq, beq_iff_eq]; exact hC) ?_
        by_cases hN : x.f3 = 0
        · rw [decide_eq_true hN, Bool.true_and]
          refine zc hN ?_
          by_cases he : x.f4.toList = ([] : List UInt8)
          · rw [nil_true he, Bool.true_and]
            refine zc he (zx g4 ?_)
            have eb : ∀ b : Int, (b == 0) = decide (b = 0) := fun b => by by_cases h : b = 0 <;> simp [h]
            by_cases hY : x.f0 = 2 ∨ x.f0 = 5
            · rw [if_pos hY]
              refine zc (by rcases hY with h | h <;> rw [h] <;> rfl) ?_
              by_cases b0 : x.f2 ≥ 0
              · refine zc b0 ?_
                by_cases b1 : x.f2 ≤ 255
                · rw [decide_eq_true (by omega)]; exact zc b1 zn
                · rw [decide_eq_false (by omega)]; refine ze b1 ?_; rw [eb, decide_eq_false (by omega)]; exact zn
              · rw [decide_eq_false (by omega)]; refine ze b0 ?_; rw [eb, decide_eq_false (by omega)]; exact zn
            · rw [if_neg hY]
              refine ze (by rw [Bool.or_eq_true, beq_iff_eq, beq_iff_eq]; exact hY) ?_
              rw [eb]
              exact zn
          · rw [nil_false he]; exact ze he zn
        · rw [decide_eq_false hN]; exact ze hN zn
  have J0 : ∀ z : Bool, Ev (fun k => zr.j0 k u.1 z x.f0 x.f1 x.f2 x.f3 x.f4 x.f5.f0 x.f5.f1 x.f5.f2 x.f5.f3) (!z && ((!(x.f0 == 20) || decide (0 ≤ x.f1 ∧ x.f1 ≤ 255 ∧ (x.f2 = 1 → x.f1 = 0))) && (if x.f0 = 18 ∨ x.f0 = 20 then decide ((if x.f0 = 18 then 2 else 1) ≤ x.f2 ∧ x.f2 ≤ 7) && jc x.f2 x.f3 x.f4 nb tb else decide (x.f3 = 0) && ((x.f4.toList == ([] : List UInt8)) && (if x.f0 = 2 ∨ x.f0 = 5 then decide (0 ≤ x.f2 ∧ x.f2 ≤ 255) else decide (x.f2 = 0)))))) := by
    intro z
    refine zu (fun k => zr.j0.eq_2 _ _ _ _ _ _ _ _ _ _ _ _) ?_
    cases z with
    | true => exact zc rfl zn
    | false =>
      refine ze (by decide) (zx g2 ?_)
      rw [Bool.not_false, Bool.true_and]
      cases hL : (x.f0 == 20) with
      | false => exact ze (by decide) (J1 false)
      | true =>
        refine zc rfl ?_
        rw [Bool.not_true, Bool.false_or]
        by_cases c1 : x.f1 < 0
        · rw [decide_eq_false (fun z => by omega)]; exact zc c1 (J1 true)
        · by_cases c2 : x.f1 > 255
          · rw [decide_eq_false (fun z => by omega)]; exact ze c1 (zc c2 (J1 true))
          · refine ze c1 (ze c2 ?_)
            by_cases c3 : x.f2 = 1
            · refine zc c3 ?_
              by_cases c4 : x.f1 = 0
              · rw [decide_eq_true (⟨by omega, by omega, fun _ => c4⟩), show (x.f1 != 0) = false from bne_eq_false_iff_eq.2 c4]; exact J1 false
              · rw [decide_eq_false (fun z => c4 (z.2.2 c3)), show (x.f1 != 0) = true from bne_iff_ne.2 c4]; exact J1 true
            · rw [decide_eq_true (⟨by omega, by omega, fun z => absurd z c3⟩)]; exact ze c3 (J1 false)
  have K : Ev (fun k => (zp.f u.1 1).bind fun t => if t = true then zr.j0 k u.1 false x.f0 x.f1 x.f2 x.f3 x.f4 x.f5.f0 x.f5.f1 x.f5.f2 x.f5.f3 else (zp.f u.1 2).bind fun t => if t = true then zr.j0 k u.1 false x.f0 x.f1 x.f2 x.f3 x.f4 x.f5.f0 x.f5.f1 x.f5.f2 x.f5.f3 else zr.j0 k u.1 (x.f1 != 0) x.f0 x.f1 x.f2 x.f3 x.f4 x.f5.f0 x.f5.f1 x.f5.f2 x.f5.f3)
      ((hasB x.f0 32 || (x.f0 == 20 || x.f1 == 0)) && ((!(x.f0 == 20) || decide (0 ≤ x.f1 ∧ x.f1 ≤ 255 ∧ (x.f2 = 1 → x.f1 = 0))) && (if x.f0 = 18 ∨ x.f0 = 20 then decide ((if x.f0 = 18 then 2 else 1) ≤ x.f2 ∧ x.f2 ≤ 7) && jc x.f2 x.f3 x.f4 nb tb else decide (x.f3 = 0) && ((x.f4.toList == ([] : List UInt8)) && (if x.f0 = 2 ∨ x.f0 = 5 then decide (0 ≤ x.f2 ∧ x.f2 ≤ 255) else decide (x.f2 = 0)))))) := by
    refine zx g1 ?_
    have J0f := J0 false
    rw [Bool.not_false, Bool.true_and] at J0f
    cases hT : hasB x.f0 32 with
    | true => rw [Bool.true_or, Bool.true_and]; exact zc rfl J0f
    | false =>
      rw [Bool.false_or]
      refine ze (by decide) (zx g2 ?_)
      cases hL : (x.f0 == 20) with
      | true => rw [hL] at J0f; rw [Bool.true_or, Bool.true_and]; exact zc rfl J0f
      | false =>
        rw [Bool.false_or]
        refine ze (by decide) ?_
        have := J0 (x.f1 != 0)
        rw [hL] at this
        rwa [show (!(x.f1 != 0)) = (x.f1 == 0) by rw [bne, Bool.not_not]] at this
  unfold zr.f argsV
  refine zx hu (zx g16 ?_)
  cases hS : hasB x.f0 16 with
  | true => rw [Bool.true_or, Bool.true_and]; exact zc rfl K
  | false =>
    rw [Bool.false_or]
    refine ze (by decide) ?_
    have es : (!(x.f5.f0 == 0) || (!(x.f5.f1 == 0) || (!(x.f5.f2 == 0) || (!(x.f5.f3 == 0))))) = !(x.f5.f0 == 0 && (x.f5.f1 == 0 && (x.f5.f2 == 0 && x.f5.f3 == 0))) := by simp only [Bool.not_and]
    rw [es]
    cases hZ : (x.f5.f0 == 0 && (x.f5.f1 == 0 && (x.f5.f2 == 0 && x.f5.f3 == 0))) with
    | false => exact zc rfl (J0 true)
    | true => rw [Bool.true_and]; exact ze (by decide) K
theorem args_fits (x : S34) (h0 : 1 ≤ x.f0) (h1 : x.f0 ≤ 20) (nb tb : Bool) : argsV x nb tb = (keepV x && tailV x nb tb) := by
  obtain ⟨m1, m2, m4, m8⟩ := mask_at x.f0 h0 h1
  unfold argsV keepV tailV
  rw [m1, m2, m4, m8]
  have eb : ∀ b c : Int, (b == c) = decide (b = c) := fun b c => by by_cases h : b = c <;> simp [h]
  generalize (x.f5.f0 == 0 && (x.f5.f1 == 0 && (x.f5.f2 == 0 && x.f5.f3 == 0))) = Z
  generalize hasB x.f0 16 = S
  generalize hasB x.f0 32 = T
  generalize (x.f4.toList == ([] : List UInt8)) = X
  generalize jc x.f2 x.f3 x.f4 nb tb = C
  rw [eb x.f1 0, eb x.f2 0, eb x.f3 0]
  by_cases h18 : x.f0 = 18
  · have e18 : (x.f0 == 18) = true := by rw [h18]; rfl
    have e20 : (x.f0 == 20) = false := by rw [h18]; rfl
    have e2 : (x.f0 == 2) = false := by rw [h18]; rfl
    have e5 : (x.f0 == 5) = false := by rw [h18]; rfl
    rw [e18, e20, e2, e5, if_pos (Or.inl h18), if_neg (show ¬ (x.f0 = 2 ∨ x.f0 = 5) by omega), if_pos h18, if_pos h18]
    generalize decide (2 ≤ x.f2 ∧ x.f2 ≤ 7) = R
    generalize decide (x.f1 = 0) = A
    cases S <;> cases T <;> cases Z <;> cases A <;> cases R <;> cases C <;> rfl
  · by_cases h20 : x.f0 = 20
    · have e18 : (x.f0 == 18) = false := by rw [h20]; rfl
      have e20 : (x.f0 == 20) = true := by rw [h20]; rfl
      have e2 : (x.f0 == 2) = false := by rw [h20]; rfl
      have e5 : (x.f0 == 5) = false := by rw [h20]; rfl
      rw [e18, e20, e2, e5, if_pos (Or.inr h20), if_neg (show ¬ (x.f0 = 2 ∨ x.f0 = 5) by omega), if_neg h18, if_neg h18, if_pos h20]
      have er : (decide (0 ≤ x.f1 ∧ x.f1 ≤ 255 ∧ (x.f2 = 1 → x.f1 = 0)) && decide (1 ≤ x.f2 ∧ x.f2 ≤ 7)) = decide (1 ≤ x.f2 ∧ x.f2 ≤ 7 ∧ 0 ≤ x.f1 ∧ x.f1 ≤ 255 ∧ (x.f2 = 1 → ¬ x.f1 > 0)) := by
        rw [← Bool.decide_and]
        exact decide_eq_decide.2 (by omega)
      rw [← er]
      generalize decide (0 ≤ x.f1 ∧ x.f1 ≤ 255 ∧ (x.f2 = 1 → x.f1 = 0)) = R
      generalize decide (1 ≤ x.f2 ∧ x.f2 ≤ 7) = Q
      cases S <;> cases T <;> cases Z <;> cases R <;> cases Q <;> cases C <;> rfl
    · have e18 : (x.f0 == 18) = false := beq_eq_false_iff_ne.2 h18
      have e20 : (x.f0 == 20) = false := beq_eq_false_iff_ne.2 h20
      rw [e18, e20, if_neg (show ¬ (x.f0 = 18 ∨ x.f0 = 20) by omega)]
      by_cases hY : x.f0 = 2 ∨ x.f0 = 5
      · have e25 : (x.f0 == 2 || x.f0 == 5) = true := by rcases hY with h | h <;> rw [h] <;> rfl
        rw [e25, if_pos hY, if_pos hY]
        generalize decide (0 ≤ x.f2 ∧ x.f2 ≤ 255) = R
        generalize decide (x.f1 = 0) = A
        generalize decide (x.f3 = 0) = Q
        cases S <;> cases T <;> cases Z <;> cases R <;> cases Q <;> cases A <;> cases X <;> rfl
      · have e2 : (x.f0 == 2) = false := beq_eq_false_iff_ne.2 (by omega)
        have e5 : (x.f0 == 5) = false := beq_eq_false_iff_ne.2 (by omega)
        rw [e2, e5, if_neg hY, if_neg hY, if_neg h18, if_neg h20]
        generalize decide (x.f2 = 0) = R
        generalize decide (x.f1 = 0) = A
        generalize decide (x.f3 = 0) = Q
        cases S <;> cases T <;> cases Z <;> cases R <;> cases Q <;> cases A <;> cases X <;> rfl
def Fit (x : S34) : Prop := Ev (fun k => ql.f k x.f0 x.f1 x.f2 x.f3 x.f4 x.f5.f0 x.f5.f1 x.f5.f2 x.f5.f3) true
theorem uses_bad (op : Int) (h : ¬ (1 ≤ op ∧ op ≤ 20)) : zQ.f op = some (0, ⟨#[]⟩, false) := by
  unfold zQ.f
  repeat rw [if_neg (by omega)]
theorem is_val (op : Int) : xF.f op = some (decide (1 ≤ op ∧ op ≤ 20)) := by
  unfold xF.f
  by_cases h1 : op ≥ 1
  · rw [if_pos h1]; congr 1; simp; omega
  · rw [if_neg h1]; congr 1; simp; omega
theorem fits16 (x : S34) (h0 : 1 ≤ x.f0) (h1 : x.f0 ≤ 20) (hs : x.f4.size ≤ 140737488351232) : ∃ b, Ev (fun k => ql.f k x.f0 x.f1 x.f2 x.f3 x.f4 x.f5.f0 x.f5.f1 x.f5.f2 x.f5.f3) b ∧ Ev (fun k => zr.f k x.f0 x.f1 x.f2 x.f3 x.f4 x.f5.f0 x.f5.f1 x.f5.f2 x.f5.f3) b := by
  obtain ⟨nb, hn, hn2⟩ := name16 x.f4 hs
  obtain ⟨tb, ht⟩ := jh x.f4 hs
  have ht2 : Ev (fun k => zS.f k x.f4) tb := by simp only [template16]; exact ht
  refine ⟨_, fits_val x h0 h1 nb tb hn ht, ?_⟩
  rw [← args_fits x h0 h1 nb tb]
  exact args_val x h0 h1 nb tb hn2 ht2
theorem targets_val (op : Int) (h0 : 1 ≤ op) (h1 : op ≤ 20) : zs.f op = some (hasB op 32) := by
  obtain ⟨u, hu, _, _, e1, _⟩ := uses_at op h0 h1
  unfold zs.f
  rw [hu, Option.bind_some, has16 _ _ (by decide), e1]
  rfl
theorem check_pre (l : List S34) (hl : l.length ≤ 8192) (i : Nat) (hil : i < l.length) (r : Int × Int) (h : Ev (fun k => (xF.f l[i].f0).bind fun t => if t = true then ((ql.f k l[i].f0 l[i].f1 l[i].f2 l[i].f3 l[i].f4 l[i].f5.f0 l[i].f5.f1 l[i].f5.f2 l[i].f5.f3).bind fun t => if t = true then ((zC.f l[i].f0 32).bind fun t => if t = true then (if l[i].f1 < -(i : Int) then some ((i : Int), (162 : Int)) else if l[i].f1 ≥ (l.length : Int) - (i : Int) then some ((i : Int), 162) else zJ.l0 k l l (l.length : Int) ((i + 1 : Nat) : Int)) else zJ.l0 k l l (l.length : Int) ((i + 1 : Nat) : Int)) else some ((i : Int), 161)) else some ((i : Int), 160)) r) : Ev (fun k => zJ.l0 k l l (l.length : Int) (i : Int)) r := by
  have hw := qC (i := i) (by omega)
  have hn : wrap64 (-(i : Int)) = -(i : Int) := qZ (by omega) (by omega)
  have hn2 : wrap64 ((l.length : Int) - (i : Int)) = (l.length : Int) - (i : Int) := qZ (by omega) (by omega)
  refine zu (fun k => zJ.l0.eq_2 _ _ _ _ _) ?_
  refine zc (by omega) (zc (by omega) (zc (by omega) ?_))
  rw [rd34 l i hil, hw, hn, hn2]
  exact h
theorem check16_pre (l : List S34) (hl : l.length ≤ 8192) (i : Nat) (hil : i < l.length) (r : Int × Int) (h : Ev (fun k => (zQ.f l[i].f0).bind fun u => if u.2.1.toList = ([] : List UInt8) then some ((i : Int), (160 : Int)) else ((zr.f k l[i].f0 l[i].f1 l[i].f2 l[i].f3 l[i].f4 l[i].f5.f0 l[i].f5.f1 l[i].f5.f2 l[i].f5.f3).bind fun t => if t = true then ((zs.f l[i].f0).bind fun t => if t = true then (if l[i].f1 < -(i : Int) then some ((i : Int), (162 : Int)) else if l[i].f1 ≥ (l.length : Int) - (i : Int) then some ((i : Int), 162) else zt.l0 k l ((i + 1 : Nat) : Int)) else zt.l0 k l ((i + 1 : Nat) : Int)) else some ((i : Int), 161))) r) : Ev (fun k => zt.l0 k l (i : Int)) r := by
  have hw := qC (i := i) (by omega)
  have hn : wrap64 (-(i : Int)) = -(i : Int) := qZ (by omega) (by omega)
  have hn2 : wrap64 ((l.length : Int) - (i : Int)) = (l.length : Int) - (i : Int) := qZ (by omega) (by omega)
  refine zu (fun k => zt.l0.eq_2 _ _ _) ?_
  refine zc (by omega) (zc (by omega) ?_)
  rw [rd34 l i hil, hw, hn, hn2]
  exact h
theorem check16_loop (l : List S34) (hl : l.length ≤ 8192) (hp : 0 < l.length) (hs : ∀ x ∈ l, x.f4.size ≤ 140737488351232) (d : Nat) : ∀ i : Nat, i + d = l.length → (∀ (j : Nat) (h : j < l.length), j < i → 1 ≤ l[j].f0 ∧ l[j].f0 ≤ 20) →
    ∃ r : Int × Int, Ev (fun k => zJ.l0 k l l (l.length : Int) (i : Int)) r ∧ Ev (fun k => zt.l0 k l (i : Int)) r ∧ (r.2 = 0 → ∀ (j : Nat) (h : j < l.length), i ≤ j → Fit l[j]) := by
  induction d with
  | zero =>
    intro i hi hj
    have hw : wrap64 ((l.length : Int) - 1) = ((l.length - 1 : Nat) : Int) := by rw [qZ (by omega) (by omega)]; omega
    have hlast := hj (l.length - 1) (by omega) (by omega)
    have hh := has_ev (l[l.length - 1].f0) 64 (by omega) (by omega)
    obtain ⟨u, hu, _, e2, _⟩ := uses_at _ hlast.1 hlast.2
    have pre : ∀ r, Ev (fun k => if hasB l[l.length - 1].f0 64 = true then some (((l.length - 1 : Nat) : Int), (163 : Int)) else some (0, 0)) r → Ev (fun k => zJ.l0 k l l (l.length : Int) (i : Int)) r := by
      intro r h
      refine zu (fun k => zJ.l0.eq_2 _ _ _ _ _) ?_
      refine ze (by omega) ?_
      rw [hw, rd34 l (l.length - 1) (by omega)]
      refine zc (by omega) (zc (by omega) ?_)
      exact zx hh h
    have pre2 : ∀ r, Ev (fun k => if hasB l[l.length - 1].f0 64 = true then some (((l.length - 1 : Nat) : Int), (163 : Int)) else some (0, 0)) r → Ev (fun k => zt.l0 k l (i : Int)) r := by
      intro r h
      refine zu (fun k => zt.l0.eq_2 _ _ _) ?_
      refine ze (by omega) ?_
      rw [hw, rd34 l (l.length - 1) (by omega)]
      refine zc (by omega) (zc (by omega) ?_)
      refine zx hu ?_
      rw [e2]
      exact h
    have fin : ∀ (j : Nat) (h : j < l.length), i ≤ j → Fit l[j] := fun j h hj1 => absurd hj1 (by omega)
    cases hb : hasB l[l.length - 1].f0 64 with
    | true => exact ⟨_, pre _ (zc hb zn), pre2 _ (zc hb zn), fun _ => fin⟩
    | false => exact ⟨_, pre _ (ze (by rw [hb]; decide) zn), pre2 _ (ze (by rw [hb]; decide) zn), fun _ => fin⟩
  | succ d ih =>
    intro i hi hj
    have hil : i < l.length := by omega
    have his := is_val l[i].f0
    have pre := check_pre l hl i hil
    have pre2 := check16_pre l hl i hil
    by_cases hop : 1 ≤ l[i].f0 ∧ l[i].f0 ≤ 20
    · rw [decide_eq_true hop] at his
      obtain ⟨u, hu, un, _⟩ := uses_at _ hop.1 hop.2
      obtain ⟨b, hb, hb2⟩ := fits16 l[i] hop.1 hop.2 (hs _ (List.getElem_mem hil))
      have hh := has_ev l[i].f0 32 (by omega) (by omega)
      have ht := targets_val l[i].f0 hop.1 hop.2
      obtain ⟨r, hr, hr2, hr3⟩ := ih (i + 1) (by omega) (fun j h hj1 => by
        by_cases hji : j < i
        · exact hj j h hji
        · obtain rfl : j = i := by omega
          exact hop)
      cases b with
      | false => exact ⟨_, pre _ (zx his (zc rfl (zA hb (ze (by decide) zn)))), pre2 _ (zx hu (ze un (zA hb2 (ze (by decide) zn)))), fun h => absurd h (by simp)⟩
      | true =>
        have fin : r.2 = 0 → ∀ (j : Nat) (h : j < l.length), i ≤ j → Fit l[j] := fun h0 j h hj1 => by
          by_cases hji : j = i
          · subst hji; exact hb
          · exact hr3 h0 j h (by omega)
        cases hg : hasB l[i].f0 32 with
        | false =>
          rw [hg] at hh ht
          exact ⟨r, pre _ (zx his (zc rfl (zA hb (zc rfl (zx hh (ze (by decide) hr)))))), pre2 _ (zx hu (ze un (zA hb2 (zc rfl (zx ht (ze (by decide) hr2)))))), fin⟩
        | true =>
          rw [hg] at hh ht
          by_cases c1 : l[i].f1 < -(i : Int)
          · exact ⟨_, pre _ (zx his (zc rfl (zA hb (zc rfl (zx hh (zc rfl (zc c1 zn))))))), pre2 _ (zx hu (ze un (zA hb2 (zc rfl (zx ht (zc rfl (zc c1 zn))))))), fun h => absurd h (by simp)⟩
          · by_cases c2 : l[i].f1 ≥ (l.length : Int) - (i : Int)
            · exact ⟨_, pre _ (zx his (zc rfl (zA hb (zc rfl (zx hh (zc rfl (ze c1 (zc c2 zn)))))))), pre2 _ (zx hu (ze un (zA hb2 (zc rfl (zx ht (zc rfl (ze c1 (zc c2 zn)))))))), fun h => absurd h (by simp)⟩
            · exact ⟨r, pre _ (zx his (zc rfl (zA hb (zc rfl (zx hh (zc rfl (ze c1 (ze c2 hr)))))))), pre2 _ (zx hu (ze un (zA hb2 (zc rfl (zx ht (zc rfl (ze c1 (ze c2 hr2)))))))), fin⟩
    · rw [decide_eq_false hop] at his
      exact ⟨_, pre _ (zx his (ze (by decide) zn)), pre2 _ (zx (uses_bad _ hop) (zc nil_list zn)), fun h => absurd h (by simp)⟩
theorem check16 (l : List S34) (hs : ∀ x ∈ l, x.f4.size ≤ 140737488351232) : ∃ r : Int × Int, Ev (fun k => zJ.f k l) r ∧ Ev (fun k => zt.f k l) r ∧ (r.2 = 0 → r = (0, 0) ∧ xb l ∧ ∀ (j : Nat) (h : j < l.length), Fit l[j]) := by
  obtain ⟨q, hq, hq2⟩ := check_total l hs
  have hq' := hq
  unfold zJ.f at hq
  by_cases h1 : (l.length : Int) > 8192
  · have e := ev_same hq (zc h1 zn)
    refine ⟨q, hq', ?_, ?_⟩
    · rw [e]; unfold zt.f; exact zc h1 zn
    · intro h; rw [e] at h; exact absurd h (by simp)
  · by_cases h2 : (l.length : Int) = 0
    · have e := ev_same hq (ze h1 (zc h2 zn))
      refine ⟨q, hq', ?_, ?_⟩
      · rw [e]; unfold zt.f; exact ze h1 (zc h2 zn)
      · intro h; rw [e] at h; exact absurd h (by simp)
    · obtain ⟨r, hr, hr2, hr3⟩ := check16_loop l (by omega) (by omega) hs l.length 0 (by omega) (fun j h hj => absurd hj (by omega))
      have e : q = r := ev_same hq (ze h1 (ze h2 hr))
      subst e
      refine ⟨q, hq', ?_, fun h => ⟨(hq2 h).1, (hq2 h).2, fun j hj => hr3 h j hj (Nat.zero_le _)⟩⟩
      unfold zt.f
      exact ze h1 (ze h2 hr2)
theorem check_ok (l : List S34) (R : xb l) (F : ∀ (j : Nat) (h : j < l.length), Fit l[j]) : Ev (fun k => zJ.f k l) (0, 0) := by
  have hl := R.len
  have hp := R.pos
  have key : ∀ d i : Nat, i + d = l.length → Ev (fun k => zJ.l0 k l l (l.length : Int) (i : Int)) (0, 0) := by
    intro d
    induction d with
    | zero =>
      intro i hi
      have hw : wrap64 ((l.length : Int) - 1) = ((l.length - 1 : Nat) : Int) := by rw [qZ (by omega) (by omega)]; omega
      have hlast := R.op (l.length - 1) (by omega)
      have hh := has_ev (l[l.length - 1].f0) 64 (by omega) (by omega)
      refine zu (fun k => zJ.l0.eq_2 _ _ _ _ _) ?_
      refine ze (by omega) ?_
      rw [hw, rd34 l (l.length - 1) (by omega)]
      refine zc (by omega) (zc (by omega) (zx hh ?_))
      exact ze (by rw [R.last (by omega)]; decide) zn
    | succ d ih =>
      intro i hi
      have hil : i < l.length := by omega
      have hop := R.op i hil
      have his := is_val l[i].f0
      rw [decide_eq_true hop] at his
      have hh := has_ev l[i].f0 32 (by omega) (by omega)
      refine check_pre l hl i hil _ (zx his (zc rfl (zA (F i hil) (zc rfl (zx hh ?_)))))
      cases hg : hasB l[i].f0 32 with
      | false => exact ze (by decide) (ih (i + 1) (by omega))
      | true =>
        have := R.goes i hil hg
        exact zc rfl (ze (by omega) (ze (by omega) (ih (i + 1) (by omega))))
  unfold zJ.f
  exact ze (by omega) (ze (by omega) (key l.length 0 (by omega)))
structure Good (l : List S34) : Prop where
  right : xb l
  fit : ∀ (j : Nat) (h : j < l.length), Fit l[j]
  size : ∀ (j : Nat) (h : j < l.length), l[j].f4.size ≤ 140737488351232
theorem fit_iff (x y : S34) (h0 : 1 ≤ x.f0) (h1 : x.f0 ≤ 20) (g0 : 1 ≤ y.f0) (g1 : y.f0 ≤ 20) (hs : x.f4.size ≤ 140737488351232) (e4 : y.f4 = x.f4) (hk : keepV y = keepV x) (ht : ∀ nb tb, tailV y nb tb = tailV x nb tb) (F : Fit x) : Fit y := by
  obtain ⟨nb, hn, _⟩ := name16 x.f4 hs
  obtain ⟨tb, htb⟩ := jh x.f4 hs
  have e := ev_same F (fits_val x h0 h1 nb tb hn htb)
  have := fits_val y g0 g1 nb tb (by rw [e4]; exact hn) (by rw [e4]; exact htb)
  rw [hk, ht, ← e] at this
  exact this
theorem not20 {op : Int} (h : hasB op 32 = true) : ¬ op = 20 := fun e => by
  have h2 : hasB 20 32 = false := by decide +kernel
  rw [e, h2] at h
  cases h
theorem fit_move (x : S34) (a : Int) (h0 : 1 ≤ x.f0) (h1 : x.f0 ≤ 20) (hs : x.f4.size ≤ 140737488351232) (hg : hasB x.f0 32 = true) (F : Fit x) : Fit { x with f1 := a } := by
  refine fit_iff x { x with f1 := a } h0 h1 h0 h1 hs rfl ?_ (fun nb tb => ?_) F
  · have m := (mask_at x.f0 h0 h1).1
    rw [hg, Bool.true_or] at m
    unfold keepV
    simp only [m, Bool.true_or]
  · unfold tailV
    simp only [if_neg (not20 hg)]
theorem fit_tail (x : S34) (h : x.f0 = 15) (hs : x.f4.size ≤ 140737488351232) (F : Fit x) : Fit { x with f0 := 14 } := by
  refine fit_iff x { x with f0 := 14 } (by omega) (by omega) (by simp) (by simp) hs rfl ?_ (fun nb tb => ?_) F
  · unfold keepV
    have e : (hasB 14 1, hasB 14 2, hasB 14 4, hasB 14 8, hasB 14 16) = (hasB 15 1, hasB 15 2, hasB 15 4, hasB 15 8, hasB 15 16) := by decide +kernel
    simp only [Prod.mk.injEq] at e
    obtain ⟨e1, e2, e3, e4, e5⟩ := e
    simp only [h, e1, e2, e3, e4, e5]
  · unfold tailV
    simp only [h]
    rfl
theorem get_of {l : List S34} {i : Nat} {x : S34} (h : l[i]? = some x) (hi : i < l.length) : l[i] = x := by
  rw [List.getElem?_eq_getElem hi] at h
  exact Option.some.inj h
theorem good_of (l t : List S34) (G : Good l) (hl : t.length = l.length)
    (hk : ∀ (i : Nat) (h : i < l.length) (h' : i < t.length), (1 ≤ t[i].f0 ∧ t[i].f0 ≤ 20) ∧ (hasB t[i].f0 32 = true → 0 ≤ (i : Int) + t[i].f1 ∧ (i : Int) + t[i].f1 < l.length) ∧ Fit t[i] ∧ t[i].f4.size ≤ 140737488351232 ∧ (i = l.length - 1 → hasB t[i].f0 64 = false)) : Good t := by
  have R := G.right
  refine ⟨⟨by rw [hl]; exact R.pos, by rw [hl]; exact R.len, fun i h => (hk i (by omega) h).1, fun i h hg => ?_, fun h => ?_⟩, fun i h => (hk i (by omega) h).2.2.1, fun i h => (hk i (by omega) h).2.2.2.1⟩
  · have := (hk i (by omega) h).2.1 hg
    rw [hl]
    exact this
  · exact (hk (t.length - 1) (by omega) h).2.2.2.2 (by omega)
theorem on14 : hasB 14 64 = false := by decide +kernel
theorem good_tail (l : List S34) (G : Good l) : Good (jq l) := by
  have R := G.right
  refine good_of l _ G (qM l) (fun i h h' => ?_)
  rw [get_of (tailF_get l i h) h']
  have hop := R.op i h
  unfold tailAt
  by_cases hc : l[i].f0 = 15 ∧ (l.getD (i + 1) z34).f0 = 16
  · rw [if_pos hc]
    refine ⟨by simp, fun _ => ?_, fit_tail _ hc.1 (G.size i h) (G.fit i h), G.size i h, fun _ => on14⟩
    exact R.goes i h (by rw [hc.1]; decide +kernel)
  · rw [if_neg hc]
    refine ⟨hop, R.goes i h, G.fit i h, G.size i h, fun e => ?_⟩
    subst e
    exact R.last h
theorem stops_on (op : Int) (h : stops op = true) : hasB op 64 = false ∧ hasB op 32 = false ∧ 1 ≤ op ∧ op ≤ 20 := by
  have e : op = 16 ∨ op = 17 ∨ op = 13 ∨ op = 12 := by
    unfold stops at h
    simpa using h
  rcases e with e | e | e | e <;> subst e <;> decide +kernel
theorem endOf_lt {l : List S34} (R : xb l) (i t : Nat) (h : i < l.length) (hg : hasB l[i].f0 32 = true) (he : endOf l i = some t) : t < l.length ∧ (l.getD t z34).f0 ≠ 14 := chain_lt R _ _ _ (jb R i h hg).1 he
theorem good_thread (l : List S34) (G : Good l) : Good (zN l) := by
  have R := G.right
  refine good_of l _ G (qk l) (fun i h h' => ?_)
  rw [get_of (threadF_get l i h) h']
  have hop := R.op i h
  have same : (1 ≤ l[i].f0 ∧ l[i].f0 ≤ 20) ∧ (hasB l[i].f0 32 = true → 0 ≤ (i : Int) + l[i].f1 ∧ (i : Int) + l[i].f1 < l.length) ∧ Fit l[i] ∧ l[i].f4.size ≤ 140737488351232 ∧ (i = l.length - 1 → hasB l[i].f0 64 = false) :=
    ⟨hop, R.goes i h, G.fit i h, G.size i h, fun e => by subst e; exact R.last h⟩
  unfold xz
  by_cases hg : hasB l[i].f0 32 = true
  · rw [if_pos hg]
    cases he : endOf l i with
    | none => exact same
    | some t =>
      obtain ⟨ht, hn⟩ := endOf_lt R i t h hg he
      simp only []
      by_cases hc : stops (l.getD t z34).f0 = true ∧ l[i].f0 = 14
      · rw [if_pos hc]
        rw [xh l t ht] at hc ⊢
        obtain ⟨s1, s2, _, _⟩ := stops_on _ hc.1
        exact ⟨R.op t ht, (fun z => by rw [s2] at z; cases z), G.fit t ht, G.size t ht, fun _ => s1⟩
      · rw [if_neg hc]
        refine ⟨hop, fun _ => ⟨by simp only []; omega, by simp only []; omega⟩, fit_move _ _ hop.1 hop.2 (G.size i h) hg (G.fit i h), G.size i h, fun e => by subst e; exact R.last h⟩
  · rw [if_neg hg]
    exact same
theorem rest_at' (l : List S34) (g : List Bool) (hg : g.length = l.length) (i : Nat) (hi : i < l.length) (h : g.getD i false = false) : (rest l g)[kept g i]? = some (jo l g i l[i]) := by
  have hs : ∀ d : Nat, i + 1 + d ≤ l.length → (restTo l g (i + 1 + d))[kept g i]? = some (jo l g i l[i]) := by
    intro d
    induction d with
    | zero =>
      intro _
      rw [Nat.add_zero, restTo_succ, List.getElem?_append_right (by rw [restTo_length l g i (by omega)]; exact Nat.le_refl _), restTo_length l g i (by omega), Nat.sub_self]
      unfold restAt
      rw [h, xh l i hi]
      rfl
    | succ d ih =>
      intro hd
      have := ih (by omega)
      rw [← Nat.add_assoc, restTo_succ, List.getElem?_append_left (List.getElem?_eq_some_iff.1 this).1]
      exact this
  have := hs (l.length - (i + 1)) (by omega)
  rwa [show i + 1 + (l.length - (i + 1)) = l.length by omega] at this
theorem rest_len (l : List S34) (g : List Bool) (hg : g.length = l.length) : (rest l g).length = kept g l.length := restTo_length l g l.length (by omega)
theorem kept_next (g : List Bool) (i : Nat) (h : i < g.length) (hi : g.getD i false = false) : kept g (i + 1) = kept g i + 1 := by rw [kept_succ g i h, if_neg (by rw [hi]; decide)]
theorem kept_find (g : List Bool) : ∀ n m : Nat, n ≤ g.length → m < kept g n → ∃ i, i < n ∧ g.getD i false = false ∧ kept g i = m := by
  intro n
  induction n with
  | zero => intro m _ h; rw [kept_zero] at h; omega
  | succ n ih =>
    intro m hn h
    rw [kept_succ g n (by omega)] at h
    by_cases hb : g.getD n false = true
    · rw [if_pos hb] at h
      obtain ⟨i, h1, h2, h3⟩ := ih m (by omega) h
      exact ⟨i, by omega, h2, h3⟩
    · rw [if_neg hb] at h
      by_cases hm : m < kept g n
      · obtain ⟨i, h1, h2, h3⟩ := ih m (by omega) hm
        exact ⟨i, by omega, h2, h3⟩
      · exact ⟨n, by omega, by simpa using hb, by omega⟩
theorem good_rest (l : List S34) (G : Good l) (g : List Bool) (hg : g.length = l.length)
    (h1 : ∃ j, j < l.length ∧ g.getD j false = false)
    (h2 : ∀ (i : Nat) (h : i < l.length), g.getD i false = false → hasB l[i].f0 64 = true → ∃ j, i < j ∧ j < l.length ∧ g.getD j false = false)
    (h3 : ∀ (i : Nat) (h : i < l.length), g.getD i false = false → hasB l[i].f0 32 = true → ∃ j, tgt l i ≤ j ∧ j < l.length ∧ g.getD j false = false) : Good (rest l g) := by
  have R := G.right
  have hlen := rest_len l g hg
  have below : ∀ j, j < l.length → g.getD j false = false → kept g j < kept g l.length := fun j hj hj2 => by
    have := kept_next g j (by omega) hj2
    have := kept_mono g (j + 1) l.length (by omega)
    omega
  have elem : ∀ (m : Nat) (h : m < (rest l g).length), ∃ i, ∃ hi : i < l.length, g.getD i false = false ∧ kept g i = m ∧ (rest l g)[m] = jo l g i l[i] := by
    intro m h
    obtain ⟨i, hi, hi2, hi3⟩ := kept_find g l.length m (by omega) (by omega)
    refine ⟨i, hi, hi2, hi3, ?_⟩
    have := rest_at' l g hg i hi hi2
    rw [hi3] at this
    exact get_of this h
  obtain ⟨j0, hj0, hj1⟩ := h1
  refine ⟨⟨?_, ?_, fun m h => ?_, fun m h hgo => ?_, fun h => ?_⟩, fun m h => ?_, fun m h => ?_⟩
  · have := below j0 hj0 hj1; omega
  · have := jv g l.length; have := R.len; omega
  · obtain ⟨i, hi, hi2, hi3, e⟩ := elem m h
    rw [e]
    have := R.op i hi
    unfold jo
    split <;> exact this
  · obtain ⟨i, hi, hi2, hi3, e⟩ := elem m h
    rw [e] at hgo ⊢
    unfold jo at hgo ⊢
    by_cases hc : hasB l[i].f0 32 = true
    · rw [if_pos hc]
      obtain ⟨j, hj1, hj2, hj3⟩ := h3 i hi hi2 hc
      have a := below j hj2 hj3
      have b := kept_mono g (tgt l i) j hj1
      simp only []
      omega
    · rw [if_neg hc] at hgo
      exact absurd hgo hc
  · obtain ⟨i, hi, hi2, hi3, e⟩ := elem _ h
    rw [e]
    have e0 : (jo l g i l[i]).f0 = l[i].f0 := by unfold jo; split <;> rfl
    rw [e0]
    cases hon : hasB l[i].f0 64 with
    | false => rfl
    | true =>
      obtain ⟨j, hj1, hj2, hj3⟩ := h2 i hi hi2 hon
      have a := below j hj2 hj3
      have b := kept_next g i (by omega) hi2
      have c := kept_mono g (i + 1) j (by omega)
      omega
  · obtain ⟨i, hi, hi2, hi3, e⟩ := elem m h
    rw [e]
    have hop := R.op i hi
    unfold jo
    by_cases hc : hasB l[i].f0 32 = true
    · rw [if_pos hc]; exact fit_move _ _ hop.1 hop.2 (G.size i hi) hc (G.fit i hi)
    · rw [if_neg hc]; exact G.fit i hi
  · obtain ⟨i, hi, hi2, hi3, e⟩ := elem m h
    rw [e]
    have := G.size i hi
    unfold jo
    split <;> exact this
theorem rest_same (l : List S34) (R : xb l) (g : List Bool) (hg : g.length = l.length) (he : (rest l g).length = l.length) : rest l g = l ∧ ∀ i, i < l.length → g.getD i false = false := by
  have hlen := rest_len l g hg
  have up : ∀ d i : Nat, i + d = l.length → kept g l.length ≤ kept g i + d := by
    intro d
    induction d with
    | zero => intro i hi; have : i = l.length := by omega
              subst this; omega
    | succ d ih =>
      intro i hi
      have := ih (i + 1) (by omega)
      rw [kept_succ g i (by omega)] at this
      split at this <;> omega
  have kk : ∀ i, i ≤ l.length → kept g i = i := fun i hi => by
    have := up (l.length - i) i (by omega)
    have := jv g i
    omega
  have hf : ∀ i, i < l.length → g.getD i false = false := fun i hi => by
    have := kept_succ g i (by omega)
    rw [kk i (by omega), kk (i + 1) (by omega)] at this
    cases hb : g.getD i false with
    | false => rfl
    | true => rw [if_pos hb] at this; omega
  refine ⟨?_, hf⟩
  apply List.ext_getElem he
  intro i h1 h2
  have := rest_at' l g hg i h2 (hf i h2)
  rw [kk i (by omega)] at this
  rw [get_of this h1]
  unfold jo
  by_cases hc : hasB l[i].f0 32 = true
  · rw [if_pos hc]
    have ht := jb R i h2 hc
    rw [kk i (by omega), kk (tgt l i) (by omega), ht.2]
    have : (i : Int) + l[i].f1 - (i : Int) = l[i].f1 := by omega
    rw [this]
  · rw [if_neg hc]
theorem pigeon : ∀ (n : Nat) (f : Nat → Nat), (∀ k, k ≤ n → f k < n) → ∃ a b, a < b ∧ b ≤ n ∧ f a = f b := by
  intro n
  induction n with
  | zero => intro f h; exact absurd (h 0 (Nat.le_refl _)) (by omega)
  | succ n ih =>
    intro f h
    by_cases hx : ∃ k, k ≤ n ∧ f k = f (n + 1)
    · obtain ⟨k, hk, e⟩ := hx
      exact ⟨k, n + 1, by omega, Nat.le_refl _, e⟩
    · have hn : ∀ k, k ≤ n → f k ≠ f (n + 1) := fun k hk e => hx ⟨k, hk, e⟩
      have hv := h (n + 1) (Nat.le_refl _)
      obtain ⟨a, b, hab, hb, e⟩ := ih (fun k => if f k = n then f (n + 1) else f k) (fun k hk => by
        have h1 := h k (by omega)
        have h2 := hn k hk
        show (if f k = n then f (n + 1) else f k) < n
        split <;> omega)
      have na := hn a (by omega)
      have nb := hn b hb
      refine ⟨a, b, hab, by omega, ?_⟩
      have e' : (if f a = n then f (n + 1) else f a) = (if f b = n then f (n + 1) else f b) := e
      split at e' <;> split at e' <;> omega
def posn (l : List S34) (p : Nat) : Nat → Nat
  | 0 => p
  | k + 1 => tgt l (posn l p k)
theorem posn_front (l : List S34) (p : Nat) : ∀ k, posn l (tgt l p) k = posn l p (k + 1) := by
  intro k
  induction k with
  | zero => rfl
  | succ k ih => show tgt l (posn l (tgt l p) k) = tgt l (posn l p (k + 1)); rw [ih]
theorem chain_none (l : List S34) : ∀ (m p : Nat), chain l m p = none ↔ ∀ k, k ≤ m → (l.getD (posn l p k) z34).f0 = 14 := by
  intro m
  induction m with
  | zero =>
    intro p
    unfold chain
    constructor
    · intro h k hk
      obtain rfl : k = 0 := by omega
      by_cases hc : (l.getD p z34).f0 = 14
      · exact hc
      · rw [if_neg hc] at h; cases h
    · intro h
      rw [if_pos (show (l.getD p z34).f0 = 14 from h 0 (Nat.le_refl _))]
  | succ m ih =>
    intro p
    unfold chain
    constructor
    · intro h k hk
      by_cases hc : (l.getD p z34).f0 = 14
      · rw [if_pos hc] at h
        cases k with
        | zero => exact hc
        | succ k => rw [← posn_front]; exact (ih _).1 h k (by omega)
      · rw [if_neg hc] at h; cases h
    · intro h
      rw [if_pos (show (l.getD p z34).f0 = 14 from h 0 (Nat.zero_le _))]
      exact (ih _).2 (fun k hk => by rw [posn_front]; exact h (k + 1) (by omega))
def Round (l : List S34) (p : Nat) : Prop := ∀ k, (l.getD (posn l p k) z34).f0 = 14
theorem posn_lt {l : List S34} (R : xb l) (p : Nat) (hp : p < l.length) (m : Nat) (h : ∀ k, k < m → (l.getD (posn l p k) z34).f0 = 14) : ∀ k, k ≤ m → posn l p k < l.length := by
  intro k
  induction k with
  | zero => intro _; exact hp
  | succ k ih =>
    intro hk
    have a := ih (by omega)
    have b := h k (by omega)
    rw [xh l _ a] at b
    exact (jb R _ a (by rw [b]; exact jump14)).1
theorem round_of {l : List S34} (R : xb l) (p : Nat) (hp : p < l.length) (h : chain l (l.length + 1) p = none) : Round l p := by
  have hj := (chain_none l _ p).1 h
  obtain ⟨a, b, hab, hb, e⟩ := pigeon l.length (posn l p) (fun k hk => posn_lt R p hp (l.length + 1) (fun k hk => hj k (by omega)) k (by omega))
  have per : ∀ j, posn l p (a + j) = posn l p (b + j) := by
    intro j
    induction j with
    | zero => exact e
    | succ j ih => show tgt l (posn l p (a + j)) = tgt l (posn l p (b + j)); rw [ih]
  intro k
  induction k using Nat.strongRecOn with
  | _ k ih =>
    by_cases hk : k ≤ l.length + 1
    · exact hj k hk
    · have := per (k - b)
      rw [show b + (k - b) = k by omega] at this
      rw [← this]
      exact ih _ (by omega)
theorem round_chain {l : List S34} {p : Nat} (h : Round l p) (m : Nat) : chain l m p = none := (chain_none l m p).2 (fun k _ => h k)
theorem round_next {l : List S34} {p : Nat} (h : Round l p) : Round l (tgt l p) := fun k => by rw [posn_front]; exact h (k + 1)
theorem thread_getD (l : List S34) (i : Nat) (h : i < l.length) : (zN l).getD i z34 = xz l i l[i] := by
  rw [List.getD_eq_getElem?_getD, threadF_get l i h]
  rfl
theorem round_kept {l : List S34} (R : xb l) {p : Nat} (hp : p < l.length) (h : Round l p) : (zN l).getD p z34 = l.getD p z34 := by
  rw [thread_getD l p hp, xh l p hp]
  unfold xz
  have h0 := h 0
  have e : endOf l p = none := round_chain (round_next h) _
  rw [e]
  split <;> rfl
theorem round_thread {l : List S34} (R : xb l) {p : Nat} (hp : p < l.length) (h : Round l p) : Round (zN l) p := by
  have hlt : ∀ k, posn l p k < l.length := fun k => posn_lt R p hp k (fun j _ => h j) k (Nat.le_refl _)
  have hr : ∀ k, Round l (posn l p k) := by
    intro k
    induction k with
    | zero => exact h
    | succ k ih => exact round_next ih
  have e : ∀ k, posn (zN l) p k = posn l p k := by
    intro k
    induction k with
    | zero => rfl
    | succ k ih =>
      show tgt (zN l) (posn (zN l) p k) = tgt l (posn l p k)
      rw [ih]
      unfold tgt
      rw [round_kept R (hlt k) (hr k)]
  intro k
  rw [e k, round_kept R (hlt k) (hr k)]
  exact h k
theorem thread_cases {l : List S34} (R : xb l) (i : Nat) (h : i < l.length) :
    ((zN l).getD i z34 = l[i] ∧ hasB l[i].f0 32 = false) ∨
    (hasB l[i].f0 32 = true ∧ Round l (tgt l i) ∧ (zN l).getD i z34 = l[i]) ∨
    (hasB l[i].f0 32 = true ∧ ∃ t, t < l.length ∧ l[i].f0 = 14 ∧ stops (l.getD t z34).f0 = true ∧ (zN l).getD i z34 = l.getD t z34) ∨
    (hasB l[i].f0 32 = true ∧ ∃ t, t < l.length ∧ (l.getD t z34).f0 ≠ 14 ∧ ¬ (stops (l.getD t z34).f0 = true ∧ l[i].f0 = 14) ∧ (zN l).getD i z34 = { l[i] with f1 := (t : Int) - (i : Int) }) := by
  rw [thread_getD l i h]
  unfold xz
  cases hg : hasB l[i].f0 32 with
  | false => left; exact ⟨by rw [if_neg (by decide)], rfl⟩
  | true =>
    right
    rw [if_pos rfl]
    cases he : endOf l i with
    | none => left; exact ⟨rfl, round_of R _ (jb R i h hg).1 he, rfl⟩
    | some t =>
      right
      obtain ⟨ht, hn⟩ := endOf_lt R i t h hg he
      simp only []
      by_cases hc : stops (l.getD t z34).f0 = true ∧ l[i].f0 = 14
      · left; rw [if_pos hc]; exact ⟨trivial, t, ht, hc.2, hc.1, rfl⟩
      · right; rw [if_neg hc]; exact ⟨trivial, t, ht, hn, hc, rfl⟩
theorem thread_op {l : List S34} (R : xb l) (t : Nat) (h : t < l.length) (hn : (l.getD t z34).f0 ≠ 14) : ((zN l).getD t z34).f0 = (l.getD t z34).f0 := by
  rw [xh l t h] at hn ⊢
  rcases thread_cases R t h with h1 | h1 | h1 | h1
  · rw [h1.1]
  · rw [h1.2.2]
  · obtain ⟨_, _, _, h2, _⟩ := h1; exact absurd h2 hn
  · obtain ⟨_, _, _, _, _, h2⟩ := h1; rw [h2]
theorem thread_idem {l : List S34} (R : xb l) : zN (zN l) = zN l := by
  apply List.ext_getElem (by rw [qk])
  intro i h1 h2
  have h : i < l.length := by rw [qk] at h2; exact h2
  have e1 : (zN (zN l))[i] = xz (zN l) i (zN l)[i] := get_of (threadF_get (zN l) i h2) h1
  have e2 : (zN l).getD i z34 = (zN l)[i] := xh _ i h2
  rw [e1]
  have et : tgt (zN l) i = ((i : Int) + ((zN l)[i]).f1).toNat := by unfold tgt; rw [e2]
  unfold xz
  rcases thread_cases R i h with h3 | h3 | h3 | h3
  · rw [← e2, h3.1, if_neg (by rw [h3.2]; decide)]
  · rw [← e2, h3.2.2, if_pos h3.1]
    have ht : tgt (zN l) i = tgt l i := by rw [et, ← e2, h3.2.2]; unfold tgt; rw [xh l i h]
    have : endOf (zN l) i = none := by
      unfold endOf
      rw [ht]
      exact round_chain (round_thread R (jb R i h h3.1).1 h3.2.1) _
    rw [this]
  · obtain ⟨_, t, ht, _, hs, h4⟩ := h3
    have := (stops_on _ hs).2.1
    rw [← e2, h4, if_neg (by rw [this]; decide)]
  · obtain ⟨hg, t, ht, hn, hc, h4⟩ := h3
    rw [← e2, h4, if_pos hg]
    have htt : tgt (zN l) i = t := by
      rw [et, ← e2, h4]
      simp only []
      omega
    have hop := thread_op R t ht hn
    have he : endOf (zN l) i = some t := by
      unfold endOf
      rw [htt]
      unfold chain
      rw [if_neg (by rw [hop]; exact hn)]
    rw [he]
    simp only []
    rw [if_neg (by rw [hop]; exact hc)]
def neqV (x y : S34) : Bool := !(x.f0 == y.f0) || (!(x.f1 == y.f1) || (!(x.f2 == y.f2) || (!(x.f3 == y.f3) || (!(x.f4.toList == y.f4.toList) || ((!(x.f5.f0 == y.f5.f0) || (!(x.f5.f1 == y.f5.f1) || (!(x.f5.f2 == y.f5.f2) || (!(x.f5.f3 == y.f5.f3))))))))))
theorem bytes_ext {s t : ByteArray} (h : s.toList = t.toList) : s = t := by
  rw [ByteArray.toList_eq, ByteArray.toList_eq] at h
  cases s; cases t
  congr 1
  exact Array.toList_inj.1 h
theorem neqV_iff (x y : S34) : neqV x y = false ↔ x = y := by
  constructor
  · intro h
    unfold neqV at h
    simp only [Bool.or_eq_false_iff, Bool.not_eq_false', beq_iff_eq] at h
    obtain ⟨h0, h1, h2, h3, h4, h5, h6, h7, h8⟩ := h
    obtain ⟨a0, a1, a2, a3, a4, a5, a6, a7, a8⟩ := x
    obtain ⟨b0, b1, b2, b3, b4, b5, b6, b7, b8⟩ := y
    simp only at h0 h1 h2 h3 h4 h5 h6 h7 h8
    have := bytes_ext h4
    subst h0; subst h1; subst h2; subst h3; subst this; subst h5; subst h6; subst h7; subst h8
    rfl
  · intro h
    subst h
    simp [neqV]
theorem neqV_true (x y : S34) : neqV x y = true ↔ x ≠ y := by
  have := neqV_iff x y
  cases h : neqV x y <;> simp_all
theorem same_loop (a b : List S34) (hab : a.length = b.length) (hl : a.length ≤ 8192) (d : Nat) : ∀ i : Nat, i + d = a.length → ∃ s : Bool, Ev (fun k => qH.l0 k a b (a.length : Int) (i : Int)) s ∧ Ev (fun k => zo.l0 k a b (i : Int)) s ∧ (s = true ↔ ∀ j, i ≤ j → j < a.length → a.getD j z34 = b.getD j z34) := by
  induction d with
  | zero =>
    intro i hi
    exact ⟨true, zu (fun k => qH.l0.eq_2 _ _ _ _ _) (ze (by omega) zn), zu (fun k => zo.l0.eq_2 _ _ _ _) (ze (by omega) zn), ⟨fun _ j h1 h2 => absurd h2 (by omega), fun _ => rfl⟩⟩
  | succ d ih =>
    intro i hi
    have hil : i < a.length := by omega
    have hw := qC (i := i) (by omega)
    have ra : za a (i : Int) = a.getD i z34 := by rw [rd34 a i hil, xh a i hil]
    have rb : za b (i : Int) = b.getD i z34 := by rw [rd34 b i (by omega), xh b i (by omega)]
    have pre : ∀ r, Ev (fun k => if neqV (a.getD i z34) (b.getD i z34) = true then some false else qH.l0 k a b (a.length : Int) ((i + 1 : Nat) : Int)) r → Ev (fun k => qH.l0 k a b (a.length : Int) (i : Int)) r := by
      intro r h
      refine zu (fun k => qH.l0.eq_2 _ _ _ _ _) (zc (by omega) (zc (by omega) (zc (by omega) (zc (by omega) ?_))))
      rw [ra, rb, hw]
      exact h
    have pre2 : ∀ r, Ev (fun k => if neqV (a.getD i z34) (b.getD i z34) = true then some false else zo.l0 k a b ((i + 1 : Nat) : Int)) r → Ev (fun k => zo.l0 k a b (i : Int)) r := by
      intro r h
      refine zu (fun k => zo.l0.eq_2 _ _ _ _) (zc (by omega) (zc (by omega) (zc (by omega) ?_)))
      rw [ra, rb, hw]
      exact h
    by_cases hn : neqV (a.getD i z34) (b.getD i z34) = true
    · exact ⟨false, pre _ (zc hn zn), pre2 _ (zc hn zn), ⟨(fun h => by cases h), fun h => absurd (h i (Nat.le_refl _) hil) ((neqV_true _ _).1 hn)⟩⟩
    · obtain ⟨s, h1, h2, h3⟩ := ih (i + 1) (by omega)
      have he : a.getD i z34 = b.getD i z34 := (neqV_iff _ _).1 (by simpa using hn)
      refine ⟨s, pre _ (ze hn h1), pre2 _ (ze hn h2), h3.trans ⟨fun h j hj hj2 => ?_, fun h j hj hj2 => h j (by omega) hj2⟩⟩
      by_cases e : j = i
      · subst e; exact he
      · exact h j (by omega) hj2
theorem same_ev (a b : List S34) (hl : a.length ≤ 8192) : ∃ s : Bool, Ev (fun k => xQ.f k a b) s ∧ Ev (fun k => zo.f k a b) s ∧ (s = true ↔ a = b) := by
  by_cases hab : a.length = b.length
  · obtain ⟨s, h1, h2, h3⟩ := same_loop a b hab hl a.length 0 (by omega)
    refine ⟨s, ?_, ?_, h3.trans ⟨fun h => ?_, fun h j _ _ => by rw [h]⟩⟩
    · unfold xQ.f qH.f
      exact zA (zc (by omega) h1) zn
    · unfold zo.f
      exact zc (by omega) h2
    · apply List.ext_getElem hab
      intro i i1 i2
      have := h i (Nat.zero_le _) i1
      rwa [xh a i i1, xh b i i2] at this
  · refine ⟨false, ?_, ?_, ⟨(fun h => by cases h), fun h => absurd (by rw [h]) hab⟩⟩
    · unfold xQ.f qH.f
      exact zA (ze (by omega) zn) zn
    · unfold zo.f
      exact ze (by omega) zn
def nC : List S34 → Nat
  | [] => 0
  | x :: r => (if x.f0 = 15 then 1 else 0) + nC r
theorem nC_le : ∀ l : List S34, nC l ≤ l.length
  | [] => Nat.le_refl _
  | x :: r => by
    have := nC_le r
    simp only [nC, List.length_cons]
    split <;> omega
theorem cnt_le : ∀ (a b : List S34), a.length = b.length → (∀ i, (b.getD i z34).f0 = 15 → (a.getD i z34).f0 = 15) → nC b ≤ nC a ∧ ((∃ i, (a.getD i z34).f0 = 15 ∧ (b.getD i z34).f0 ≠ 15) → nC b < nC a)
  | [], [], _, _ => ⟨Nat.le_refl _, fun ⟨i, h, _⟩ => by simp at h; cases h⟩
  | [], _ :: _, h, _ => by simp at h
  | _ :: _, [], h, _ => by simp at h
  | x :: a, y :: b, h, hi => by
    obtain ⟨h1, h2⟩ := cnt_le a b (by simpa using h) (fun i hh => by have := hi (i + 1); simpa using this (by simpa using hh))
    have h0 : y.f0 = 15 → x.f0 = 15 := fun hh => by have := hi 0; simpa using this (by simpa using hh)
    simp only [nC]
    constructor
    · split <;> split <;> first | omega | (rename_i p q; exact absurd (h0 p) q)
    · rintro ⟨i, e1, e2⟩
      cases i with
      | zero =>
        have e1' : x.f0 = 15 := by simpa using e1
        have e2' : y.f0 ≠ 15 := by simpa using e2
        rw [if_pos e1', if_neg e2']
        omega
      | succ i =>
        have := h2 ⟨i, by simpa using e1, by simpa using e2⟩
        split <;> split <;> first | omega | (rename_i p q; exact absurd (h0 p) q)
theorem out_get (l : List S34) (i : Nat) (h : ¬ i < l.length) : l.getD i z34 = z34 := by rw [List.getD_eq_getElem?_getD, List.getElem?_eq_none (by omega)]; rfl
theorem tail_getD (l : List S34) (i : Nat) (h : i < l.length) : (jq l).getD i z34 = tailAt l i l[i] := by
  rw [List.getD_eq_getElem?_getD, tailF_get l i h]
  rfl
theorem tail_calls (l : List S34) : nC (jq l) ≤ nC l ∧ (jq l ≠ l → nC (jq l) < nC l) := by
  have hp : ∀ i, ((jq l).getD i z34).f0 = 15 → (l.getD i z34).f0 = 15 := by
    intro i h
    by_cases hi : i < l.length
    · rw [tail_getD l i hi] at h
      rw [xh l i hi]
      unfold tailAt at h
      split at h
      · simp at h
      · exact h
    · rw [out_get _ i (by rw [qM]; exact hi)] at h; exact absurd h (by decide)
  obtain ⟨h1, h2⟩ := cnt_le l (jq l) (qM l).symm hp
  refine ⟨h1, fun hne => h2 ?_⟩
  apply Classical.byContradiction
  intro hno
  apply hne
  apply List.ext_getElem (qM l)
  intro i i1 i2
  rw [get_of (tailF_get l i i2) i1]
  unfold tailAt
  by_cases hc : l[i].f0 = 15 ∧ (l.getD (i + 1) z34).f0 = 16
  · exfalso
    apply hno
    refine ⟨i, by rw [xh l i i2]; exact hc.1, ?_⟩
    rw [tail_getD l i i2]
    unfold tailAt
    rw [if_pos hc]
    simp
  · rw [if_neg hc]
theorem thread_calls {l : List S34} (R : xb l) : nC (zN l) ≤ nC l := by
  refine (cnt_le l (zN l) (qk l).symm (fun i h => ?_)).1
  by_cases hi : i < l.length
  · rw [xh l i hi]
    rcases thread_cases R i hi with h3 | h3 | h3 | h3
    · rw [h3.1] at h; exact h
    · rw [h3.2.2] at h; exact h
    · obtain ⟨_, t, ht, _, hs, h4⟩ := h3
      rw [h4] at h
      rw [h] at hs
      exact absurd hs (by decide)
    · obtain ⟨_, t, ht, _, _, h4⟩ := h3
      rw [h4] at h; exact h
  · rw [out_get _ i (by rw [qk]; exact hi)] at h; exact absurd h (by decide)
theorem live_closed (l : List S34) (G : Good l) : ∃ v : List Bool, Ev (fun k => qj.f k l) (v, 0) ∧ v.length = l.length ∧ v.getD 0 false = true ∧ ∀ i, i < l.length → v.getD i false = true → ∀ j : Nat, (j : Int) ∈ xA l i → v.getD j false = true := by
  have R := G.right
  obtain ⟨v, h1, h2, h3⟩ := live_ev l R (check_ok l R G.fit) (fun out w => (out.getD 0 false = true ∨ (0 : Int) ∈ w) ∧ ∀ i, i < l.length → out.getD i false = true → ∀ j : Nat, (j : Int) ∈ xA l i → out.getD j false = true ∨ (j : Int) ∈ w)
    (fun out w i hI hi hm => ⟨by
      rcases hI.1 with h | h
      · exact Or.inl h
      · rcases List.mem_append.1 h with h | h
        · exact Or.inr h
        · have : (0 : Int) = (i : Int) := by simpa using h
          have : i = 0 := by omega
          subst this; exact Or.inl hm, fun a ha ha2 j hj => by
      rcases hI.2 a ha ha2 j hj with h | h
      · exact Or.inl h
      · rcases List.mem_append.1 h with h | h
        · exact Or.inr h
        · have : (j : Int) = (i : Int) := by simpa using h
          have : j = i := by omega
          subst this; exact Or.inl hm⟩)
    (fun out w i hI hi hlen hm => by
      have same : (out.set i true).getD i false = true := by simp [List.getD_eq_getElem?_getD, hlen, hi]
      have other : ∀ j, out.getD j false = true → (out.set i true).getD j false = true := by
        intro j hj
        by_cases e : j = i
        · subst e; exact same
        · rw [List.getD_eq_getElem?_getD] at hj ⊢
          rw [List.getElem?_set_ne (fun z => e z.symm)]
          exact hj
      have back : ∀ j, j ≠ i → (out.set i true).getD j false = true → out.getD j false = true := by
        intro j e hj
        rw [List.getD_eq_getElem?_getD] at hj ⊢
        rwa [List.getElem?_set_ne (fun z => e z.symm)] at hj
      refine ⟨?_, fun a ha ha2 j hj => ?_⟩
      · rcases hI.1 with h | h
        · exact Or.inl (other 0 h)
        · rcases List.mem_append.1 h with h | h
          · exact Or.inr (List.mem_append.2 (Or.inl h))
          · have : (0 : Int) = (i : Int) := by simpa using h
            have : i = 0 := by omega
            subst this; exact Or.inl same
      · by_cases e : a = i
        · subst e
          exact Or.inr (List.mem_append.2 (Or.inr ((sort2_mem _ _).2 hj)))
        · rcases hI.2 a ha (back a e ha2) j hj with h | h
          · exact Or.inl (other j h)
          · rcases List.mem_append.1 h with h | h
            · exact Or.inr (List.mem_append.2 (Or.inl h))
            · have : (j : Int) = (i : Int) := by simpa using h
              have : j = i := by omega
              subst this; exact Or.inl same)
    ⟨Or.inr (by simp), fun i hi hm => by rw [List.getD_eq_getElem?_getD, List.getElem?_replicate, if_pos hi] at hm; cases hm⟩
  refine ⟨v, h1, h2, ?_, fun i hi hm j hj => ?_⟩
  · rcases h3.1 with h | h
    · exact h
    · cases h
  · rcases h3.2 i hi hm j hj with h | h
    · exact h
    · cases h
theorem notv (v : List Bool) (i : Nat) (h : i < v.length) : (v.map fun b => !b).getD i false = !(v.getD i false) := by
  simp [List.getD_eq_getElem?_getD, h]
theorem jumps_ev (l : List S34) (G : Good l) : ∃ h : List S34, Ev (fun k => (zX.f k l).bind fun y1 => (qU.f k y1).bind fun y2 => qS.f k y2) h ∧ Good h ∧ h.length ≤ l.length ∧
    (h.length = l.length → h = zN l ∧ (∃ v : List Bool, Ev (fun k => qj.f k h) (v, 0) ∧ v.length = h.length ∧ ∀ i, i < h.length → v.getD i false = true) ∧ ∀ (i : Nat), i < h.length → ¬ ((h.getD i z34).f0 = 14 ∧ (h.getD i z34).f1 = 1)) := by
  have R := G.right
  have T := good_thread l G
  obtain ⟨v, v1, v2, v3, v4⟩ := live_closed (zN l) T
  have gl : (v.map fun b => !b).length = (zN l).length := by simp [v2]
  have nf : ∀ i, i < (zN l).length → ((v.map fun b => !b).getD i false = false ↔ v.getD i false = true) := fun i hi => by
    rw [notv v i (by omega)]
    cases v.getD i false <;> simp
  have D : Good (rest (zN l) (v.map fun b => !b)) := by
    refine good_rest _ T _ gl ⟨0, T.right.pos, (nf 0 T.right.pos).2 v3⟩ (fun i hi hk hon => ?_) (fun i hi hk hg => ?_)
    · have hn := next_on T.right i hi hon
      refine ⟨i + 1, by omega, hn, (nf _ hn).2 (v4 i hi ((nf i hi).1 hk) (i + 1) ?_)⟩
      unfold xA
      rw [xh _ i hi, if_pos hon]
      simp
    · have ht := jb T.right i hi hg
      refine ⟨tgt (zN l) i, Nat.le_refl _, ht.1, (nf _ ht.1).2 (v4 i hi ((nf i hi).1 hk) _ ?_)⟩
      unfold xA
      rw [xh _ i hi]
      by_cases hc : hasB (zN l)[i].f0 64 = true ∧ (zN l)[i].f1 = 1
      · rw [if_pos hc.1]
        refine List.mem_append.2 (Or.inl ?_)
        have e := ht.2
        rw [hc.2] at e
        simp
        omega
      · rw [if_pos (c := hasB (zN l)[i].f0 32 = true ∧ ¬ (hasB (zN l)[i].f0 64 = true ∧ (zN l)[i].f1 = 1)) ⟨hg, hc⟩]
        exact List.mem_append.2 (Or.inr (by simp))
  have DR := D.right
  have hlast : (hopG (rest (zN l) (v.map fun b => !b))).getD ((rest (zN l) (v.map fun b => !b)).length - 1) false = false := by
    have hlt : (rest (zN l) (v.map fun b => !b)).length - 1 < (rest (zN l) (v.map fun b => !b)).length := by have := DR.pos; omega
    rw [List.getD_eq_getElem?_getD, hopG_get _ _ hlt]
    simp only [Option.getD_some, Bool.and_eq_false_iff, decide_eq_false_iff_not, beq_eq_false_iff_ne]
    by_cases h14 : (rest (zN l) (v.map fun b => !b))[(rest (zN l) (v.map fun b => !b)).length - 1].f0 = 14
    · right
      have := DR.goes _ hlt (by rw [h14]; exact jump14)
      omega
    · exact Or.inl h14
  have hlt : (rest (zN l) (v.map fun b => !b)).length - 1 < (rest (zN l) (v.map fun b => !b)).length := by have := DR.pos; omega
  have H : Good (rest (rest (zN l) (v.map fun b => !b)) (hopG (rest (zN l) (v.map fun b => !b)))) := by
    refine good_rest _ D _ (hopG_length _) ⟨_, hlt, hlast⟩ (fun i hi hk hon => ⟨_, ?_, hlt, hlast⟩) (fun i hi hk hg => ⟨_, ?_, hlt, hlast⟩)
    · have := next_on DR i hi hon; omega
    · have := (jb DR i hi hg).1; omega
  have l1 := rest_len (zN l) _ gl
  have l2 := rest_len (rest (zN l) (v.map fun b => !b)) _ (hopG_length _)
  have k1 := jv (v.map fun b => !b) (zN l).length
  have k2 := jv (hopG (rest (zN l) (v.map fun b => !b))) (rest (zN l) (v.map fun b => !b)).length
  have tl := qk l
  refine ⟨_, zA (threads_ev l R) (zA (dead_ev _ T.right v v2 v1) (hops_ev _ DR)), H, by omega, fun he => ?_⟩
  obtain ⟨e1, e2⟩ := rest_same (zN l) T.right _ gl (by omega)
  obtain ⟨e3, e4⟩ := rest_same _ DR _ (hopG_length _) (by omega)
  have e5 : rest (rest (zN l) (v.map fun b => !b)) (hopG (rest (zN l) (v.map fun b => !b))) = zN l := e3.trans e1
  rw [e5]
  refine ⟨rfl, ⟨v, v1, v2, fun i hi => (nf i hi).1 (e2 i hi)⟩, fun i hi hc => ?_⟩
  have := e4 i (by rw [e1]; exact hi)
  rw [e1, List.getD_eq_getElem?_getD, hopG_get _ _ hi] at this
  rw [xh _ i hi] at hc
  simp [hc.1, hc.2] at this
def je (a1 : Int) (l : List S34) : List S34 := if (Go.bits .and .i64 a1 32 != 0) = true then jq l else l
def simB (a1 : Int) (l : List S34) : List S34 := if (Go.bits .and .i64 a1 64 != 0) = true then zN (je a1 l) else je a1 l
def Facts (h : List S34) : Prop := (∃ v : List Bool, Ev (fun k => qj.f k h) (v, 0) ∧ v.length = h.length ∧ ∀ i, i < h.length → v.getD i false = true) ∧ ∀ (i : Nat), i < h.length → ¬ ((h.getD i z34).f0 = 14 ∧ (h.getD i z34).f1 = 1)
theorem good_tailB (a1 : Int) (l : List S34) (G : Good l) : Good (je a1 l) := by
  unfold je
  split
  · exact good_tail l G
  · exact G
theorem tailB_length (a1 : Int) (l : List S34) : (je a1 l).length = l.length := by
  unfold je
  split
  · exact qM l
  · rfl
theorem tailB_calls (a1 : Int) (l : List S34) : nC (je a1 l) ≤ nC l ∧ (je a1 l ≠ l → nC (je a1 l) < nC l) := by
  unfold je
  split
  · exact tail_calls l
  · exact ⟨Nat.le_refl _, fun h => absurd rfl h⟩
theorem round_ev (a1 : Int) (l : List S34) (G : Good l) : ∃ o : List S34, Ev (fun k => z7.round k l a1) o ∧ Good o ∧ o.length ≤ l.length ∧ (o.length = l.length → o = simB a1 l ∧ ((Go.bits .and .i64 a1 64 != 0) = true → Facts o)) := by
  have ht : Ev (fun k => if (Go.bits .and .i64 a1 32 != 0) = true then qK.f k l else some l) (je a1 l) := by
    unfold je
    by_cases h : (Go.bits .and .i64 a1 32 != 0) = true
    · rw [if_pos h]; exact zc h (tails_ev l G.right)
    · rw [if_neg h]; exact ze h zn
  have GT := good_tailB a1 l G
  have lt := tailB_length a1 l
  unfold z7.round simB
  by_cases h : (Go.bits .and .i64 a1 64 != 0) = true
  · obtain ⟨o, h1, h2, h3, h4⟩ := jumps_ev (je a1 l) GT
    refine ⟨o, zA ht (zc h h1), h2, by omega, fun he => ?_⟩
    obtain ⟨e1, e2⟩ := h4 (by omega)
    rw [if_pos h]
    exact ⟨e1, fun _ => e2⟩
  · refine ⟨je a1 l, zA ht (ze h zn), GT, by omega, fun he => ?_⟩
    rw [if_neg h]
    exact ⟨rfl, fun h' => absurd h' h⟩
theorem better_bad (a1 : Int) (l : List S34) (r : Int × Int) (hc : Ev (fun k => zJ.f k l) r) (h : ¬ r.2 = 0) : Ev (fun k => z7.f k l a1) ([], r.2) := by
  unfold z7.f
  exact zA hc (ze h zn)
theorem better_range (a1 : Int) (l : List S34) (hl : l.length ≤ 8192) (hc : Ev (fun k => zJ.f k l) (0, 0)) (h : ¬ (0 ≤ a1 ∧ a1 ≤ 127)) : Ev (fun k => z7.f k l a1) ([], 1) := by
  unfold z7.f
  refine zA hc (zc rfl ?_)
  by_cases h0 : 0 ≤ a1
  · exact zc h0 (ze (by omega) zn)
  · exact ze h0 zn
theorem clone_good (l : List S34) (r : Int × Int) (hs : ∀ x ∈ l, x.f4.size ≤ 140737488351232) (h : r = (0, 0) ∧ xb l ∧ ∀ (j : Nat) (h : j < l.length), Fit l[j]) : Good l := ⟨h.2.1, h.2.2, fun j hj => hs _ (List.getElem_mem hj)⟩
theorem copied_ev (l : List S34) (h : l.length ≤ 8192) : qE.f l = some l := by
  unfold qE.f
  simp only [Option.bind_some, List.length_nil, List.nil_append]
  rw [if_pos (by omega)]
theorem tails16_loop (l : List S34) (R : xb l) (d : Nat) : ∀ i : Nat, i + d + 1 = l.length → Ev (fun k => z6.l0 k l (mix (jq l) l i) (i : Int)) (jq l) := by
  have hl := R.len
  induction d with
  | zero =>
    intro i hi
    have hil : i < l.length := by omega
    refine zu (fun k => z6.l0.eq_2 _ _ _ _) ?_
    rw [qC (i := i) (by omega)]
    refine ze (by omega) ?_
    have hT := tailF_get l i hil
    have hz : l.getD (i + 1) z34 = z34 := by rw [List.getD_eq_getElem?_getD, List.getElem?_eq_none (by omega)]; rfl
    rw [mix_same (qM l) hil (by rw [hT]; unfold tailAt; rw [hz, if_neg (fun h => by have := h.2; cases this)]), show i + 1 = l.length by omega, mix_full (qM l)]
    exact zn
  | succ d ih =>
    intro i hi
    have hil : i < l.length := by omega
    have hi1 : i + 1 < l.length := by omega
    have hw := qC (i := i) (by omega)
    have hT := tailF_get l i hil
    have hn := ih (i + 1) (by omega)
    have hg : l.getD (i + 1) z34 = l[i + 1] := xh l _ hi1
    refine zu (fun k => z6.l0.eq_2 _ _ _ _) ?_
    rw [hw]
    refine zc (by omega) (zc (by omega) (zc (by omega) ?_))
    rw [rd34 l i hil, rd34 l (i + 1) hi1, rdm _ _ _ (qM l) hil]
    by_cases h15 : l[i].f0 = 15
    · refine zc h15 (zc (by omega) ?_)
      by_cases h16 : l[i + 1].f0 = 16
      · refine zc h16 (zc (by rw [xP (qM l) (by omega)]; omega) ?_)
        have ht : (jq l)[i]? = some (⟨14, l[i].f1, l[i].f2, l[i].f3, l[i].f4, ⟨l[i].f5.f0, l[i].f5.f1, l[i].f5.f2, l[i].f5.f3⟩⟩ : S34) := by
          rw [hT]; unfold tailAt; rw [if_pos ⟨h15, by rw [hg]; exact h16⟩]
        rw [Int.toNat_natCast, jd (qM l) hil _ ht]
        exact hn
      · refine ze h16 ?_
        rw [mix_same (qM l) hil (by rw [hT]; unfold tailAt; rw [if_neg (by rw [hg]; exact fun h => h16 h.2)])]
        exact hn
    · refine ze h15 ?_
      rw [mix_same (qM l) hil (by rw [hT]; unfold tailAt; rw [if_neg (fun h => h15 h.1)])]
      exact hn
theorem tails16_ev (l : List S34) (R : xb l) : Ev (fun k => z6.f k l) (jq l) := by
  unfold z6.f
  refine zx (copied_ev l R.len) ?_
  have hp := R.pos
  have := tails16_loop l R (l.length - 1) 0 (by omega)
  rwa [mix_zero] at this
theorem end16_l : ∀ (k : Nat) (x : List S34) (a b : Int), qf.l0 k x a b = xn.l0 k x a b
  | 0, _, _, _ => rfl
  | k + 1, x, a, b => by simp only [qf.l0, xn.l0, end16_l k]
theorem end16_ev (l : List S34) (R : xb l) (i : Nat) (hi : i < l.length) (hg : hasB l[i].f0 32 = true) : Ev (fun k => qf.f k l (i : Int)) (endR (endOf l i)) := by
  have h := end_ev l R i hi hg
  have e : (fun k => qf.f k l (i : Int)) = fun k => xn.f k l (i : Int) := by
    funext k
    simp only [qf.f, xn.f, end16_l]
  rw [e]
  exact h
theorem stop_plain (l : List S34) (G : Good l) (t : Nat) (ht : t < l.length) (hs : stops l[t].f0 = true) : l[t] = (⟨l[t].f0, 0, 0, 0, ⟨#[]⟩, ⟨0, 0, 0, 0⟩⟩ : S34) := by
  have hz := G.size t ht
  have hop := G.right.op t ht
  obtain ⟨nb, hn, _⟩ := name16 l[t].f4 hz
  obtain ⟨tb, hb⟩ := jh l[t].f4 hz
  have hv := ev_same (fits_val l[t] hop.1 hop.2 nb tb hn hb) (G.fit t ht)
  have hk : keepV l[t] = true := by
    cases h : keepV l[t] with
    | true => rfl
    | false => rw [h] at hv; cases hv
  have hm : hasB l[t].f0 1 = false ∧ hasB l[t].f0 2 = false ∧ hasB l[t].f0 4 = false ∧ hasB l[t].f0 8 = false ∧ hasB l[t].f0 16 = false := by
    have tab : ∀ op : Fin 21, stops (op.val : Int) = true → hasB (op.val : Int) 1 = false ∧ hasB (op.val : Int) 2 = false ∧ hasB (op.val : Int) 4 = false ∧ hasB (op.val : Int) 8 = false ∧ hasB (op.val : Int) 16 = false := by decide +kernel
    have e : ((l[t].f0.toNat : Nat) : Int) = l[t].f0 := by omega
    have := tab ⟨l[t].f0.toNat, by omega⟩
    simp only [e] at this
    exact this hs
  unfold keepV at hk
  rw [hm.1, hm.2.1, hm.2.2.1, hm.2.2.2.1, hm.2.2.2.2] at hk
  simp only [Bool.false_or, Bool.and_eq_true, beq_iff_eq] at hk
  obtain ⟨h1, h2, h3, h4, h5, h6, h7, h8⟩ := hk
  have h4' : l[t].f4 = ⟨#[]⟩ := bytes_ext (h4.trans nil_list.symm)
  generalize l[t] = x at *
  obtain ⟨a, b, c, d, e, ⟨f, g, h, i⟩⟩ := x
  simp only at h1 h2 h3 h4' h5 h6 h7 h8
  subst h1 h2 h3 h4' h5 h6 h7 h8
  rfl
theorem threads16_loop (l : List S34) (G : Good l) (d : Nat) : ∀ i : Nat, i + d = l.length → Ev (fun k => zv.l0 k l (mix (zN l) l i) (i : Int)) (zN l) := by
  have R := G.right
  have hl := R.len
  induction d with
  | zero =>
    intro i hi
    refine zu (fun k => zv.l0.eq_2 _ _ _ _) ?_
    refine ze (by omega) ?_
    obtain rfl : i = l.length := by omega
    rw [mix_full (qk l)]
    exact zn
  | succ d ih =>
    intro i hi
    have hil : i < l.length := by omega
    have hw := qC (i := i) (by omega)
    have hT := threadF_get l i hil
    have hn := ih (i + 1) (by omega)
    have hop := R.op i hil
    have hge := targets_val l[i].f0 hop.1 hop.2
    refine zu (fun k => zv.l0.eq_2 _ _ _ _) ?_
    refine zc (by omega) (zc (by omega) ?_)
    rw [rd34 l i hil, rdm _ _ _ (qk l) hil, hw]
    refine zx hge ?_
    cases hg : hasB l[i].f0 32 with
    | false =>
      refine ze (by decide) ?_
      rw [mix_same (qk l) hil (by rw [hT]; unfold xz; rw [hg]; rfl)]
      exact hn
    | true =>
      refine zc rfl ?_
      have hend := end16_ev l R i hil hg
      cases he : endOf l i with
      | none =>
        rw [he] at hend
        refine zA (y := (0, false)) hend ?_
        refine ze (by decide) ?_
        rw [mix_same (qk l) hil (by rw [hT]; unfold xz; rw [hg, he]; rfl)]
        exact hn
      | some t =>
        obtain ⟨ht, ht14⟩ := chain_lt R _ _ t (jb R i hil hg).1 he
        have htg := xh l t ht
        rw [he] at hend
        refine zA (y := ((t : Int), true)) hend ?_
        refine zc rfl ?_
        have hml := xP (qk l) (Nat.le_of_lt hil)
        refine zc (by rw [hml]; omega) ?_
        have hwt : wrap64 ((t : Int) - (i : Int)) = (t : Int) - (i : Int) := qZ (by omega) (by omega)
        rw [hwt, Int.toNat_natCast]
        refine zx rfl ?_
        refine zc (by show 0 ≤ (t : Int); omega) (zc (by show (t : Int) < (l.length : Int); omega) ?_)
        rw [rd34 l t ht]
        have k2 : ¬ (stops l[t].f0 = true ∧ l[i].f0 = 14) → Ev (fun k => zv.l0 k l ((mix (zN l) l i).set i (⟨l[i].f0, (t : Int) - (i : Int), l[i].f2, l[i].f3, l[i].f4, ⟨l[i].f5.f0, l[i].f5.f1, l[i].f5.f2, l[i].f5.f3⟩⟩ : S34)) ((i + 1 : Nat) : Int)) (zN l) := by
          intro hns
          rw [jd (qk l) hil _ (by rw [hT]; unfold xz; rw [hg, he]; simp only [if_true]; rw [htg, if_neg hns])]
          exact hn
        have k1 : stops l[t].f0 = true → l[i].f0 = 14 → Ev (fun k => zv.l0 k l (((mix (zN l) l i).set i (⟨l[i].f0, (t : Int) - (i : Int), l[i].f2, l[i].f3, l[i].f4, ⟨l[i].f5.f0, l[i].f5.f1, l[i].f5.f2, l[i].f5.f3⟩⟩ : S34)).set i (⟨l[t].f0, 0, 0, 0, ⟨#[]⟩, ⟨0, 0, 0, 0⟩⟩ : S34)) ((i + 1 : Nat) : Int)) (zN l) := by
          intro hst h14
          rw [← stop_plain l G t ht hst, List.set_set, jd (qk l) hil _ (by rw [hT]; unfold xz; rw [hg, he]; simp only [if_true]; rw [htg, if_pos ⟨hst, h14⟩])]
          exact hn
        by_cases h14 : l[i].f0 = 14
        · refine zc h14 ?_
          by_cases h16 : l[t].f0 = 16
          · exact zc h16 (k1 (by unfold stops; rw [h16]; rfl) h14)
          · refine ze h16 ?_
            by_cases h17 : l[t].f0 = 17
            · exact zc h17 (k1 (by unfold stops; rw [h17]; rfl) h14)
            · refine ze h17 ?_
              by_cases h13 : l[t].f0 = 13
              · exact zc h13 (k1 (by unfold stops; rw [h13]; rfl) h14)
              · refine ze h13 ?_
                by_cases h12 : l[t].f0 = 12
                · exact zc h12 (k1 (by unfold stops; rw [h12]; rfl) h14)
                · refine ze h12 (k2 (fun h => ?_))
                  have := h.1
                  unfold stops at this
                  simp [h16, h17, h13, h12] at this
        · exact ze h14 (k2 (fun h => h14 h.2))
theorem threads16_ev (l : List S34) (G : Good l) : Ev (fun k => zv.f k l) (zN l) := by
  unfold zv.f
  refine zx (copied_ev l G.right.len) ?_
  have := threads16_loop l G l.length 0 (by omega)
  rwa [mix_zero] at this
theorem without16_l1 (l : List S34) (R : xb l) (g : List Bool) (hg : g.length = l.length) (b : List Int) (hb : Cnt g b l.length l.length) (d : Nat) : ∀ i : Nat, i + d = l.length →
    Ev (fun k => zk.l1 k l g b (restTo l g i) (i : Int)) (rest l g) := by
  have hl := R.len
  induction d with
  | zero =>
    intro i hi
    refine zu (fun k => zk.l1.eq_2 _ _ _ _ _ _) ?_
    refine ze (by omega) ?_
    obtain rfl : i = l.length := by omega
    exact zn
  | succ d ih =>
    intro i hi
    have hil : i < l.length := by omega
    have hw := qC (i := i) (by omega)
    have hop := R.op i hil
    have hge := targets_val l[i].f0 hop.1 hop.2
    have hn := ih (i + 1) (by omega)
    have hrl := restTo_length_le l g i
    rw [restTo_succ] at hn
    refine zu (fun k => zk.l1.eq_2 _ _ _ _ _ _) ?_
    refine zc (by omega) (zc (by omega) (zc (by omega) ?_))
    rw [rdBool, rd34 l i hil, hw]
    cases hgi : g.getD i false with
    | true =>
      have e : restAt l g i = none := by unfold restAt; rw [hgi]; rfl
      rw [e] at hn
      simp only [Option.toList_none, List.append_nil] at hn
      exact zc rfl hn
    | false =>
      have e : restAt l g i = some (jo l g i l[i]) := by unfold restAt; rw [hgi, xh l i hil]; rfl
      rw [e] at hn
      simp only [Option.toList_some] at hn
      refine ze (by decide) (zx hge ?_)
      cases ho : hasB l[i].f0 32 with
      | true =>
        have ht := jb R i hil ho
        refine zc rfl ?_
        have hwt : wrap64 ((i : Int) + l[i].f1) = ((tgt l i : Nat) : Int) := by rw [qZ (by omega) (by omega), ht.2]
        have k1 := jv g (tgt l i)
        have k2 := jv g i
        rw [hwt, hb.2 _ (by omega), hb.2 _ (by omega), qZ (x := (kept g (tgt l i) : Int) - (kept g i : Int)) (by omega) (by omega)]
        have hbl := hb.1
        refine zc (by omega) (zc (by omega) (zc (by omega) (zc (by omega) ?_)))
        have em : jo l g i l[i] = (⟨l[i].f0, (kept g (tgt l i) : Int) - (kept g i : Int), l[i].f2, l[i].f3, l[i].f4, ⟨l[i].f5.f0, l[i].f5.f1, l[i].f5.f2, l[i].f5.f3⟩⟩ : S34) := by unfold jo; rw [ho]; rfl
        rw [← em]
        exact hn
      | false =>
        refine ze (by decide) (zc (by omega) ?_)
        have em : jo l g i l[i] = l[i] := by unfold jo; rw [ho]; rfl
        rw [eta34, ← em]
        rw [em]
        rw [em] at hn
        exact hn
theorem without16_l0 (l : List S34) (R : xb l) (g : List Bool) (hg : g.length = l.length) (d : Nat) : ∀ (i : Nat) (b : List Int), i + d = l.length → Cnt g b l.length i →
    Ev (fun k => zk.l0 k l g b (i : Int)) (rest l g) := by
  have hl := R.len
  induction d with
  | zero =>
    intro i b hi hb
    obtain rfl : i = l.length := by omega
    refine zu (fun k => zk.l0.eq_2 _ _ _ _ _) ?_
    refine ze (by omega) ?_
    exact without16_l1 l R g hg b hb l.length 0 (by omega)
  | succ d ih =>
    intro i b hi hb
    have hil : i < l.length := by omega
    have hw := qC (i := i) (by omega)
    have hbl := hb.1
    have hk := jv g i
    refine zu (fun k => zk.l0.eq_2 _ _ _ _ _) ?_
    rw [hw]
    refine zc (by omega) (zc (by omega) (zc (by omega) (zc (by omega) (zc (by omega) ?_))))
    refine zx rfl (zc (by omega) ?_)
    rw [rdBool, Int.toNat_natCast, hb.2 i (Nat.le_refl _), jz _ _ _ (by omega)]
    have hks := kept_succ g i (by omega)
    cases hgi : g.getD i false with
    | true =>
      rw [hgi] at hks
      refine zc rfl (ih (i + 1) _ (by omega) ⟨by simpa using hbl, fun j hj => ?_⟩)
      by_cases e : j = i + 1
      · subst e
        rw [jz _ _ _ (by omega), hks]
        simp
      · rw [rd_set_ne _ _ _ _ e]
        exact hb.2 j (by omega)
    | false =>
      rw [hgi] at hks
      rw [qZ (x := (kept g i : Int) + 1) (by omega) (by omega), List.set_set]
      refine ze (by decide) (ih (i + 1) _ (by omega) ⟨by simpa using hbl, fun j hj => ?_⟩)
      by_cases e : j = i + 1
      · subst e
        rw [jz _ _ _ (by omega), hks]
        simp
      · rw [rd_set_ne _ _ _ _ e]
        exact hb.2 j (by omega)
theorem without16_ev (l : List S34) (R : xb l) (g : List Bool) (hg : g.length = l.length) : Ev (fun k => zk.f k l g) (rest l g) := by
  have hl := R.len
  unfold zk.f
  rw [qC (i := l.length) (by omega), Int.toNat_natCast]
  refine zc (by omega) (zc (by omega) ?_)
  refine without16_l0 l R g hg l.length 0 _ (by omega) ⟨by simp, fun j hj => ?_⟩
  obtain rfl : j = 0 := by omega
  simp [rd, kept, List.getD_eq_getElem?_getD]
theorem hops16_loop (l : List S34) (R : xb l) (d : Nat) : ∀ i : Nat, i + d = l.length → Ev (fun k => z3.l0 k l (mix (hopG l) (List.replicate l.length false) i) (i : Int)) (rest l (hopG l)) := by
  have hl := R.len
  have hrep : (hopG l).length = (List.replicate l.length false).length := by simp [hopG]
  induction d with
  | zero =>
    intro i hi
    obtain rfl : i = l.length := by omega
    refine zu (fun k => z3.l0.eq_2 _ _ _ _) ?_
    refine ze (by omega) ?_
    have e : mix (hopG l) (List.replicate l.length false) l.length = hopG l := by have := mix_full hrep; simpa using this
    rw [e]
    exact zA (without16_ev l R (hopG l) (hopG_length l)) zn
  | succ d ih =>
    intro i hi
    have hil : i < l.length := by omega
    have hir : i < (List.replicate l.length false).length := by simpa using hil
    have hw := qC (i := i) (by omega)
    have hT := hopG_get l i hil
    have hn := ih (i + 1) (by omega)
    have hml : (mix (hopG l) (List.replicate l.length false) i).length = l.length := by rw [xP hrep (by simp; omega)]; simp
    refine zu (fun k => z3.l0.eq_2 _ _ _ _) ?_
    refine zc (by omega) (zc (by omega) ?_)
    rw [rd34 l i hil, hw, Int.toNat_natCast]
    by_cases h14 : l[i].f0 = 14
    · refine zc h14 (zc (by omega) ?_)
      rw [jd hrep hir _ (by rw [hT, decide_eq_true h14]; simp)]
      exact hn
    · refine ze h14 (zc (by omega) ?_)
      rw [jd hrep hir _ (by rw [hT, decide_eq_false h14]; simp)]
      exact hn
theorem hops16_ev (l : List S34) (R : xb l) : Ev (fun k => z3.f k l) (rest l (hopG l)) := by
  have hl := R.len
  unfold z3.f
  refine zc (by omega) (zc (by omega) ?_)
  have := hops16_loop l R l.length 0 (by omega)
  rw [mix_zero] at this
  rwa [Int.toNat_natCast]
theorem dead16_loop (l : List S34) (R : xb l) (v : List Bool) (hv : v.length = l.length) (d : Nat) : ∀ i : Nat, i + d = l.length →
    Ev (fun k => z5.l0 k l v (mix (v.map fun b => !b) (List.replicate l.length false) i) (i : Int)) (rest l (v.map fun b => !b)) := by
  have hl := R.len
  have hrep : (v.map fun b => !b).length = (List.replicate l.length false).length := by simp [hv]
  induction d with
  | zero =>
    intro i hi
    obtain rfl : i = l.length := by omega
    refine zu (fun k => z5.l0.eq_2 _ _ _ _ _) ?_
    refine ze (by omega) ?_
    have e : mix (v.map fun b => !b) (List.replicate l.length false) l.length = (v.map fun b => !b) := by have := mix_full hrep; simpa using this
    rw [e]
    exact zA (without16_ev l R _ (by simp [hv])) zn
  | succ d ih =>
    intro i hi
    have hil : i < l.length := by omega
    have hir : i < (List.replicate l.length false).length := by simpa using hil
    have hw := qC (i := i) (by omega)
    have hn := ih (i + 1) (by omega)
    have hml : (mix (v.map fun b => !b) (List.replicate l.length false) i).length = l.length := by rw [xP hrep (by simp; omega)]; simp
    refine zu (fun k => z5.l0.eq_2 _ _ _ _ _) ?_
    refine zc (by omega) (zc (by omega) (zc (by omega) (zc (by omega) ?_)))
    rw [hw, Int.toNat_natCast, rdBool, jd hrep hir _ (by
      have : i < v.length := by omega
      simp [List.getD_eq_getElem?_getD, List.getElem?_eq_getElem this])]
    exact hn
theorem dead16_ev (l : List S34) (R : xb l) (v : List Bool) (hv : v.length = l.length) (hlive : Ev (fun k => zz.f k l) (v, 0)) : Ev (fun k => z5.f k l) (rest l (v.map fun b => !b)) := by
  have hl := R.len
  unfold z5.f
  refine zA hlive ?_
  refine zc (by omega) (zc (by omega) ?_)
  have := dead16_loop l R v hv l.length 0 (by omega)
  rw [mix_zero] at this
  rwa [Int.toNat_natCast]
end Go.Proofs.YtnpeabmlcakegaaDoor.PAll
