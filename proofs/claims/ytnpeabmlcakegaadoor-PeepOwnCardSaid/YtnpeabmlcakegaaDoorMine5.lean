/- Part 5 of the proof: words, walks and plain laws that the statement's own text (YtnpeabmlcakegaaDoorMine) uses. No condition of its own. -/
import Derived.Test.YtnpeabmlcakegaaDoorMine4
set_option maxHeartbeats 8000000
set_option maxRecDepth 100000
namespace Go.Proofs.YtnpeabmlcakegaaDoor.PAll
open Go.RowKit Go.Proofs.YtnpeabmlcakegaaDoorW.PrintWords Go.Proofs.YtnpeabmlcakegaaDoorW.PrintLast Go.Proofs.YtnpeabmlcakegaaDoorW.PrintMore
attribute [local go_sem] z9 qe ql xb xa xp xn qL qK qZ qY
set_option linter.unusedVariables false
set_option linter.unusedSimpArgs false
attribute [local go_sem high] eqA34
def zx.l0 : Nat → List (S34) → List (S34) → Int → Option ((List (S34)))
 | 0, _, _, _ => none
 | k + 1, x0, x3, x4 => if x4 < (x0.length : Int) then (if 0 ≤ x4 then ((zv.f ((za x0 x4).f0)).bind fun t526 => (if t526 = true then ((qm.f k x0 x4).bind fun bt527 => (if bt527.2 = true then (if x4 < (x3.length : Int) then ((some (x3.set (x4 : Int).toNat (⟨(za x3 x4).f0, wrap64 (bt527.1 - x4), (za x3 x4).f2, (za x3 x4).f3, (za x3 x4).f4, (⟨(za x3 x4).f5.f0, (za x3 x4).f5.f1, (za x3 x4).f5.f2, (za x3 x4).f5.f3⟩ : S32)⟩ : S34) : List (S34))).bind fun y529 => (if 0 ≤ bt527.1 then (if bt527.1 < (x0.length : Int) then (if ((za x0 x4).f0) = 14 then (if ((za x0 bt527.1).f0) = 16 then (zx.l0 k x0 (y529.set (x4 : Int).toNat (⟨(za x0 bt527.1).f0, 0, 0, 0, (⟨#[]⟩ : ByteArray), (⟨0, 0, 0, 0⟩ : S32)⟩ : S34)) (wrap64 (x4 + 1))) else (if ((za x0 bt527.1).f0) = 17 then (zx.l0 k x0 (y529.set (x4 : Int).toNat (⟨(za x0 bt527.1).f0, 0, 0, 0, (⟨#[]⟩ : ByteArray), (⟨0, 0, 0, 0⟩ : S32)⟩ : S34)) (wrap64 (x4 + 1))) else (if ((za x0 bt527.1).f0) = 13 then (zx.l0 k x0 (y529.set (x4 : Int).toNat (⟨(za x0 bt527.1).f0, 0, 0, 0, (⟨#[]⟩ : ByteArray), (⟨0, 0, 0, 0⟩ : S32)⟩ : S34)) (wrap64 (x4 + 1))) else (if ((za x0 bt527.1).f0) = 12 then (zx.l0 k x0 (y529.set (x4 : Int).toNat (⟨(za x0 bt527.1).f0, 0, 0, 0, (⟨#[]⟩ : ByteArray), (⟨0, 0, 0, 0⟩ : S32)⟩ : S34)) (wrap64 (x4 + 1))) else (zx.l0 k x0 y529 (wrap64 (x4 + 1))))))) else (zx.l0 k x0 y529 (wrap64 (x4 + 1)))) else (none)) else (none))) else (none)) else (zx.l0 k x0 x3 (wrap64 (x4 + 1))))) else (zx.l0 k x0 x3 (wrap64 (x4 + 1))))) else (none)) else (some x3)
def zx.f (k : Nat) (l0 : List (S34)) : Option ((List (S34))) := (qM.f l0).bind fun t522 => (zx.l0 k l0 t522 0)
theorem zx.calls (k : Nat) (A0 : Option Addr) (c0 : Nat) (l0 r : List (S34)) (w : World) (hG : GW w) (hr0 : Kd.C k34 w A0 l0.length l0) (hc0 : l0.length ≤ c0) (h : zx.f k l0 = some r) :
  Calls Tryd.prog 37 #[.slice A0 l0.length c0] w fun e w' => ∃ v0_ : Value, e = .returned (v0_) ∧ Kd.R k34 34 w' w.heap.size (fun _ => True) v0_ r ∧ Below w.heap.size w w' := by
 have hu34 := Tryd.underlying34
 have HR0 := zb.mk hr0
 have HC0 := zb.mk hc0
 clear hr0 hc0
 have HG := zb.mk hG
 clear hG
 have HB := zb.mk (Below.refl w.heap.size w)
 have H : ((qM.f l0).bind fun t522 => (zx.l0 k l0 t522 0)) = some r := h
 clear h
 replace H := zO H; obtain ⟨t522, A2, H⟩ := H
 have H' := zb.mk H
 clear H
 go_enter Tryd.func37, Tryd.ntmps37
 go_wp2_with (((with_reducible refine zc (f := 33) rfl ?_); refine zh (some 9) rfl rfl Tryd.func33 (by kernel_rfl) rfl #[.slice A0 l0.length c0] rfl hq ?_; (with_reducible refine (qM.calls _ _ l0 t522 _ ?side3 ?side1 ?side2 A2.out).mono ?_); (case side1 => exact Kd.cx HR0.out); (case side2 => exact HC0.out); (case side3 => exact gb HG HB); rintro e w3 ⟨v523, rfl, ho0, hb⟩; refine ⟨_, rfl, ?_⟩; have HO524 := zb.mk (Kd.rlo ho0 HB); replace HB := bst HB hb; (try clear hb); (try clear ho0)))
 go_loopg [4] k (fun kq v4 w' => ∃ (x3_1 : List (S34)) (x4_1 : Int), v4 = .int .i64 x4_1 ∧ zb (zx.l0 kq l0 x3_1 x4_1 = some r) ∧ zb (kq ≤ k) ∧ zb (Kd.R k34 34 w' w.heap.size (fun _ => True) v523 x3_1) ∧ zb (Below w.heap.size w w'))
 case atStart => exact ⟨(t522), (0), eq0, H', ⟨Nat.le_refl _⟩, ⟨Kd.rx HO524.out⟩, ⟨bl HB.out⟩⟩
 case round =>
  clear H'
  obtain ⟨x3_1, x4_1, rfl, HA, HK1, HO_3, HB⟩ := hrel
  cases gk with
  | zero => exact absurd HA.out (by simp [zx.l0])
  | succ k1 =>
   have H := HA.out
   clear HA
   simp only [zx.l0] at H
   by_cases c4 : x4_1 < (l0.length : Int)
   ·rw [if_pos c4] at H
    have c4b0 := decide_eq_true c4
    clear c4
    replace H := qh H; obtain ⟨c5, H⟩ := H
    have c5b0 := decide_eq_true c5
    clear c5
    replace H := zO H; obtain ⟨t526, A6, H⟩ := H
    by_cases c7 : t526 = true
    ·subst c7
     replace H := ifT H
     replace H := zO H; obtain ⟨⟨t527, t528⟩, A8, H⟩ := H; try dsimp only at H
     by_cases c9 : t528 = true
     ·subst c9
      replace H := ifT H
      replace H := qh H; obtain ⟨c10, H⟩ := H
      have c10b0 := decide_eq_true c10
      clear c10
      obtain ⟨y529, Ny529, H⟩ := bindY H; try dsimp only at H
      replace H := qh H; obtain ⟨c12, H⟩ := H
      have c12b0 := decide_eq_true c12
      clear c12
      replace H := qh H; obtain ⟨c13, H⟩ := H
      have c13b0 := decide_eq_true c13
      clear c13
      by_cases c14 : ((za l0 x4_1).f0) = 14
      ·rw [if_pos c14] at H
       have c14b0 := beq_iff_eq.mpr c14
       have c14b1 := bne_eq_false_iff_eq.mpr c14
       clear c14
       by_cases c15 : ((za l0 t527).f0) = 16
       ·rw [if_pos c15] at H
        have c15b0 := beq_iff_eq.mpr c15
        have c15b1 := bne_eq_false_iff_eq.mpr c15
        clear c15
        obtain ⟨y532, hy532⟩ : ∃ y_ : List (S34), y_ = (y529.set (x4_1 : Int).toNat (⟨(za l0 t527).f0, 0, 0, 0, (⟨#[]⟩ : ByteArray), (⟨0, 0, 0, 0⟩ : S32)⟩ : S34)) := ⟨_, rfl⟩
        replace H : (zx.l0 k1 l0 y532 (wrap64 (x4_1 + 1))) = some r := by (rw [hy532]; with_reducible exact H)
        have Ny532 := zb.mk hy532
        clear hy532
        have H' := zb.mk H
        clear H
        have p525 : 0 ≤ (x4_1 : Int) := dq
        have q525 : x4_1 < (l0.length : Int) := dq
        obtain ⟨ad525, e525, hx525_0, hx525_1, hx525_2, hx525_3, hx525_4, hx525_5, hx525_6, hx525_7, hx525_8⟩ := zU HR0.out x4_1 p525 q525
        cases e525
        replace hx525_0 := cb HB.out hx525_0
        replace hx525_1 := cb HB.out hx525_1
        replace hx525_2 := cb HB.out hx525_2
        replace hx525_3 := cb HB.out hx525_3
        replace hx525_4 := cb HB.out hx525_4
        replace hx525_5 := cb HB.out hx525_5
        replace hx525_6 := cb HB.out hx525_6
        replace hx525_7 := cb HB.out hx525_7
        replace hx525_8 := cb HB.out hx525_8
        replace p525 := eq_true p525
        replace q525 := eq_true q525
        go_wp2_with (first | ((with_reducible refine zc (f := 19) rfl ?_); refine zh (some 21) rfl rfl Tryd.func19 (by kernel_rfl) rfl #[.int .i64 ((za l0 x4_1).f0)] rfl hq ?_; (with_reducible refine (zv.calls ((za l0 x4_1).f0) true _ ?side1 A6.out).mono ?_); (case side1 => exact gb HG HB); rintro e w' ⟨rfl, ⟨nd, rfl⟩⟩; refine ⟨_, rfl, ?_⟩; (try (rw [xm wr]; generalize hq_ : World.drewN wr _ = wr; replace HO_3 : zb (Kd.R k34 34 wr w.heap.size (fun _ => True) v523 x3_1) := ⟨by rw [← hq_]; exact (Kd.rx HO_3.out)⟩; replace HB : zb (Below w.heap.size w wr) := ⟨by rw [← hq_]; exact (bl HB.out)⟩; clear hq_))) | ((with_reducible refine zc (f := 56) rfl ?_); refine zh (some 26) rfl rfl Tryd.func56 (by kernel_rfl) rfl #[.slice (some ad525) l0.length c0, .int .i64 x4_1] rfl hq ?_; (with_reducible refine (qm.calls k1 _ _ l0 x4_1 t527 true _ ?side3 ?side1 ?side2 A8.out).mono ?_); (case side1 => exact Kd.cx (Kd.zF HR0.out HB.out)); (case side2 => exact HC0.out); (case side3 => exact gb HG HB); rintro e w' ⟨rfl, ⟨nd, rfl⟩⟩; refine ⟨_, rfl, ?_⟩; (try (rw [xm wr]; generalize hq_ : World.drewN wr _ = wr; replace HO_3 : zb (Kd.R k34 34 wr w.heap.size (fun _ => True) v523 x3_1) := ⟨by rw [← hq_]; exact (Kd.rx HO_3.out)⟩; replace HB : zb (Below w.heap.size w wr) := ⟨by rw [← hq_]; exact (bl HB.out)⟩; clear hq_)); have p11 : 0 ≤ (x4_1 : Int) := dq; have q11 : (x4_1 : Int) < ((x3_1.length : Int) : Int) := dq; obtain ⟨go11, co11, eo11, gb11, gl11, cl11, HG11⟩ := Kd.xR HO_3.out (by omega); (cases eo11); have GB11 := zb.mk gb11; have GG11 := zb.mk HG11; clear gb11 gl11 HG11; obtain ⟨ce11, hcl11, hM11, hcc11, hfr11⟩ := Kd.xA HO_3.out z34 (x4_1 : Int) p11 q11; obtain rfl := qG hM11; have hx11_0 : wr.cell? ⟨go11, (x4_1 : Int).toNat * 9, none⟩ = some (.int .i64 ((za x3_1 x4_1).f0)) := hcc11 0 _ rfl; have hx11_1 : wr.cell? ⟨go11, (x4_1 : Int).toNat * 9 + 1, none⟩ = some (.int .i64 ((za x3_1 x4_1).f1)) := hcc11 1 _ rfl; have hx11_2 : wr.cell? ⟨go11, (x4_1 : Int).toNat * 9 + 2, none⟩ = some (.int .i64 ((za x3_1 x4_1).f2)) := hcc11 2 _ rfl; have hx11_3 : wr.cell? ⟨go11, (x4_1 : Int).toNat * 9 + 3, none⟩ = some (.int .i64 ((za x3_1 x4_1).f3)) := hcc11 3 _ rfl; have hx11_4 : wr.cell? ⟨go11, (x4_1 : Int).toNat * 9 + 4, none⟩ = some (.string ((za x3_1 x4_1).f4)) := hcc11 4 _ rfl; have hx11_5 : wr.cell? ⟨go11, (x4_1 : Int).toNat * 9 + 5, none⟩ = some (.int .u64 ((za x3_1 x4_1).f5.f0)) := hcc11 5 _ rfl; have hx11_6 : wr.cell? ⟨go11, (x4_1 : Int).toNat * 9 + 6, none⟩ = some (.int .u64 ((za x3_1 x4_1).f5.f1)) := hcc11 6 _ rfl; have hx11_7 : wr.cell? ⟨go11, (x4_1 : Int).toNat * 9 + 7, none⟩ = some (.int .u64 ((za x3_1 x4_1).f5.f2)) := hcc11 7 _ rfl; have hx11_8 : wr.cell? ⟨go11, (x4_1 : Int).toNat * 9 + 8, none⟩ = some (.int .u64 ((za x3_1 x4_1).f5.f3)) := hcc11 8 _ rfl; have hf11_0 : wr.frozen? ⟨go11, (x4_1 : Int).toNat * 9, none⟩ = false := hfr11 0; have hf11_1 : wr.frozen? ⟨go11, (x4_1 : Int).toNat * 9 + 1, none⟩ = false := hfr11 1; have hf11_2 : wr.frozen? ⟨go11, (x4_1 : Int).toNat * 9 + 2, none⟩ = false := hfr11 2; have hf11_3 : wr.frozen? ⟨go11, (x4_1 : Int).toNat * 9 + 3, none⟩ = false := hfr11 3; have hf11_4 : wr.frozen? ⟨go11, (x4_1 : Int).toNat * 9 + 4, none⟩ = false := hfr11 4; have hf11_5 : wr.frozen? ⟨go11, (x4_1 : Int).toNat * 9 + 5, none⟩ = false := hfr11 5; have hf11_6 : wr.frozen? ⟨go11, (x4_1 : Int).toNat * 9 + 6, none⟩ = false := hfr11 6; have hf11_7 : wr.frozen? ⟨go11, (x4_1 : Int).toNat * 9 + 7, none⟩ = false := hfr11 7; have hf11_8 : wr.frozen? ⟨go11, (x4_1 : Int).toNat * 9 + 8, none⟩ = false := hfr11 8; clear hcl11 hcc11 hfr11 hM11; replace p11 := eq_true p11; replace q11 := eq_true q11; have HX17 := zb.mk (show Kd.R k34 34 wr w.heap.size (fun _ => True) (.slice (some ⟨go11, 0, none⟩) x3_1.length co11) x3_1 from (Kd.rx HO_3.out)); obtain ⟨ce17, hcl17, hM17, hcc17, hfr17⟩ := Kd.xA HX17.out z34 (x4_1 : Int) (dq) (by have h_ : (x4_1 : Int) < ((x3_1.length : Int) : Int) := dq; exact h_); obtain rfl := qG hM17; have HP17 := Kd.R_seg HX17.out (x4_1 : Int) (dq) (by have h_ : (x4_1 : Int) < ((x3_1.length : Int) : Int) := dq; exact h_) (seg := [.int .i64 (wrap64 (t527 - x4_1))]) (j := 1) hcl17 hcc17 (show 2 ≤ 9 from by decide) (x' := (⟨(za x3_1 x4_1).f0, wrap64 (t527 - x4_1), (za x3_1 x4_1).f2, (za x3_1 x4_1).f3, (za x3_1 x4_1).f4, (⟨(za x3_1 x4_1).f5.f0, (za x3_1 x4_1).f5.f1, (za x3_1 x4_1).f5.f2, (za x3_1 x4_1).f5.f3⟩ : S32)⟩ : S34)) (xq _ _ _ (⟨(za x3_1 x4_1).f0, wrap64 (t527 - x4_1), (za x3_1 x4_1).f2, (za x3_1 x4_1).f3, (za x3_1 x4_1).f4, (⟨(za x3_1 x4_1).f5.f0, (za x3_1 x4_1).f5.f1, (za x3_1 x4_1).f5.f2, (za x3_1 x4_1).f5.f3⟩ : S32)⟩ : S34) ) (fun _ hk => hk); have hx17_1 := hcc17 1 _ rfl; (try simp only [show (k34).sz = 9 from rfl, Nat.mul_one, Nat.add_zero] at hx17_1); have hf17_1 := hfr17 1; (try simp only [show (k34).sz = 9 from rfl, Nat.mul_one, Nat.add_zero] at hf17_1); clear hcl17 hcc17 hfr17 hM17) | ((with_reducible refine zM (t := 3) (p := 37) rfl ?_); refine zB (t := 3) (p := 37) (v := ?vo_w18) (w1 := (wr.setCell ⟨go11, (x4_1 : Int).toNat * 9 + 1, none⟩ (.int .i64 (wrap64 (t527 - x4_1))))) ?hg ?ho ?hn ?hr ?_; (case ho => rfl); (case hg => rfl); (case hn => rfl); (case hr => (go_simp; done)); intro w18 hw; have hg : wr.grownBy w18 (some go11) := (by rw [hw]; exact HP17.2); have hp_ : Kd.R k34 34 w18 w.heap.size (fun _ => True) (.slice (some ⟨go11, 0, none⟩) x3_1.length co11) y529 := (by rw [hw, Ny529.out]; exact HP17.1); clear HP17; replace HO_3 := zb.mk (hp_); replace HB := zb.mk ((by rw [hw]; exact zz (HB.out) GB11.out : Below w.heap.size w w18)); clear hg hw hp_; have p530 : 0 ≤ (t527 : Int) := dq; have q530 : t527 < (l0.length : Int) := dq; obtain ⟨ad530, e530, hx530_0, hx530_1, hx530_2, hx530_3, hx530_4, hx530_5, hx530_6, hx530_7, hx530_8⟩ := zU (Kd.zF HR0.out HB.out) t527 p530 q530; obtain rfl : ad525 = ad530 := (by injection e530); replace p530 := eq_true p530; replace q530 := eq_true q530; have p531 : 0 ≤ (x4_1 : Int) := dq; have q531 : x4_1 < (l0.length : Int) := dq; obtain ⟨ad531, e531, hx531_0, hx531_1, hx531_2, hx531_3, hx531_4, hx531_5, hx531_6, hx531_7, hx531_8⟩ := zU (Kd.zF HR0.out HB.out) x4_1 p531 q531; obtain rfl : ad525 = ad531 := (by injection e531); replace p531 := eq_true p531; replace q531 := eq_true q531; have p16 : 0 ≤ (x4_1 : Int) := dq; have q16 : (x4_1 : Int) < ((x3_1.length : Int) : Int) := dq; obtain ⟨ce16, hcl16, hM16, hcc16, hfr16⟩ := Kd.xA HO_3.out z34 (x4_1 : Int) p16 q16; obtain rfl := qG hM16; have hx16_0 : w18.cell? ⟨go11, (x4_1 : Int).toNat * 9, none⟩ = some (.int .i64 ((za y529 x4_1).f0)) := hcc16 0 _ rfl; have hx16_1 : w18.cell? ⟨go11, (x4_1 : Int).toNat * 9 + 1, none⟩ = some (.int .i64 ((za y529 x4_1).f1)) := hcc16 1 _ rfl; have hx16_2 : w18.cell? ⟨go11, (x4_1 : Int).toNat * 9 + 2, none⟩ = some (.int .i64 ((za y529 x4_1).f2)) := hcc16 2 _ rfl; have hx16_3 : w18.cell? ⟨go11, (x4_1 : Int).toNat * 9 + 3, none⟩ = some (.int .i64 ((za y529 x4_1).f3)) := hcc16 3 _ rfl; have hx16_4 : w18.cell? ⟨go11, (x4_1 : Int).toNat * 9 + 4, none⟩ = some (.string ((za y529 x4_1).f4)) := hcc16 4 _ rfl; have hx16_5 : w18.cell? ⟨go11, (x4_1 : Int).toNat * 9 + 5, none⟩ = some (.int .u64 ((za y529 x4_1).f5.f0)) := hcc16 5 _ rfl; have hx16_6 : w18.cell? ⟨go11, (x4_1 : Int).toNat * 9 + 6, none⟩ = some (.int .u64 ((za y529 x4_1).f5.f1)) := hcc16 6 _ rfl; have hx16_7 : w18.cell? ⟨go11, (x4_1 : Int).toNat * 9 + 7, none⟩ = some (.int .u64 ((za y529 x4_1).f5.f2)) := hcc16 7 _ rfl; have hx16_8 : w18.cell? ⟨go11, (x4_1 : Int).toNat * 9 + 8, none⟩ = some (.int .u64 ((za y529 x4_1).f5.f3)) := hcc16 8 _ rfl; have hf16_0 : w18.frozen? ⟨go11, (x4_1 : Int).toNat * 9, none⟩ = false := hfr16 0; have hf16_1 : w18.frozen? ⟨go11, (x4_1 : Int).toNat * 9 + 1, none⟩ = false := hfr16 1; have hf16_2 : w18.frozen? ⟨go11, (x4_1 : Int).toNat * 9 + 2, none⟩ = false := hfr16 2; have hf16_3 : w18.frozen? ⟨go11, (x4_1 : Int).toNat * 9 + 3, none⟩ = false := hfr16 3; have hf16_4 : w18.frozen? ⟨go11, (x4_1 : Int).toNat * 9 + 4, none⟩ = false := hfr16 4; have hf16_5 : w18.frozen? ⟨go11, (x4_1 : Int).toNat * 9 + 5, none⟩ = false := hfr16 5; have hf16_6 : w18.frozen? ⟨go11, (x4_1 : Int).toNat * 9 + 6, none⟩ = false := hfr16 6; have hf16_7 : w18.frozen? ⟨go11, (x4_1 : Int).toNat * 9 + 7, none⟩ = false := hfr16 7; have hf16_8 : w18.frozen? ⟨go11, (x4_1 : Int).toNat * 9 + 8, none⟩ = false := hfr16 8; clear hcl16 hcc16 hfr16 hM16; replace p16 := eq_true p16; replace q16 := eq_true q16; have HX19 := zb.mk (show Kd.R k34 34 w18 w.heap.size (fun _ => True) (.slice (some ⟨go11, 0, none⟩) x3_1.length co11) y529 from (Kd.rx HO_3.out)); obtain ⟨ce19, hcl19, hM19, hcc19, hfr19⟩ := Kd.xA HX19.out z34 (x4_1 : Int) (dq) (by have h_ : (x4_1 : Int) < ((x3_1.length : Int) : Int) := dq; exact h_); obtain rfl := qG hM19; have HP19 := Kd.R_seg HX19.out (x4_1 : Int) (dq) (by have h_ : (x4_1 : Int) < ((x3_1.length : Int) : Int) := dq; exact h_) (seg := [.int .i64 ((za l0 t527).f0), .int .i64 0, .int .i64 0, .int .i64 0, .string (⟨#[]⟩ : ByteArray), .int .u64 0, .int .u64 0, .int .u64 0, .int .u64 0]) (j := 0) hcl19 hcc19 (show 9 ≤ 9 from by decide) (x' := (⟨(za l0 t527).f0, 0, 0, 0, (⟨#[]⟩ : ByteArray), (⟨0, 0, 0, 0⟩ : S32)⟩ : S34)) (xq _ _ _ (⟨(za l0 t527).f0, 0, 0, 0, (⟨#[]⟩ : ByteArray), (⟨0, 0, 0, 0⟩ : S32)⟩ : S34) ) (fun _ hk => hk); have hx19_0 := hcc19 0 _ rfl; (try simp only [show (k34).sz = 9 from rfl, Nat.mul_one, Nat.add_zero] at hx19_0); have hf19_0 := hfr19 0; (try simp only [show (k34).sz = 9 from rfl, Nat.mul_one, Nat.add_zero] at hf19_0); have hx19_1 := hcc19 1 _ rfl; (try simp only [show (k34).sz = 9 from rfl, Nat.mul_one, Nat.add_zero] at hx19_1); have hf19_1 := hfr19 1; (try simp only [show (k34).sz = 9 from rfl, Nat.mul_one, Nat.add_zero] at hf19_1); have hx19_2 := hcc19 2 _ rfl; (try simp only [show (k34).sz = 9 from rfl, Nat.mul_one, Nat.add_zero] at hx19_2); have hf19_2 := hfr19 2; (try simp only [show (k34).sz = 9 from rfl, Nat.mul_one, Nat.add_zero] at hf19_2); have hx19_3 := hcc19 3 _ rfl; (try simp only [show (k34).sz = 9 from rfl, Nat.mul_one, Nat.add_zero] at hx19_3); have hf19_3 := hfr19 3; (try simp only [show (k34).sz = 9 from rfl, Nat.mul_one, Nat.add_zero] at hf19_3); have hx19_4 := hcc19 4 _ rfl; (try simp only [show (k34).sz = 9 from rfl, Nat.mul_one, Nat.add_zero] at hx19_4); have hf19_4 := hfr19 4; (try simp only [show (k34).sz = 9 from rfl, Nat.mul_one, Nat.add_zero] at hf19_4); have hx19_5 := hcc19 5 _ rfl; (try simp only [show (k34).sz = 9 from rfl, Nat.mul_one, Nat.add_zero] at hx19_5); have hf19_5 := hfr19 5; (try simp only [show (k34).sz = 9 from rfl, Nat.mul_one, Nat.add_zero] at hf19_5); have hx19_6 := hcc19 6 _ rfl; (try simp only [show (k34).sz = 9 from rfl, Nat.mul_one, Nat.add_zero] at hx19_6); have hf19_6 := hfr19 6; (try simp only [show (k34).sz = 9 from rfl, Nat.mul_one, Nat.add_zero] at hf19_6); have hx19_7 := hcc19 7 _ rfl; (try simp only [show (k34).sz = 9 from rfl, Nat.mul_one, Nat.add_zero] at hx19_7); have hf19_7 := hfr19 7; (try simp only [show (k34).sz = 9 from rfl, Nat.mul_one, Nat.add_zero] at hf19_7); have hx19_8 := hcc19 8 _ rfl; (try simp only [show (k34).sz = 9 from rfl, Nat.mul_one, Nat.add_zero] at hx19_8); have hf19_8 := hfr19 8; (try simp only [show (k34).sz = 9 from rfl, Nat.mul_one, Nat.add_zero] at hf19_8); clear hcl19 hcc19 hfr19 hM19) | ((with_reducible refine zM (t := 34) (p := 69) rfl ?_); refine zB (t := 34) (p := 69) (v := ?vo_w20) (w1 := (((((((((w18.setCell ⟨go11, (x4_1 : Int).toNat * 9, none⟩ (.int .i64 ((za l0 t527).f0))).setCell ⟨go11, (x4_1 : Int).toNat * 9 + 1, none⟩ (.int .i64 0)).setCell ⟨go11, (x4_1 : Int).toNat * 9 + 2, none⟩ (.int .i64 0)).setCell ⟨go11, (x4_1 : Int).toNat * 9 + 3, none⟩ (.int .i64 0)).setCell ⟨go11, (x4_1 : Int).toNat * 9 + 4, none⟩ (.string (⟨#[]⟩ : ByteArray))).setCell ⟨go11, (x4_1 : Int).toNat * 9 + 5, none⟩ (.int .u64 0)).setCell ⟨go11, (x4_1 : Int).toNat * 9 + 6, none⟩ (.int .u64 0)).setCell ⟨go11, (x4_1 : Int).toNat * 9 + 7, none⟩ (.int .u64 0)).setCell ⟨go11, (x4_1 : Int).toNat * 9 + 8, none⟩ (.int .u64 0))) ?hg ?ho ?hn ?hr ?_; (case ho => rfl); (case hg => rfl); (case hn => rfl); (case hr => (go_simp; done)); intro w20 hw; have hg : w18.grownBy w20 (some go11) := (by rw [hw]; exact HP19.2); have hp_ : Kd.R k34 34 w20 w.heap.size (fun _ => True) (.slice (some ⟨go11, 0, none⟩) x3_1.length co11) y532 := (by rw [hw, Ny532.out]; exact HP19.1); clear HP19; replace HO_3 := zb.mk (hp_); replace HB := zb.mk ((by rw [hw]; exact zz (zz (zz (zz (zz (zz (zz (zz (zz (HB.out) GB11.out) GB11.out) GB11.out) GB11.out) GB11.out) GB11.out) GB11.out) GB11.out) GB11.out : Below w.heap.size w w20)); clear hg hw hp_))
        go_roundg k1
        case measure => have := HK1.out; omega
        case rel => exact ⟨(y532), (wrap64 (x4_1 + 1)), eq0, H', ⟨by have := HK1.out; omega⟩, ⟨Kd.rx HO_3.out⟩, ⟨bl HB.out⟩⟩
       ·rw [if_neg c15] at H
        have c15b0 := beq_eq_false_iff_ne.mpr c15
        have c15b1 := bne_iff_ne.mpr c15
        by_cases c21 : ((za l0 t527).f0) = 17
        ·rw [if_pos c21] at H
         have c21b0 := beq_iff_eq.mpr c21
         have c21b1 := bne_eq_false_iff_eq.mpr c21
         clear c21
         obtain ⟨y533, hy533⟩ : ∃ y_ : List (S34), y_ = (y529.set (x4_1 : Int).toNat (⟨(za l0 t527).f0, 0, 0, 0, (⟨#[]⟩ : ByteArray), (⟨0, 0, 0, 0⟩ : S32)⟩ : S34)) := ⟨_, rfl⟩
         replace H : (zx.l0 k1 l0 y533 (wrap64 (x4_1 + 1))) = some r := by (rw [hy533]; with_reducible exact H)
         have Ny533 := zb.mk hy533
         clear hy533
         have H' := zb.mk H
         clear H
         have p525 : 0 ≤ (x4_1 : Int) := dq
         have q525 : x4_1 < (l0.length : Int) := dq
         obtain ⟨ad525, e525, hx525_0, hx525_1, hx525_2, hx525_3, hx525_4, hx525_5, hx525_6, hx525_7, hx525_8⟩ := zU HR0.out x4_1 p525 q525
         cases e525
         replace hx525_0 := cb HB.out hx525_0
         replace hx525_1 := cb HB.out hx525_1
         replace hx525_2 := cb HB.out hx525_2
         replace hx525_3 := cb HB.out hx525_3
         replace hx525_4 := cb HB.out hx525_4
         replace hx525_5 := cb HB.out hx525_5
         replace hx525_6 := cb HB.out hx525_6
         replace hx525_7 := cb HB.out hx525_7
         replace hx525_8 := cb HB.out hx525_8
         replace p525 := eq_true p525
         replace q525 := eq_true q525
         go_wp2_with (first | ((with_reducible refine zc (f := 19) rfl ?_); refine zh (some 21) rfl rfl Tryd.func19 (by kernel_rfl) rfl #[.int .i64 ((za l0 x4_1).f0)] rfl hq ?_; (with_reducible refine (zv.calls ((za l0 x4_1).f0) true _ ?side1 A6.out).mono ?_); (case side1 => exact gb HG HB); rintro e w' ⟨rfl, ⟨nd, rfl⟩⟩; refine ⟨_, rfl, ?_⟩; (try (rw [xm wr]; generalize hq_ : World.drewN wr _ = wr; replace HO_3 : zb (Kd.R k34 34 wr w.heap.size (fun _ => True) v523 x3_1) := ⟨by rw [← hq_]; exact (Kd.rx HO_3.out)⟩; replace HB : zb (Below w.heap.size w wr) := ⟨by rw [← hq_]; exact (bl HB.out)⟩; clear hq_))) | ((with_reducible refine zc (f := 56) rfl ?_); refine zh (some 26) rfl rfl Tryd.func56 (by kernel_rfl) rfl #[.slice (some ad525) l0.length c0, .int .i64 x4_1] rfl hq ?_; (with_reducible refine (qm.calls k1 _ _ l0 x4_1 t527 true _ ?side3 ?side1 ?side2 A8.out).mono ?_); (case side1 => exact Kd.cx (Kd.zF HR0.out HB.out)); (case side2 => exact HC0.out); (case side3 => exact gb HG HB); rintro e w' ⟨rfl, ⟨nd, rfl⟩⟩; refine ⟨_, rfl, ?_⟩; (try (rw [xm wr]; generalize hq_ : World.drewN wr _ = wr; replace HO_3 : zb (Kd.R k34 34 wr w.heap.size (fun _ => True) v523 x3_1) := ⟨by rw [← hq_]; exact (Kd.rx HO_3.out)⟩; replace HB : zb (Below w.heap.size w wr) := ⟨by rw [← hq_]; exact (bl HB.out)⟩; clear hq_)); have p11 : 0 ≤ (x4_1 : Int) := dq; have q11 : (x4_1 : Int) < ((x3_1.length : Int) : Int) := dq; obtain ⟨go11, co11, eo11, gb11, gl11, cl11, HG11⟩ := Kd.xR HO_3.out (by omega); (cases eo11); have GB11 := zb.mk gb11; have GG11 := zb.mk HG11; clear gb11 gl11 HG11; obtain ⟨ce11, hcl11, hM11, hcc11, hfr11⟩ := Kd.xA HO_3.out z34 (x4_1 : Int) p11 q11; obtain rfl := qG hM11; have hx11_0 : wr.cell? ⟨go11, (x4_1 : Int).toNat * 9, none⟩ = some (.int .i64 ((za x3_1 x4_1).f0)) := hcc11 0 _ rfl; have hx11_1 : wr.cell? ⟨go11, (x4_1 : Int).toNat * 9 + 1, none⟩ = some (.int .i64 ((za x3_1 x4_1).f1)) := hcc11 1 _ rfl; have hx11_2 : wr.cell? ⟨go11, (x4_1 : Int).toNat * 9 + 2, none⟩ = some (.int .i64 ((za x3_1 x4_1).f2)) := hcc11 2 _ rfl; have hx11_3 : wr.cell? ⟨go11, (x4_1 : Int).toNat * 9 + 3, none⟩ = some (.int .i64 ((za x3_1 x4_1).f3)) := hcc11 3 _ rfl; have hx11_4 : wr.cell? ⟨go11, (x4_1 : Int).toNat * 9 + 4, none⟩ = some (.string ((za x3_1 x4_1).f4)) := hcc11 4 _ rfl; have hx11_5 : wr.cell? ⟨go11, (x4_1 : Int).toNat * 9 + 5, none⟩ = some (.int .u64 ((za x3_1 x4_1).f5.f0)) := hcc11 5 _ rfl; have hx11_6 : wr.cell? ⟨go11, (x4_1 : Int).toNat * 9 + 6, none⟩ = some (.int .u64 ((za x3_1 x4_1).f5.f1)) := hcc11 6 _ rfl; have hx11_7 : wr.cell? ⟨go11, (x4_1 : Int).toNat * 9 + 7, none⟩ = some (.int .u64 ((za x3_1 x4_1).f5.f2)) := hcc11 7 _ rfl; have hx11_8 : wr.cell? ⟨go11, (x4_1 : Int).toNat * 9 + 8, none⟩ = some (.int .u64 ((za x3_1 x4_1).f5.f3)) := hcc11 8 _ rfl; have hf11_0 : wr.frozen? ⟨go11, (x4_1 : Int).toNat * 9, none⟩ = false := hfr11 0; have hf11_1 : wr.frozen? ⟨go11, (x4_1 : Int).toNat * 9 + 1, none⟩ = false := hfr11 1; have hf11_2 : wr.frozen? ⟨go11, (x4_1 : Int).toNat * 9 + 2, none⟩ = false := hfr11 2; have hf11_3 : wr.frozen? ⟨go11, (x4_1 : Int).toNat * 9 + 3, none⟩ = false := hfr11 3; have hf11_4 : wr.frozen? ⟨go11, (x4_1 : Int).toNat * 9 + 4, none⟩ = false := hfr11 4; have hf11_5 : wr.frozen? ⟨go11, (x4_1 : Int).toNat * 9 + 5, none⟩ = false := hfr11 5; have hf11_6 : wr.frozen? ⟨go11, (x4_1 : Int).toNat * 9 + 6, none⟩ = false := hfr11 6; have hf11_7 : wr.frozen? ⟨go11, (x4_1 : Int).toNat * 9 + 7, none⟩ = false := hfr11 7; have hf11_8 : wr.frozen? ⟨go11, (x4_1 : Int).toNat * 9 + 8, none⟩ = false := hfr11 8; clear hcl11 hcc11 hfr11 hM11; replace p11 := eq_true p11; replace q11 := eq_true q11; have HX23 := zb.mk (show Kd.R k34 34 wr w.heap.size (fun _ => True) (.slice (some ⟨go11, 0, none⟩) x3_1.length co11) x3_1 from (Kd.rx HO_3.out)); obtain ⟨ce23, hcl23, hM23, hcc23, hfr23⟩ := Kd.xA HX23.out z34 (x4_1 : Int) (dq) (by have h_ : (x4_1 : Int) < ((x3_1.length : Int) : Int) := dq; exact h_); obtain rfl := qG hM23; have HP23 := Kd.R_seg HX23.out (x4_1 : Int) (dq) (by have h_ : (x4_1 : Int) < ((x3_1.length : Int) : Int) := dq; exact h_) (seg := [.int .i64 (wrap64 (t527 - x4_1))]) (j := 1) hcl23 hcc23 (show 2 ≤ 9 from by decide) (x' := (⟨(za x3_1 x4_1).f0, wrap64 (t527 - x4_1), (za x3_1 x4_1).f2, (za x3_1 x4_1).f3, (za x3_1 x4_1).f4, (⟨(za x3_1 x4_1).f5.f0, (za x3_1 x4_1).f5.f1, (za x3_1 x4_1).f5.f2, (za x3_1 x4_1).f5.f3⟩ : S32)⟩ : S34)) (xq _ _ _ (⟨(za x3_1 x4_1).f0, wrap64 (t527 - x4_1), (za x3_1 x4_1).f2, (za x3_1 x4_1).f3, (za x3_1 x4_1).f4, (⟨(za x3_1 x4_1).f5.f0, (za x3_1 x4_1).f5.f1, (za x3_1 x4_1).f5.f2, (za x3_1 x4_1).f5.f3⟩ : S32)⟩ : S34) ) (fun _ hk => hk); have hx23_1 := hcc23 1 _ rfl; (try simp only [show (k34).sz = 9 from rfl, Nat.mul_one, Nat.add_zero] at hx23_1); have hf23_1 := hfr23 1; (try simp only [show (k34).sz = 9 from rfl, Nat.mul_one, Nat.add_zero] at hf23_1); clear hcl23 hcc23 hfr23 hM23) | ((with_reducible refine zM (t := 3) (p := 37) rfl ?_); refine zB (t := 3) (p := 37) (v := ?vo_w24) (w1 := (wr.setCell ⟨go11, (x4_1 : Int).toNat * 9 + 1, none⟩ (.int .i64 (wrap64 (t527 - x4_1))))) ?hg ?ho ?hn ?hr ?_; (case ho => rfl); (case hg => rfl); (case hn => rfl); (case hr => (go_simp; done)); intro w24 hw; have hg : wr.grownBy w24 (some go11) := (by rw [hw]; exact HP23.2); have hp_ : Kd.R k34 34 w24 w.heap.size (fun _ => True) (.slice (some ⟨go11, 0, none⟩) x3_1.length co11) y529 := (by rw [hw, Ny529.out]; exact HP23.1); clear HP23; replace HO_3 := zb.mk (hp_); replace HB := zb.mk ((by rw [hw]; exact zz (HB.out) GB11.out : Below w.heap.size w w24)); clear hg hw hp_; have p530 : 0 ≤ (t527 : Int) := dq; have q530 : t527 < (l0.length : Int) := dq; obtain ⟨ad530, e530, hx530_0, hx530_1, hx530_2, hx530_3, hx530_4, hx530_5, hx530_6, hx530_7, hx530_8⟩ := zU (Kd.zF HR0.out HB.out) t527 p530 q530; obtain rfl : ad525 = ad530 := (by injection e530); replace p530 := eq_true p530; replace q530 := eq_true q530; have p531 : 0 ≤ (x4_1 : Int) := dq; have q531 : x4_1 < (l0.length : Int) := dq; obtain ⟨ad531, e531, hx531_0, hx531_1, hx531_2, hx531_3, hx531_4, hx531_5, hx531_6, hx531_7, hx531_8⟩ := zU (Kd.zF HR0.out HB.out) x4_1 p531 q531; obtain rfl : ad525 = ad531 := (by injection e531); replace p531 := eq_true p531; replace q531 := eq_true q531; have p22 : 0 ≤ (x4_1 : Int) := dq; have q22 : (x4_1 : Int) < ((x3_1.length : Int) : Int) := dq; obtain ⟨ce22, hcl22, hM22, hcc22, hfr22⟩ := Kd.xA HO_3.out z34 (x4_1 : Int) p22 q22; obtain rfl := qG hM22; have hx22_0 : w24.cell? ⟨go11, (x4_1 : Int).toNat * 9, none⟩ = some (.int .i64 ((za y529 x4_1).f0)) := hcc22 0 _ rfl; have hx22_1 : w24.cell? ⟨go11, (x4_1 : Int).toNat * 9 + 1, none⟩ = some (.int .i64 ((za y529 x4_1).f1)) := hcc22 1 _ rfl; have hx22_2 : w24.cell? ⟨go11, (x4_1 : Int).toNat * 9 + 2, none⟩ = some (.int .i64 ((za y529 x4_1).f2)) := hcc22 2 _ rfl; have hx22_3 : w24.cell? ⟨go11, (x4_1 : Int).toNat * 9 + 3, none⟩ = some (.int .i64 ((za y529 x4_1).f3)) := hcc22 3 _ rfl; have hx22_4 : w24.cell? ⟨go11, (x4_1 : Int).toNat * 9 + 4, none⟩ = some (.string ((za y529 x4_1).f4)) := hcc22 4 _ rfl; have hx22_5 : w24.cell? ⟨go11, (x4_1 : Int).toNat * 9 + 5, none⟩ = some (.int .u64 ((za y529 x4_1).f5.f0)) := hcc22 5 _ rfl; have hx22_6 : w24.cell? ⟨go11, (x4_1 : Int).toNat * 9 + 6, none⟩ = some (.int .u64 ((za y529 x4_1).f5.f1)) := hcc22 6 _ rfl; have hx22_7 : w24.cell? ⟨go11, (x4_1 : Int).toNat * 9 + 7, none⟩ = some (.int .u64 ((za y529 x4_1).f5.f2)) := hcc22 7 _ rfl; have hx22_8 : w24.cell? ⟨go11, (x4_1 : Int).toNat * 9 + 8, none⟩ = some (.int .u64 ((za y529 x4_1).f5.f3)) := hcc22 8 _ rfl; have hf22_0 : w24.frozen? ⟨go11, (x4_1 : Int).toNat * 9, none⟩ = false := hfr22 0; have hf22_1 : w24.frozen? ⟨go11, (x4_1 : Int).toNat * 9 + 1, none⟩ = false := hfr22 1; have hf22_2 : w24.frozen? ⟨go11, (x4_1 : Int).toNat * 9 + 2, none⟩ = false := hfr22 2; have hf22_3 : w24.frozen? ⟨go11, (x4_1 : Int).toNat * 9 + 3, none⟩ = false := hfr22 3; have hf22_4 : w24.frozen? ⟨go11, (x4_1 : Int).toNat * 9 + 4, none⟩ = false := hfr22 4; have hf22_5 : w24.frozen? ⟨go11, (x4_1 : Int).toNat * 9 + 5, none⟩ = false := hfr22 5; have hf22_6 : w24.frozen? ⟨go11, (x4_1 : Int).toNat * 9 + 6, none⟩ = false := hfr22 6; have hf22_7 : w24.frozen? ⟨go11, (x4_1 : Int).toNat * 9 + 7, none⟩ = false := hfr22 7; have hf22_8 : w24.frozen? ⟨go11, (x4_1 : Int).toNat * 9 + 8, none⟩ = false := hfr22 8; clear hcl22 hcc22 hfr22 hM22; replace p22 := eq_true p22; replace q22 := eq_true q22; have HX25 := zb.mk (show Kd.R k34 34 w24 w.heap.size (fun _ => True) (.slice (some ⟨go11, 0, none⟩) x3_1.length co11) y529 from (Kd.rx HO_3.out)); obtain ⟨ce25, hcl25, hM25, hcc25, hfr25⟩ := Kd.xA HX25.out z34 (x4_1 : Int) (dq) (by have h_ : (x4_1 : Int) < ((x3_1.length : Int) : Int) := dq; exact h_); obtain rfl := qG hM25; have HP25 := Kd.R_seg HX25.out (x4_1 : Int) (dq) (by have h_ : (x4_1 : Int) < ((x3_1.length : Int) : Int) := dq; exact h_) (seg := [.int .i64 ((za l0 t527).f0), .int .i64 0, .int .i64 0, .int .i64 0, .string (⟨#[]⟩ : ByteArray), .int .u64 0, .int .u64 0, .int .u64 0, .int .u64 0]) (j := 0) hcl25 hcc25 (show 9 ≤ 9 from by decide) (x' := (⟨(za l0 t527).f0, 0, 0, 0, (⟨#[]⟩ : ByteArray), (⟨0, 0, 0, 0⟩ : S32)⟩ : S34)) (xq _ _ _ (⟨(za l0 t527).f0, 0, 0, 0, (⟨#[]⟩ : ByteArray), (⟨0, 0, 0, 0⟩ : S32)⟩ : S34) ) (fun _ hk => hk); have hx25_0 := hcc25 0 _ rfl; (try simp only [show (k34).sz = 9 from rfl, Nat.mul_one, Nat.add_zero] at hx25_0); have hf25_0 := hfr25 0; (try simp only [show (k34).sz = 9 from rfl, Nat.mul_one, Nat.add_zero] at hf25_0); have hx25_1 := hcc25 1 _ rfl; (try simp only [show (k34).sz = 9 from rfl, Nat.mul_one, Nat.add_zero] at hx25_1); have hf25_1 := hfr25 1; (try simp only [show (k34).sz = 9 from rfl, Nat.mul_one, Nat.add_zero] at hf25_1); have hx25_2 := hcc25 2 _ rfl; (try simp only [show (k34).sz = 9 from rfl, Nat.mul_one, Nat.add_zero] at hx25_2); have hf25_2 := hfr25 2; (try simp only [show (k34).sz = 9 from rfl, Nat.mul_one, Nat.add_zero] at hf25_2); have hx25_3 := hcc25 3 _ rfl; (try simp only [show (k34).sz = 9 from rfl, Nat.mul_one, Nat.add_zero] at hx25_3); have hf25_3 := hfr25 3; (try simp only [show (k34).sz = 9 from rfl, Nat.mul_one, Nat.add_zero] at hf25_3); have hx25_4 := hcc25 4 _ rfl; (try simp only [show (k34).sz = 9 from rfl, Nat.mul_one, Nat.add_zero] at hx25_4); have hf25_4 := hfr25 4; (try simp only [show (k34).sz = 9 from rfl, Nat.mul_one, Nat.add_zero] at hf25_4); have hx25_5 := hcc25 5 _ rfl; (try simp only [show (k34).sz = 9 from rfl, Nat.mul_one, Nat.add_zero] at hx25_5); have hf25_5 := hfr25 5; (try simp only [show (k34).sz = 9 from rfl, Nat.mul_one, Nat.add_zero] at hf25_5); have hx25_6 := hcc25 6 _ rfl; (try simp only [show (k34).sz = 9 from rfl, Nat.mul_one, Nat.add_zero] at hx25_6); have hf25_6 := hfr25 6; (try simp only [show (k34).sz = 9 from rfl, Nat.mul_one, Nat.add_zero] at hf25_6); have hx25_7 := hcc25 7 _ rfl; (try simp only [show (k34).sz = 9 from rfl, Nat.mul_one, Nat.add_zero] at hx25_7); have hf25_7 := hfr25 7; (try simp only [show (k34).sz = 9 from rfl, Nat.mul_one, Nat.add_zero] at hf25_7); have hx25_8 := hcc25 8 _ rfl; (try simp only [show (k34).sz = 9 from rfl, Nat.mul_one, Nat.add_zero] at hx25_8); have hf25_8 := hfr25 8; (try simp only [show (k34).sz = 9 from rfl, Nat.mul_one, Nat.add_zero] at hf25_8); clear hcl25 hcc25 hfr25 hM25) | ((with_reducible refine zM (t := 34) (p := 69) rfl ?_); refine zB (t := 34) (p := 69) (v := ?vo_w26) (w1 := (((((((((w24.setCell ⟨go11, (x4_1 : Int).toNat * 9, none⟩ (.int .i64 ((za l0 t527).f0))).setCell ⟨go11, (x4_1 : Int).toNat * 9 + 1, none⟩ (.int .i64 0)).setCell ⟨go11, (x4_1 : Int).toNat * 9 + 2, none⟩ (.int .i64 0)).setCell ⟨go11, (x4_1 : Int).toNat * 9 + 3, none⟩ (.int .i64 0)).setCell ⟨go11, (x4_1 : Int).toNat * 9 + 4, none⟩ (.string (⟨#[]⟩ : ByteArray))).setCell ⟨go11, (x4_1 : Int).toNat * 9 + 5, none⟩ (.int .u64 0)).setCell ⟨go11, (x4_1 : Int).toNat * 9 + 6, none⟩ (.int .u64 0)).setCell ⟨go11, (x4_1 : Int).toNat * 9 + 7, none⟩ (.int .u64 0)).setCell ⟨go11, (x4_1 : Int).toNat * 9 + 8, none⟩ (.int .u64 0))) ?hg ?ho ?hn ?hr ?_; (case ho => rfl); (case hg => rfl); (case hn => rfl); (case hr => (go_simp; done)); intro w26 hw; have hg : w24.grownBy w26 (some go11) := (by rw [hw]; exact HP25.2); have hp_ : Kd.R k34 34 w26 w.heap.size (fun _ => True) (.slice (some ⟨go11, 0, none⟩) x3_1.length co11) y533 := (by rw [hw, Ny533.out]; exact HP25.1); clear HP25; replace HO_3 := zb.mk (hp_); replace HB := zb.mk ((by rw [hw]; exact zz (zz (zz (zz (zz (zz (zz (zz (zz (HB.out) GB11.out) GB11.out) GB11.out) GB11.out) GB11.out) GB11.out) GB11.out) GB11.out) GB11.out : Below w.heap.size w w26)); clear hg hw hp_))
         go_roundg k1
         case measure => have := HK1.out; omega
         case rel => exact ⟨(y533), (wrap64 (x4_1 + 1)), eq0, H', ⟨by have := HK1.out; omega⟩, ⟨Kd.rx HO_3.out⟩, ⟨bl HB.out⟩⟩
        ·rw [if_neg c21] at H
         have c21b0 := beq_eq_false_iff_ne.mpr c21
         have c21b1 := bne_iff_ne.mpr c21
         by_cases c27 : ((za l0 t527).f0) = 13
         ·rw [if_pos c27] at H
          have c27b0 := beq_iff_eq.mpr c27
          have c27b1 := bne_eq_false_iff_eq.mpr c27
          clear c27
          obtain ⟨y534, hy534⟩ : ∃ y_ : List (S34), y_ = (y529.set (x4_1 : Int).toNat (⟨(za l0 t527).f0, 0, 0, 0, (⟨#[]⟩ : ByteArray), (⟨0, 0, 0, 0⟩ : S32)⟩ : S34)) := ⟨_, rfl⟩
          replace H : (zx.l0 k1 l0 y534 (wrap64 (x4_1 + 1))) = some r := by (rw [hy534]; with_reducible exact H)
          have Ny534 := zb.mk hy534
          clear hy534
          have H' := zb.mk H
          clear H
          have p525 : 0 ≤ (x4_1 : Int) := dq
          have q525 : x4_1 < (l0.length : Int) := dq
          obtain ⟨ad525, e525, hx525_0, hx525_1, hx525_2, hx525_3, hx525_4, hx525_5, hx525_6, hx525_7, hx525_8⟩ := zU HR0.out x4_1 p525 q525
          cases e525
          replace hx525_0 := cb HB.out hx525_0
          replace hx525_1 := cb HB.out hx525_1
          replace hx525_2 := cb HB.out hx525_2
          replace hx525_3 := cb HB.out hx525_3
          replace hx525_4 := cb HB.out hx525_4
          replace hx525_5 := cb HB.out hx525_5
          replace hx525_6 := cb HB.out hx525_6
          replace hx525_7 := cb HB.out hx525_7
          replace hx525_8 := cb HB.out hx525_8
          replace p525 := eq_true p525
          replace q525 := eq_true q525
          go_wp2_with (first | ((with_reducible refine zc (f := 19) rfl ?_); refine zh (some 21) rfl rfl Tryd.func19 (by kernel_rfl) rfl #[.int .i64 ((za l0 x4_1).f0)] rfl hq ?_; (with_reducible refine (zv.calls ((za l0 x4_1).f0) true _ ?side1 A6.out).mono ?_); (case side1 => exact gb HG HB); rintro e w' ⟨rfl, ⟨nd, rfl⟩⟩; refine ⟨_, rfl, ?_⟩; (try (rw [xm wr]; generalize hq_ : World.drewN wr _ = wr; replace HO_3 : zb (Kd.R k34 34 wr w.heap.size (fun _ => True) v523 x3_1) := ⟨by rw [← hq_]; exact (Kd.rx HO_3.out)⟩; replace HB : zb (Below w.heap.size w wr) := ⟨by rw [← hq_]; exact (bl HB.out)⟩; clear hq_))) | ((with_reducible refine zc (f := 56) rfl ?_); refine zh (some 26) rfl rfl Tryd.func56 (by kernel_rfl) rfl #[.slice (some ad525) l0.length c0, .int .i64 x4_1] rfl hq ?_; (with_reducible refine (qm.calls k1 _ _ l0 x4_1 t527 true _ ?side3 ?side1 ?side2 A8.out).mono ?_); (case side1 => exact Kd.cx (Kd.zF HR0.out HB.out)); (case side2 => exact HC0.out); (case side3 => exact gb HG HB); rintro e w' ⟨rfl, ⟨nd, rfl⟩⟩; refine ⟨_, rfl, ?_⟩; (try (rw [xm wr]; generalize hq_ : World.drewN wr _ = wr; replace HO_3 : zb (Kd.R k34 34 wr w.heap.size (fun _ => True) v523 x3_1) := ⟨by rw [← hq_]; exact (Kd.rx HO_3.out)⟩; replace HB : zb (Below w.heap.size w wr) := ⟨by rw [← hq_]; exact (bl HB.out)⟩; clear hq_)); have p11 : 0 ≤ (x4_1 : Int) := dq; have q11 : (x4_1 : Int) < ((x3_1.length : Int) : Int) := dq; obtain ⟨go11, co11, eo11, gb11, gl11, cl11, HG11⟩ := Kd.xR HO_3.out (by omega); (cases eo11); have GB11 := zb.mk gb11; have GG11 := zb.mk HG11; clear gb11 gl11 HG11; obtain ⟨ce11, hcl11, hM11, hcc11, hfr11⟩ := Kd.xA HO_3.out z34 (x4_1 : Int) p11 q11; obtain rfl := qG hM11; have hx11_0 : wr.cell? ⟨go11, (x4_1 : Int).toNat * 9, none⟩ = some (.int .i64 ((za x3_1 x4_1).f0)) := hcc11 0 _ rfl; have hx11_1 : wr.cell? ⟨go11, (x4_1 : Int).toNat * 9 + 1, none⟩ = some (.int .i64 ((za x3_1 x4_1).f1)) := hcc11 1 _ rfl; have hx11_2 : wr.cell? ⟨go11, (x4_1 : Int).toNat * 9 + 2, none⟩ = some (.int .i64 ((za x3_1 x4_1).f2)) := hcc11 2 _ rfl; have hx11_3 : wr.cell? ⟨go11, (x4_1 : Int).toNat * 9 + 3, none⟩ = some (.int .i64 ((za x3_1 x4_1).f3)) := hcc11 3 _ rfl; have hx11_4 : wr.cell? ⟨go11, (x4_1 : Int).toNat * 9 + 4, none⟩ = some (.string ((za x3_1 x4_1).f4)) := hcc11 4 _ rfl; have hx11_5 : wr.cell? ⟨go11, (x4_1 : Int).toNat * 9 + 5, none⟩ = some (.int .u64 ((za x3_1 x4_1).f5.f0)) := hcc11 5 _ rfl; have hx11_6 : wr.cell? ⟨go11, (x4_1 : Int).toNat * 9 + 6, none⟩ = some (.int .u64 ((za x3_1 x4_1).f5.f1)) := hcc11 6 _ rfl; have hx11_7 : wr.cell? ⟨go11, (x4_1 : Int).toNat * 9 + 7, none⟩ = some (.int .u64 ((za x3_1 x4_1).f5.f2)) := hcc11 7 _ rfl; have hx11_8 : wr.cell? ⟨go11, (x4_1 : Int).toNat * 9 + 8, none⟩ = some (.int .u64 ((za x3_1 x4_1).f5.f3)) := hcc11 8 _ rfl; have hf11_0 : wr.frozen? ⟨go11, (x4_1 : Int).toNat * 9, none⟩ = false := hfr11 0; have hf11_1 : wr.frozen? ⟨go11, (x4_1 : Int).toNat * 9 + 1, none⟩ = false := hfr11 1; have hf11_2 : wr.frozen? ⟨go11, (x4_1 : Int).toNat * 9 + 2, none⟩ = false := hfr11 2; have hf11_3 : wr.frozen? ⟨go11, (x4_1 : Int).toNat * 9 + 3, none⟩ = false := hfr11 3; have hf11_4 : wr.frozen? ⟨go11, (x4_1 : Int).toNat * 9 + 4, none⟩ = false := hfr11 4; have hf11_5 : wr.frozen? ⟨go11, (x4_1 : Int).toNat * 9 + 5, none⟩ = false := hfr11 5; have hf11_6 : wr.frozen? ⟨go11, (x4_1 : Int).toNat * 9 + 6, none⟩ = false := hfr11 6; have hf11_7 : wr.frozen? ⟨go11, (x4_1 : Int).toNat * 9 + 7, none⟩ = false := hfr11 7; have hf11_8 : wr.frozen? ⟨go11, (x4_1 : Int).toNat * 9 + 8, none⟩ = false := hfr11 8; clear hcl11 hcc11 hfr11 hM11; replace p11 := eq_true p11; replace q11 := eq_true q11; have HX29 := zb.mk (show Kd.R k34 34 wr w.heap.size (fun _ => True) (.slice (some ⟨go11, 0, none⟩) x3_1.length co11) x3_1 from (Kd.rx HO_3.out)); obtain ⟨ce29, hcl29, hM29, hcc29, hfr29⟩ := Kd.xA HX29.out z34 (x4_1 : Int) (dq) (by have h_ : (x4_1 : Int) < ((x3_1.length : Int) : Int) := dq; exact h_); obtain rfl := qG hM29; have HP29 := Kd.R_seg HX29.out (x4_1 : Int) (dq) (by have h_ : (x4_1 : Int) < ((x3_1.length : Int) : Int) := dq; exact h_) (seg := [.int .i64 (wrap64 (t527 - x4_1))]) (j := 1) hcl29 hcc29 (show 2 ≤ 9 from by decide) (x' := (⟨(za x3_1 x4_1).f0, wrap64 (t527 - x4_1), (za x3_1 x4_1).f2, (za x3_1 x4_1).f3, (za x3_1 x4_1).f4, (⟨(za x3_1 x4_1).f5.f0, (za x3_1 x4_1).f5.f1, (za x3_1 x4_1).f5.f2, (za x3_1 x4_1).f5.f3⟩ : S32)⟩ : S34)) (xq _ _ _ (⟨(za x3_1 x4_1).f0, wrap64 (t527 - x4_1), (za x3_1 x4_1).f2, (za x3_1 x4_1).f3, (za x3_1 x4_1).f4, (⟨(za x3_1 x4_1).f5.f0, (za x3_1 x4_1).f5.f1, (za x3_1 x4_1).f5.f2, (za x3_1 x4_1).f5.f3⟩ : S32)⟩ : S34) ) (fun _ hk => hk); have hx29_1 := hcc29 1 _ rfl; (try simp only [show (k34).sz = 9 from rfl, Nat.mul_one, Nat.add_zero] at hx29_1); have hf29_1 := hfr29 1; (try simp only [show (k34).sz = 9 from rfl, Nat.mul_one, Nat.add_zero] at hf29_1); clear hcl29 hcc29 hfr29 hM29) | ((with_reducible refine zM (t := 3) (p := 37) rfl ?_); refine zB (t := 3) (p := 37) (v := ?vo_w30) (w1 := (wr.setCell ⟨go11, (x4_1 : Int).toNat * 9 + 1, none⟩ (.int .i64 (wrap64 (t527 - x4_1))))) ?hg ?ho ?hn ?hr ?_; (case ho => rfl); (case hg => rfl); (case hn => rfl); (case hr => (go_simp; done)); intro w30 hw; have hg : wr.grownBy w30 (some go11) := (by rw [hw]; exact HP29.2); have hp_ : Kd.R k34 34 w30 w.heap.size (fun _ => True) (.slice (some ⟨go11, 0, none⟩) x3_1.length co11) y529 := (by rw [hw, Ny529.out]; exact HP29.1); clear HP29; replace HO_3 := zb.mk (hp_); replace HB := zb.mk ((by rw [hw]; exact zz (HB.out) GB11.out : Below w.heap.size w w30)); clear hg hw hp_; have p530 : 0 ≤ (t527 : Int) := dq; have q530 : t527 < (l0.length : Int) := dq; obtain ⟨ad530, e530, hx530_0, hx530_1, hx530_2, hx530_3, hx530_4, hx530_5, hx530_6, hx530_7, hx530_8⟩ := zU (Kd.zF HR0.out HB.out) t527 p530 q530; obtain rfl : ad525 = ad530 := (by injection e530); replace p530 := eq_true p530; replace q530 := eq_true q530; have p531 : 0 ≤ (x4_1 : Int) := dq; have q531 : x4_1 < (l0.length : Int) := dq; obtain ⟨ad531, e531, hx531_0, hx531_1, hx531_2, hx531_3, hx531_4, hx531_5, hx531_6, hx531_7, hx531_8⟩ := zU (Kd.zF HR0.out HB.out) x4_1 p531 q531; obtain rfl : ad525 = ad531 := (by injection e531); replace p531 := eq_true p531; replace q531 := eq_true q531; have p28 : 0 ≤ (x4_1 : Int) := dq; have q28 : (x4_1 : Int) < ((x3_1.length : Int) : Int) := dq; obtain ⟨ce28, hcl28, hM28, hcc28, hfr28⟩ := Kd.xA HO_3.out z34 (x4_1 : Int) p28 q28; obtain rfl := qG hM28; have hx28_0 : w30.cell? ⟨go11, (x4_1 : Int).toNat * 9, none⟩ = some (.int .i64 ((za y529 x4_1).f0)) := hcc28 0 _ rfl; have hx28_1 : w30.cell? ⟨go11, (x4_1 : Int).toNat * 9 + 1, none⟩ = some (.int .i64 ((za y529 x4_1).f1)) := hcc28 1 _ rfl; have hx28_2 : w30.cell? ⟨go11, (x4_1 : Int).toNat * 9 + 2, none⟩ = some (.int .i64 ((za y529 x4_1).f2)) := hcc28 2 _ rfl; have hx28_3 : w30.cell? ⟨go11, (x4_1 : Int).toNat * 9 + 3, none⟩ = some (.int .i64 ((za y529 x4_1).f3)) := hcc28 3 _ rfl; have hx28_4 : w30.cell? ⟨go11, (x4_1 : Int).toNat * 9 + 4, none⟩ = some (.string ((za y529 x4_1).f4)) := hcc28 4 _ rfl; have hx28_5 : w30.cell? ⟨go11, (x4_1 : Int).toNat * 9 + 5, none⟩ = some (.int .u64 ((za y529 x4_1).f5.f0)) := hcc28 5 _ rfl; have hx28_6 : w30.cell? ⟨go11, (x4_1 : Int).toNat * 9 + 6, none⟩ = some (.int .u64 ((za y529 x4_1).f5.f1)) := hcc28 6 _ rfl; have hx28_7 : w30.cell? ⟨go11, (x4_1 : Int).toNat * 9 + 7, none⟩ = some (.int .u64 ((za y529 x4_1).f5.f2)) := hcc28 7 _ rfl; have hx28_8 : w30.cell? ⟨go11, (x4_1 : Int).toNat * 9 + 8, none⟩ = some (.int .u64 ((za y529 x4_1).f5.f3)) := hcc28 8 _ rfl; have hf28_0 : w30.frozen? ⟨go11, (x4_1 : Int).toNat * 9, none⟩ = false := hfr28 0; have hf28_1 : w30.frozen? ⟨go11, (x4_1 : Int).toNat * 9 + 1, none⟩ = false := hfr28 1; have hf28_2 : w30.frozen? ⟨go11, (x4_1 : Int).toNat * 9 + 2, none⟩ = false := hfr28 2; have hf28_3 : w30.frozen? ⟨go11, (x4_1 : Int).toNat * 9 + 3, none⟩ = false := hfr28 3; have hf28_4 : w30.frozen? ⟨go11, (x4_1 : Int).toNat * 9 + 4, none⟩ = false := hfr28 4; have hf28_5 : w30.frozen? ⟨go11, (x4_1 : Int).toNat * 9 + 5, none⟩ = false := hfr28 5; have hf28_6 : w30.frozen? ⟨go11, (x4_1 : Int).toNat * 9 + 6, none⟩ = false := hfr28 6; have hf28_7 : w30.frozen? ⟨go11, (x4_1 : Int).toNat * 9 + 7, none⟩ = false := hfr28 7; have hf28_8 : w30.frozen? ⟨go11, (x4_1 : Int).toNat * 9 + 8, none⟩ = false := hfr28 8; clear hcl28 hcc28 hfr28 hM28; replace p28 := eq_true p28; replace q28 := eq_true q28; have HX31 := zb.mk (show Kd.R k34 34 w30 w.heap.size (fun _ => True) (.slice (some ⟨go11, 0, none⟩) x3_1.length co11) y529 from (Kd.rx HO_3.out)); obtain ⟨ce31, hcl31, hM31, hcc31, hfr31⟩ := Kd.xA HX31.out z34 (x4_1 : Int) (dq) (by have h_ : (x4_1 : Int) < ((x3_1.length : Int) : Int) := dq; exact h_); obtain rfl := qG hM31; have HP31 := Kd.R_seg HX31.out (x4_1 : Int) (dq) (by have h_ : (x4_1 : Int) < ((x3_1.length : Int) : Int) := dq; exact h_) (seg := [.int .i64 ((za l0 t527).f0), .int .i64 0, .int .i64 0, .int .i64 0, .string (⟨#[]⟩ : ByteArray), .int .u64 0, .int .u64 0, .int .u64 0, .int .u64 0]) (j := 0) hcl31 hcc31 (show 9 ≤ 9 from by decide) (x' := (⟨(za l0 t527).f0, 0, 0, 0, (⟨#[]⟩ : ByteArray), (⟨0, 0, 0, 0⟩ : S32)⟩ : S34)) (xq _ _ _ (⟨(za l0 t527).f0, 0, 0, 0, (⟨#[]⟩ : ByteArray), (⟨0, 0, 0, 0⟩ : S32)⟩ : S34) ) (fun _ hk => hk); have hx31_0 := hcc31 0 _ rfl; (try simp only [show (k34).sz = 9 from rfl, Nat.mul_one, Nat.add_zero] at hx31_0); have hf31_0 := hfr31 0; (try simp only [show (k34).sz = 9 from rfl, Nat.mul_one, Nat.add_zero] at hf31_0); have hx31_1 := hcc31 1 _ rfl; (try simp only [show (k34).sz = 9 from rfl, Nat.mul_one, Nat.add_zero] at hx31_1); have hf31_1 := hfr31 1; (try simp only [show (k34).sz = 9 from rfl, Nat.mul_one, Nat.add_zero] at hf31_1); have hx31_2 := hcc31 2 _ rfl; (try simp only [show (k34).sz = 9 from rfl, Nat.mul_one, Nat.add_zero] at hx31_2); have hf31_2 := hfr31 2; (try simp only [show (k34).sz = 9 from rfl, Nat.mul_one, Nat.add_zero] at hf31_2); have hx31_3 := hcc31 3 _ rfl; (try simp only [show (k34).sz = 9 from rfl, Nat.mul_one, Nat.add_zero] at hx31_3); have hf31_3 := hfr31 3; (try simp only [show (k34).sz = 9 from rfl, Nat.mul_one, Nat.add_zero] at hf31_3); have hx31_4 := hcc31 4 _ rfl; (try simp only [show (k34).sz = 9 from rfl, Nat.mul_one, Nat.add_zero] at hx31_4); have hf31_4 := hfr31 4; (try simp only [show (k34).sz = 9 from rfl, Nat.mul_one, Nat.add_zero] at hf31_4); have hx31_5 := hcc31 5 _ rfl; (try simp only [show (k34).sz = 9 from rfl, Nat.mul_one, Nat.add_zero] at hx31_5); have hf31_5 := hfr31 5; (try simp only [show (k34).sz = 9 from rfl, Nat.mul_one, Nat.add_zero] at hf31_5); have hx31_6 := hcc31 6 _ rfl; (try simp only [show (k34).sz = 9 from rfl, Nat.mul_one, Nat.add_zero] at hx31_6); have hf31_6 := hfr31 6; (try simp only [show (k34).sz = 9 from rfl, Nat.mul_one, Nat.add_zero] at hf31_6); have hx31_7 := hcc31 7 _ rfl; (try simp only [show (k34).sz = 9 from rfl, Nat.mul_one, Nat.add_zero] at hx31_7); have hf31_7 := hfr31 7; (try simp only [show (k34).sz = 9 from rfl, Nat.mul_one, Nat.add_zero] at hf31_7); have hx31_8 := hcc31 8 _ rfl; (try simp only [show (k34).sz = 9 from rfl, Nat.mul_one, Nat.add_zero] at hx31_8); have hf31_8 := hfr31 8; (try simp only [show (k34).sz = 9 from rfl, Nat.mul_one, Nat.add_zero] at hf31_8); clear hcl31 hcc31 hfr31 hM31) | ((with_reducible refine zM (t := 34) (p := 69) rfl ?_); refine zB (t := 34) (p := 69) (v := ?vo_w32) (w1 := (((((((((w30.setCell ⟨go11, (x4_1 : Int).toNat * 9, none⟩ (.int .i64 ((za l0 t527).f0))).setCell ⟨go11, (x4_1 : Int).toNat * 9 + 1, none⟩ (.int .i64 0)).setCell ⟨go11, (x4_1 : Int).toNat * 9 + 2, none⟩ (.int .i64 0)).setCell ⟨go11, (x4_1 : Int).toNat * 9 + 3, none⟩ (.int .i64 0)).setCell ⟨go11, (x4_1 : Int).toNat * 9 + 4, none⟩ (.string (⟨#[]⟩ : ByteArray))).setCell ⟨go11, (x4_1 : Int).toNat * 9 + 5, none⟩ (.int .u64 0)).setCell ⟨go11, (x4_1 : Int).toNat * 9 + 6, none⟩ (.int .u64 0)).setCell ⟨go11, (x4_1 : Int).toNat * 9 + 7, none⟩ (.int .u64 0)).setCell ⟨go11, (x4_1 : Int).toNat * 9 + 8, none⟩ (.int .u64 0))) ?hg ?ho ?hn ?hr ?_; (case ho => rfl); (case hg => rfl); (case hn => rfl); (case hr => (go_simp; done)); intro w32 hw; have hg : w30.grownBy w32 (some go11) := (by rw [hw]; exact HP31.2); have hp_ : Kd.R k34 34 w32 w.heap.size (fun _ => True) (.slice (some ⟨go11, 0, none⟩) x3_1.length co11) y534 := (by rw [hw, Ny534.out]; exact HP31.1); clear HP31; replace HO_3 := zb.mk (hp_); replace HB := zb.mk ((by rw [hw]; exact zz (zz (zz (zz (zz (zz (zz (zz (zz (HB.out) GB11.out) GB11.out) GB11.out) GB11.out) GB11.out) GB11.out) GB11.out) GB11.out) GB11.out : Below w.heap.size w w32)); clear hg hw hp_))
          go_roundg k1
          case measure => have := HK1.out; omega
          case rel => exact ⟨(y534), (wrap64 (x4_1 + 1)), eq0, H', ⟨by have := HK1.out; omega⟩, ⟨Kd.rx HO_3.out⟩, ⟨bl HB.out⟩⟩
         ·rw [if_neg c27] at H
          have c27b0 := beq_eq_false_iff_ne.mpr c27
          have c27b1 := bne_iff_ne.mpr c27
          by_cases c33 : ((za l0 t527).f0) = 12
          ·rw [if_pos c33] at H
           have c33b0 := beq_iff_eq.mpr c33
           have c33b1 := bne_eq_false_iff_eq.mpr c33
           clear c33
           obtain ⟨y535, hy535⟩ : ∃ y_ : List (S34), y_ = (y529.set (x4_1 : Int).toNat (⟨(za l0 t527).f0, 0, 0, 0, (⟨#[]⟩ : ByteArray), (⟨0, 0, 0, 0⟩ : S32)⟩ : S34)) := ⟨_, rfl⟩
           replace H : (zx.l0 k1 l0 y535 (wrap64 (x4_1 + 1))) = some r := by (rw [hy535]; with_reducible exact H)
           have Ny535 := zb.mk hy535
           clear hy535
           have H' := zb.mk H
           clear H
           have p525 : 0 ≤ (x4_1 : Int) := dq
           have q525 : x4_1 < (l0.length : Int) := dq
           obtain ⟨ad525, e525, hx525_0, hx525_1, hx525_2, hx525_3, hx525_4, hx525_5, hx525_6, hx525_7, hx525_8⟩ := zU HR0.out x4_1 p525 q525
           cases e525
           replace hx525_0 := cb HB.out hx525_0
           replace hx525_1 := cb HB.out hx525_1
           replace hx525_2 := cb HB.out hx525_2
           replace hx525_3 := cb HB.out hx525_3
           replace hx525_4 := cb HB.out hx525_4
           replace hx525_5 := cb HB.out hx525_5
           replace hx525_6 := cb HB.out hx525_6
           replace hx525_7 := cb HB.out hx525_7
           replace hx525_8 := cb HB.out hx525_8
           replace p525 := eq_true p525
           replace q525 := eq_true q525
           go_wp2_with (first | ((with_reducible refine zc (f := 19) rfl ?_); refine zh (some 21) rfl rfl Tryd.func19 (by kernel_rfl) rfl #[.int .i64 ((za l0 x4_1).f0)] rfl hq ?_; (with_reducible refine (zv.calls ((za l0 x4_1).f0) true _ ?side1 A6.out).mono ?_); (case side1 => exact gb HG HB); rintro e w' ⟨rfl, ⟨nd, rfl⟩⟩; refine ⟨_, rfl, ?_⟩; (try (rw [xm wr]; generalize hq_ : World.drewN wr _ = wr; replace HO_3 : zb (Kd.R k34 34 wr w.heap.size (fun _ => True) v523 x3_1) := ⟨by rw [← hq_]; exact (Kd.rx HO_3.out)⟩; replace HB : zb (Below w.heap.size w wr) := ⟨by rw [← hq_]; exact (bl HB.out)⟩; clear hq_))) | ((with_reducible refine zc (f := 56) rfl ?_); refine zh (some 26) rfl rfl Tryd.func56 (by kernel_rfl) rfl #[.slice (some ad525) l0.length c0, .int .i64 x4_1] rfl hq ?_; (with_reducible refine (qm.calls k1 _ _ l0 x4_1 t527 true _ ?side3 ?side1 ?side2 A8.out).mono ?_); (case side1 => exact Kd.cx (Kd.zF HR0.out HB.out)); (case side2 => exact HC0.out); (case side3 => exact gb HG HB); rintro e w' ⟨rfl, ⟨nd, rfl⟩⟩; refine ⟨_, rfl, ?_⟩; (try (rw [xm wr]; generalize hq_ : World.drewN wr _ = wr; replace HO_3 : zb (Kd.R k34 34 wr w.heap.size (fun _ => True) v523 x3_1) := ⟨by rw [← hq_]; exact (Kd.rx HO_3.out)⟩; replace HB : zb (Below w.heap.size w wr) := ⟨by rw [← hq_]; exact (bl HB.out)⟩; clear hq_)); have p11 : 0 ≤ (x4_1 : Int) := dq; have q11 : (x4_1 : Int) < ((x3_1.length : Int) : Int) := dq; obtain ⟨go11, co11, eo11, gb11, gl11, cl11, HG11⟩ := Kd.xR HO_3.out (by omega); (cases eo11); have GB11 := zb.mk gb11; have GG11 := zb.mk HG11; clear gb11 gl11 HG11; obtain ⟨ce11, hcl11, hM11, hcc11, hfr11⟩ := Kd.xA HO_3.out z34 (x4_1 : Int) p11 q11; obtain rfl := qG hM11; have hx11_0 : wr.cell? ⟨go11, (x4_1 : Int).toNat * 9, none⟩ = some (.int .i64 ((za x3_1 x4_1).f0)) := hcc11 0 _ rfl; have hx11_1 : wr.cell? ⟨go11, (x4_1 : Int).toNat * 9 + 1, none⟩ = some (.int .i64 ((za x3_1 x4_1).f1)) := hcc11 1 _ rfl; have hx11_2 : wr.cell? ⟨go11, (x4_1 : Int).toNat * 9 + 2, none⟩ = some (.int .i64 ((za x3_1 x4_1).f2)) := hcc11 2 _ rfl; have hx11_3 : wr.cell? ⟨go11, (x4_1 : Int).toNat * 9 + 3, none⟩ = some (.int .i64 ((za x3_1 x4_1).f3)) := hcc11 3 _ rfl; have hx11_4 : wr.cell? ⟨go11, (x4_1 : Int).toNat * 9 + 4, none⟩ = some (.string ((za x3_1 x4_1).f4)) := hcc11 4 _ rfl; have hx11_5 : wr.cell? ⟨go11, (x4_1 : Int).toNat * 9 + 5, none⟩ = some (.int .u64 ((za x3_1 x4_1).f5.f0)) := hcc11 5 _ rfl; have hx11_6 : wr.cell? ⟨go11, (x4_1 : Int).toNat * 9 + 6, none⟩ = some (.int .u64 ((za x3_1 x4_1).f5.f1)) := hcc11 6 _ rfl; have hx11_7 : wr.cell? ⟨go11, (x4_1 : Int).toNat * 9 + 7, none⟩ = some (.int .u64 ((za x3_1 x4_1).f5.f2)) := hcc11 7 _ rfl; have hx11_8 : wr.cell? ⟨go11, (x4_1 : Int).toNat * 9 + 8, none⟩ = some (.int .u64 ((za x3_1 x4_1).f5.f3)) := hcc11 8 _ rfl; have hf11_0 : wr.frozen? ⟨go11, (x4_1 : Int).toNat * 9, none⟩ = false := hfr11 0; have hf11_1 : wr.frozen? ⟨go11, (x4_1 : Int).toNat * 9 + 1, none⟩ = false := hfr11 1; have hf11_2 : wr.frozen? ⟨go11, (x4_1 : Int).toNat * 9 + 2, none⟩ = false := hfr11 2; have hf11_3 : wr.frozen? ⟨go11, (x4_1 : Int).toNat * 9 + 3, none⟩ = false := hfr11 3; have hf11_4 : wr.frozen? ⟨go11, (x4_1 : Int).toNat * 9 + 4, none⟩ = false := hfr11 4; have hf11_5 : wr.frozen? ⟨go11, (x4_1 : Int).toNat * 9 + 5, none⟩ = false := hfr11 5; have hf11_6 : wr.frozen? ⟨go11, (x4_1 : Int).toNat * 9 + 6, none⟩ = false := hfr11 6; have hf11_7 : wr.frozen? ⟨go11, (x4_1 : Int).toNat * 9 + 7, none⟩ = false := hfr11 7; have hf11_8 : wr.frozen? ⟨go11, (x4_1 : Int).toNat * 9 + 8, none⟩ = false := hfr11 8; clear hcl11 hcc11 hfr11 hM11; replace p11 := eq_true p11; replace q11 := eq_true q11; have HX35 := zb.mk (show Kd.R k34 34 wr w.heap.size (fun _ => True) (.slice (some ⟨go11, 0, none⟩) x3_1.length co11) x3_1 from (Kd.rx HO_3.out)); obtain ⟨ce35, hcl35, hM35, hcc35, hfr35⟩ := Kd.xA HX35.out z34 (x4_1 : Int) (dq) (by have h_ : (x4_1 : Int) < ((x3_1.length : Int) : Int) := dq; exact h_); obtain rfl := qG hM35; have HP35 := Kd.R_seg HX35.out (x4_1 : Int) (dq) (by have h_ : (x4_1 : Int) < ((x3_1.length : Int) : Int) := dq; exact h_) (seg := [.int .i64 (wrap64 (t527 - x4_1))]) (j := 1) hcl35 hcc35 (show 2 ≤ 9 from by decide) (x' := (⟨(za x3_1 x4_1).f0, wrap64 (t527 - x4_1), (za x3_1 x4_1).f2, (za x3_1 x4_1).f3, (za x3_1 x4_1).f4, (⟨(za x3_1 x4_1).f5.f0, (za x3_1 x4_1).f5.f1, (za x3_1 x4_1).f5.f2, (za x3_1 x4_1).f5.f3⟩ : S32)⟩ : S34)) (xq _ _ _ (⟨(za x3_1 x4_1).f0, wrap64 (t527 - x4_1), (za x3_1 x4_1).f2, (za x3_1 x4_1).f3, (za x3_1 x4_1).f4, (⟨(za x3_1 x4_1).f5.f0, (za x3_1 x4_1).f5.f1, (za x3_1 x4_1).f5.f2, (za x3_1 x4_1).f5.f3⟩ : S32)⟩ : S34) ) (fun _ hk => hk); have hx35_1 := hcc35 1 _ rfl; (try simp only [show (k34).sz = 9 from rfl, Nat.mul_one, Nat.add_zero] at hx35_1); have hf35_1 := hfr35 1; (try simp only [show (k34).sz = 9 from rfl, Nat.mul_one, Nat.add_zero] at hf35_1); clear hcl35 hcc35 hfr35 hM35) | ((with_reducible refine zM (t := 3) (p := 37) rfl ?_); refine zB (t := 3) (p := 37) (v := ?vo_w36) (w1 := (wr.setCell ⟨go11, (x4_1 : Int).toNat * 9 + 1, none⟩ (.int .i64 (wrap64 (t527 - x4_1))))) ?hg ?ho ?hn ?hr ?_; (case ho => rfl); (case hg => rfl); (case hn => rfl); (case hr => (go_simp; done)); intro w36 hw; have hg : wr.grownBy w36 (some go11) := (by rw [hw]; exact HP35.2); have hp_ : Kd.R k34 34 w36 w.heap.size (fun _ => True) (.slice (some ⟨go11, 0, none⟩) x3_1.length co11) y529 := (by rw [hw, Ny529.out]; exact HP35.1); clear HP35; replace HO_3 := zb.mk (hp_); replace HB := zb.mk ((by rw [hw]; exact zz (HB.out) GB11.out : Below w.heap.size w w36)); clear hg hw hp_; have p530 : 0 ≤ (t527 : Int) := dq; have q530 : t527 < (l0.length : Int) := dq; obtain ⟨ad530, e530, hx530_0, hx530_1, hx530_2, hx530_3, hx530_4, hx530_5, hx530_6, hx530_7, hx530_8⟩ := zU (Kd.zF HR0.out HB.out) t527 p530 q530; obtain rfl : ad525 = ad530 := (by injection e530); replace p530 := eq_true p530; replace q530 := eq_true q530; have p531 : 0 ≤ (x4_1 : Int) := dq; have q531 : x4_1 < (l0.length : Int) := dq; obtain ⟨ad531, e531, hx531_0, hx531_1, hx531_2, hx531_3, hx531_4, hx531_5, hx531_6, hx531_7, hx531_8⟩ := zU (Kd.zF HR0.out HB.out) x4_1 p531 q531; obtain rfl : ad525 = ad531 := (by injection e531); replace p531 := eq_true p531; replace q531 := eq_true q531; have p34 : 0 ≤ (x4_1 : Int) := dq; have q34 : (x4_1 : Int) < ((x3_1.length : Int) : Int) := dq; obtain ⟨ce34, hcl34, hM34, hcc34, hfr34⟩ := Kd.xA HO_3.out z34 (x4_1 : Int) p34 q34; obtain rfl := qG hM34; have hx34_0 : w36.cell? ⟨go11, (x4_1 : Int).toNat * 9, none⟩ = some (.int .i64 ((za y529 x4_1).f0)) := hcc34 0 _ rfl; have hx34_1 : w36.cell? ⟨go11, (x4_1 : Int).toNat * 9 + 1, none⟩ = some (.int .i64 ((za y529 x4_1).f1)) := hcc34 1 _ rfl; have hx34_2 : w36.cell? ⟨go11, (x4_1 : Int).toNat * 9 + 2, none⟩ = some (.int .i64 ((za y529 x4_1).f2)) := hcc34 2 _ rfl; have hx34_3 : w36.cell? ⟨go11, (x4_1 : Int).toNat * 9 + 3, none⟩ = some (.int .i64 ((za y529 x4_1).f3)) := hcc34 3 _ rfl; have hx34_4 : w36.cell? ⟨go11, (x4_1 : Int).toNat * 9 + 4, none⟩ = some (.string ((za y529 x4_1).f4)) := hcc34 4 _ rfl; have hx34_5 : w36.cell? ⟨go11, (x4_1 : Int).toNat * 9 + 5, none⟩ = some (.int .u64 ((za y529 x4_1).f5.f0)) := hcc34 5 _ rfl; have hx34_6 : w36.cell? ⟨go11, (x4_1 : Int).toNat * 9 + 6, none⟩ = some (.int .u64 ((za y529 x4_1).f5.f1)) := hcc34 6 _ rfl; have hx34_7 : w36.cell? ⟨go11, (x4_1 : Int).toNat * 9 + 7, none⟩ = some (.int .u64 ((za y529 x4_1).f5.f2)) := hcc34 7 _ rfl; have hx34_8 : w36.cell? ⟨go11, (x4_1 : Int).toNat * 9 + 8, none⟩ = some (.int .u64 ((za y529 x4_1).f5.f3)) := hcc34 8 _ rfl; have hf34_0 : w36.frozen? ⟨go11, (x4_1 : Int).toNat * 9, none⟩ = false := hfr34 0; have hf34_1 : w36.frozen? ⟨go11, (x4_1 : Int).toNat * 9 + 1, none⟩ = false := hfr34 1; have hf34_2 : w36.frozen? ⟨go11, (x4_1 : Int).toNat * 9 + 2, none⟩ = false := hfr34 2; have hf34_3 : w36.frozen? ⟨go11, (x4_1 : Int).toNat * 9 + 3, none⟩ = false := hfr34 3; have hf34_4 : w36.frozen? ⟨go11, (x4_1 : Int).toNat * 9 + 4, none⟩ = false := hfr34 4; have hf34_5 : w36.frozen? ⟨go11, (x4_1 : Int).toNat * 9 + 5, none⟩ = false := hfr34 5; have hf34_6 : w36.frozen? ⟨go11, (x4_1 : Int).toNat * 9 + 6, none⟩ = false := hfr34 6; have hf34_7 : w36.frozen? ⟨go11, (x4_1 : Int).toNat * 9 + 7, none⟩ = false := hfr34 7; have hf34_8 : w36.frozen? ⟨go11, (x4_1 : Int).toNat * 9 + 8, none⟩ = false := hfr34 8; clear hcl34 hcc34 hfr34 hM34; replace p34 := eq_true p34; replace q34 := eq_true q34; have HX37 := zb.mk (show Kd.R k34 34 w36 w.heap.size (fun _ => True) (.slice (some ⟨go11, 0, none⟩) x3_1.length co11) y529 from (Kd.rx HO_3.out)); obtain ⟨ce37, hcl37, hM37, hcc37, hfr37⟩ := Kd.xA HX37.out z34 (x4_1 : Int) (dq) (by have h_ : (x4_1 : Int) < ((x3_1.length : Int) : Int) := dq; exact h_); obtain rfl := qG hM37; have HP37 := Kd.R_seg HX37.out (x4_1 : Int) (dq) (by have h_ : (x4_1 : Int) < ((x3_1.length : Int) : Int) := dq; exact h_) (seg := [.int .i64 ((za l0 t527).f0), .int .i64 0, .int .i64 0, .int .i64 0, .string (⟨#[]⟩ : ByteArray), .int .u64 0, .int .u64 0, .int .u64 0, .int .u64 0]) (j := 0) hcl37 hcc37 (show 9 ≤ 9 from by decide) (x' := (⟨(za l0 t527).f0, 0, 0, 0, (⟨#[]⟩ : ByteArray), (⟨0, 0, 0, 0⟩ : S32)⟩ : S34)) (xq _ _ _ (⟨(za l0 t527).f0, 0, 0, 0, (⟨#[]⟩ : ByteArray), (⟨0, 0, 0, 0⟩ : S32)⟩ : S34) ) (fun _ hk => hk); have hx37_0 := hcc37 0 _ rfl; (try simp only [show (k34).sz = 9 from rfl, Nat.mul_one, Nat.add_zero] at hx37_0); have hf37_0 := hfr37 0; (try simp only [show (k34).sz = 9 from rfl, Nat.mul_one, Nat.add_zero] at hf37_0); have hx37_1 := hcc37 1 _ rfl; (try simp only [show (k34).sz = 9 from rfl, Nat.mul_one, Nat.add_zero] at hx37_1); have hf37_1 := hfr37 1; (try simp only [show (k34).sz = 9 from rfl, Nat.mul_one, Nat.add_zero] at hf37_1); have hx37_2 := hcc37 2 _ rfl; (try simp only [show (k34).sz = 9 from rfl, Nat.mul_one, Nat.add_zero] at hx37_2); have hf37_2 := hfr37 2; (try simp only [show (k34).sz = 9 from rfl, Nat.mul_one, Nat.add_zero] at hf37_2); have hx37_3 := hcc37 3 _ rfl; (try simp only [show (k34).sz = 9 from rfl, Nat.mul_one, Nat.add_zero] at hx37_3); have hf37_3 := hfr37 3; (try simp only [show (k34).sz = 9 from rfl, Nat.mul_one, Nat.add_zero] at hf37_3); have hx37_4 := hcc37 4 _ rfl; (try simp only [show (k34).sz = 9 from rfl, Nat.mul_one, Nat.add_zero] at hx37_4); have hf37_4 := hfr37 4; (try simp only [show (k34).sz = 9 from rfl, Nat.mul_one, Nat.add_zero] at hf37_4); have hx37_5 := hcc37 5 _ rfl; (try simp only [show (k34).sz = 9 from rfl, Nat.mul_one, Nat.add_zero] at hx37_5); have hf37_5 := hfr37 5; (try simp only [show (k34).sz = 9 from rfl, Nat.mul_one, Nat.add_zero] at hf37_5); have hx37_6 := hcc37 6 _ rfl; (try simp only [show (k34).sz = 9 from rfl, Nat.mul_one, Nat.add_zero] at hx37_6); have hf37_6 := hfr37 6; (try simp only [show (k34).sz = 9 from rfl, Nat.mul_one, Nat.add_zero] at hf37_6); have hx37_7 := hcc37 7 _ rfl; (try simp only [show (k34).sz = 9 from rfl, Nat.mul_one, Nat.add_zero] at hx37_7); have hf37_7 := hfr37 7; (try simp only [show (k34).sz = 9 from rfl, Nat.mul_one, Nat.add_zero] at hf37_7); have hx37_8 := hcc37 8 _ rfl; (try simp only [show (k34).sz = 9 from rfl, Nat.mul_one, Nat.add_zero] at hx37_8); have hf37_8 := hfr37 8; (try simp only [show (k34).sz = 9 from rfl, Nat.mul_one, Nat.add_zero] at hf37_8); clear hcl37 hcc37 hfr37 hM37) | ((with_reducible refine zM (t := 34) (p := 69) rfl ?_); refine zB (t := 34) (p := 69) (v := ?vo_w38) (w1 := (((((((((w36.setCell ⟨go11, (x4_1 : Int).toNat * 9, none⟩ (.int .i64 ((za l0 t527).f0))).setCell ⟨go11, (x4_1 : Int).toNat * 9 + 1, none⟩ (.int .i64 0)).setCell ⟨go11, (x4_1 : Int).toNat * 9 + 2, none⟩ (.int .i64 0)).setCell ⟨go11, (x4_1 : Int).toNat * 9 + 3, none⟩ (.int .i64 0)).setCell ⟨go11, (x4_1 : Int).toNat * 9 + 4, none⟩ (.string (⟨#[]⟩ : ByteArray))).setCell ⟨go11, (x4_1 : Int).toNat * 9 + 5, none⟩ (.int .u64 0)).setCell ⟨go11, (x4_1 : Int).toNat * 9 + 6, none⟩ (.int .u64 0)).setCell ⟨go11, (x4_1 : Int).toNat * 9 + 7, none⟩ (.int .u64 0)).setCell ⟨go11, (x4_1 : Int).toNat * 9 + 8, none⟩ (.int .u64 0))) ?hg ?ho ?hn ?hr ?_; (case ho => rfl); (case hg => rfl); (case hn => rfl); (case hr => (go_simp; done)); intro w38 hw; have hg : w36.grownBy w38 (some go11) := (by rw [hw]; exact HP37.2); have hp_ : Kd.R k34 34 w38 w.heap.size (fun _ => True) (.slice (some ⟨go11, 0, none⟩) x3_1.length co11) y535 := (by rw [hw, Ny535.out]; exact HP37.1); clear HP37; replace HO_3 := zb.mk (hp_); replace HB := zb.mk ((by rw [hw]; exact zz (zz (zz (zz (zz (zz (zz (zz (zz (HB.out) GB11.out) GB11.out) GB11.out) GB11.out) GB11.out) GB11.out) GB11.out) GB11.out) GB11.out : Below w.heap.size w w38)); clear hg hw hp_))
           go_roundg k1
           case measure => have := HK1.out; omega
           case rel => exact ⟨(y535), (wrap64 (x4_1 + 1)), eq0, H', ⟨by have := HK1.out; omega⟩, ⟨Kd.rx HO_3.out⟩, ⟨bl HB.out⟩⟩
          ·rw [if_neg c33] at H
           have c33b0 := beq_eq_false_iff_ne.mpr c33
           have c33b1 := bne_iff_ne.mpr c33
           have H' := zb.mk H
           clear H
           have p525 : 0 ≤ (x4_1 : Int) := dq
           have q525 : x4_1 < (l0.length : Int) := dq
           obtain ⟨ad525, e525, hx525_0, hx525_1, hx525_2, hx525_3, hx525_4, hx525_5, hx525_6, hx525_7, hx525_8⟩ := zU HR0.out x4_1 p525 q525
           cases e525
           replace hx525_0 := cb HB.out hx525_0
           replace hx525_1 := cb HB.out hx525_1
           replace hx525_2 := cb HB.out hx525_2
           replace hx525_3 := cb HB.out hx525_3
           replace hx525_4 := cb HB.out hx525_4
           replace hx525_5 := cb HB.out hx525_5
           replace hx525_6 := cb HB.out hx525_6
           replace hx525_7 := cb HB.out hx525_7
           replace hx525_8 := cb HB.out hx525_8
           replace p525 := eq_true p525
           replace q525 := eq_true q525
           go_wp2_with (first | ((with_reducible refine zc (f := 19) rfl ?_); refine zh (some 21) rfl rfl Tryd.func19 (by kernel_rfl) rfl #[.int .i64 ((za l0 x4_1).f0)] rfl hq ?_; (with_reducible refine (zv.calls ((za l0 x4_1).f0) true _ ?side1 A6.out).mono ?_); (case side1 => exact gb HG HB); rintro e w' ⟨rfl, ⟨nd, rfl⟩⟩; refine ⟨_, rfl, ?_⟩; (try (rw [xm wr]; generalize hq_ : World.drewN wr _ = wr; replace HO_3 : zb (Kd.R k34 34 wr w.heap.size (fun _ => True) v523 x3_1) := ⟨by rw [← hq_]; exact (Kd.rx HO_3.out)⟩; replace HB : zb (Below w.heap.size w wr) := ⟨by rw [← hq_]; exact (bl HB.out)⟩; clear hq_))) | ((with_reducible refine zc (f := 56) rfl ?_); refine zh (some 26) rfl rfl Tryd.func56 (by kernel_rfl) rfl #[.slice (some ad525) l0.length c0, .int .i64 x4_1] rfl hq ?_; (with_reducible refine (qm.calls k1 _ _ l0 x4_1 t527 true _ ?side3 ?side1 ?side2 A8.out).mono ?_); (case side1 => exact Kd.cx (Kd.zF HR0.out HB.out)); (case side2 => exact HC0.out); (case side3 => exact gb HG HB); rintro e w' ⟨rfl, ⟨nd, rfl⟩⟩; refine ⟨_, rfl, ?_⟩; (try (rw [xm wr]; generalize hq_ : World.drewN wr _ = wr; replace HO_3 : zb (Kd.R k34 34 wr w.heap.size (fun _ => True) v523 x3_1) := ⟨by rw [← hq_]; exact (Kd.rx HO_3.out)⟩; replace HB : zb (Below w.heap.size w wr) := ⟨by rw [← hq_]; exact (bl HB.out)⟩; clear hq_)); have p11 : 0 ≤ (x4_1 : Int) := dq; have q11 : (x4_1 : Int) < ((x3_1.length : Int) : Int) := dq; obtain ⟨go11, co11, eo11, gb11, gl11, cl11, HG11⟩ := Kd.xR HO_3.out (by omega); (cases eo11); have GB11 := zb.mk gb11; have GG11 := zb.mk HG11; clear gb11 gl11 HG11; obtain ⟨ce11, hcl11, hM11, hcc11, hfr11⟩ := Kd.xA HO_3.out z34 (x4_1 : Int) p11 q11; obtain rfl := qG hM11; have hx11_0 : wr.cell? ⟨go11, (x4_1 : Int).toNat * 9, none⟩ = some (.int .i64 ((za x3_1 x4_1).f0)) := hcc11 0 _ rfl; have hx11_1 : wr.cell? ⟨go11, (x4_1 : Int).toNat * 9 + 1, none⟩ = some (.int .i64 ((za x3_1 x4_1).f1)) := hcc11 1 _ rfl; have hx11_2 : wr.cell? ⟨go11, (x4_1 : Int).toNat * 9 + 2, none⟩ = some (.int .i64 ((za x3_1 x4_1).f2)) := hcc11 2 _ rfl; have hx11_3 : wr.cell? ⟨go11, (x4_1 : Int).toNat * 9 + 3, none⟩ = some (.int .i64 ((za x3_1 x4_1).f3)) := hcc11 3 _ rfl; have hx11_4 : wr.cell? ⟨go11, (x4_1 : Int).toNat * 9 + 4, none⟩ = some (.string ((za x3_1 x4_1).f4)) := hcc11 4 _ rfl; have hx11_5 : wr.cell? ⟨go11, (x4_1 : Int).toNat * 9 + 5, none⟩ = some (.int .u64 ((za x3_1 x4_1).f5.f0)) := hcc11 5 _ rfl; have hx11_6 : wr.cell? ⟨go11, (x4_1 : Int).toNat * 9 + 6, none⟩ = some (.int .u64 ((za x3_1 x4_1).f5.f1)) := hcc11 6 _ rfl; have hx11_7 : wr.cell? ⟨go11, (x4_1 : Int).toNat * 9 + 7, none⟩ = some (.int .u64 ((za x3_1 x4_1).f5.f2)) := hcc11 7 _ rfl; have hx11_8 : wr.cell? ⟨go11, (x4_1 : Int).toNat * 9 + 8, none⟩ = some (.int .u64 ((za x3_1 x4_1).f5.f3)) := hcc11 8 _ rfl; have hf11_0 : wr.frozen? ⟨go11, (x4_1 : Int).toNat * 9, none⟩ = false := hfr11 0; have hf11_1 : wr.frozen? ⟨go11, (x4_1 : Int).toNat * 9 + 1, none⟩ = false := hfr11 1; have hf11_2 : wr.frozen? ⟨go11, (x4_1 : Int).toNat * 9 + 2, none⟩ = false := hfr11 2; have hf11_3 : wr.frozen? ⟨go11, (x4_1 : Int).toNat * 9 + 3, none⟩ = false := hfr11 3; have hf11_4 : wr.frozen? ⟨go11, (x4_1 : Int).toNat * 9 + 4, none⟩ = false := hfr11 4; have hf11_5 : wr.frozen? ⟨go11, (x4_1 : Int).toNat * 9 + 5, none⟩ = false := hfr11 5; have hf11_6 : wr.frozen? ⟨go11, (x4_1 : Int).toNat * 9 + 6, none⟩ = false := hfr11 6; have hf11_7 : wr.frozen? ⟨go11, (x4_1 : Int).toNat * 9 + 7, none⟩ = false := hfr11 7; have hf11_8 : wr.frozen? ⟨go11, (x4_1 : Int).toNat * 9 + 8, none⟩ = false := hfr11 8; clear hcl11 hcc11 hfr11 hM11; replace p11 := eq_true p11; replace q11 := eq_true q11; have HX39 := zb.mk (show Kd.R k34 34 wr w.heap.size (fun _ => True) (.slice (some ⟨go11, 0, none⟩) x3_1.length co11) x3_1 from (Kd.rx HO_3.out)); obtain ⟨ce39, hcl39, hM39, hcc39, hfr39⟩ := Kd.xA HX39.out z34 (x4_1 : Int) (dq) (by have h_ : (x4_1 : Int) < ((x3_1.length : Int) : Int) := dq; exact h_); obtain rfl := qG hM39; have HP39 := Kd.R_seg HX39.out (x4_1 : Int) (dq) (by have h_ : (x4_1 : Int) < ((x3_1.length : Int) : Int) := dq; exact h_) (seg := [.int .i64 (wrap64 (t527 - x4_1))]) (j := 1) hcl39 hcc39 (show 2 ≤ 9 from by decide) (x' := (⟨(za x3_1 x4_1).f0, wrap64 (t527 - x4_1), (za x3_1 x4_1).f2, (za x3_1 x4_1).f3, (za x3_1 x4_1).f4, (⟨(za x3_1 x4_1).f5.f0, (za x3_1 x4_1).f5.f1, (za x3_1 x4_1).f5.f2, (za x3_1 x4_1).f5.f3⟩ : S32)⟩ : S34)) (xq _ _ _ (⟨(za x3_1 x4_1).f0, wrap64 (t527 - x4_1), (za x3_1 x4_1).f2, (za x3_1 x4_1).f3, (za x3_1 x4_1).f4, (⟨(za x3_1 x4_1).f5.f0, (za x3_1 x4_1).f5.f1, (za x3_1 x4_1).f5.f2, (za x3_1 x4_1).f5.f3⟩ : S32)⟩ : S34) ) (fun _ hk => hk); have hx39_1 := hcc39 1 _ rfl; (try simp only [show (k34).sz = 9 from rfl, Nat.mul_one, Nat.add_zero] at hx39_1); have hf39_1 := hfr39 1; (try simp only [show (k34).sz = 9 from rfl, Nat.mul_one, Nat.add_zero] at hf39_1); clear hcl39 hcc39 hfr39 hM39) | ((with_reducible refine zM (t := 3) (p := 37) rfl ?_); refine zB (t := 3) (p := 37) (v := ?vo_w40) (w1 := (wr.setCell ⟨go11, (x4_1 : Int).toNat * 9 + 1, none⟩ (.int .i64 (wrap64 (t527 - x4_1))))) ?hg ?ho ?hn ?hr ?_; (case ho => rfl); (case hg => rfl); (case hn => rfl); (case hr => (go_simp; done)); intro w40 hw; have hg : wr.grownBy w40 (some go11) := (by rw [hw]; exact HP39.2); have hp_ : Kd.R k34 34 w40 w.heap.size (fun _ => True) (.slice (some ⟨go11, 0, none⟩) x3_1.length co11) y529 := (by rw [hw, Ny529.out]; exact HP39.1); clear HP39; replace HO_3 := zb.mk (hp_); replace HB := zb.mk ((by rw [hw]; exact zz (HB.out) GB11.out : Below w.heap.size w w40)); clear hg hw hp_; have p530 : 0 ≤ (t527 : Int) := dq; have q530 : t527 < (l0.length : Int) := dq; obtain ⟨ad530, e530, hx530_0, hx530_1, hx530_2, hx530_3, hx530_4, hx530_5, hx530_6, hx530_7, hx530_8⟩ := zU (Kd.zF HR0.out HB.out) t527 p530 q530; obtain rfl : ad525 = ad530 := (by injection e530); replace p530 := eq_true p530; replace q530 := eq_true q530; have p531 : 0 ≤ (x4_1 : Int) := dq; have q531 : x4_1 < (l0.length : Int) := dq; obtain ⟨ad531, e531, hx531_0, hx531_1, hx531_2, hx531_3, hx531_4, hx531_5, hx531_6, hx531_7, hx531_8⟩ := zU (Kd.zF HR0.out HB.out) x4_1 p531 q531; obtain rfl : ad525 = ad531 := (by injection e531); replace p531 := eq_true p531; replace q531 := eq_true q531))
           go_roundg k1
           case measure => have := HK1.out; omega
           case rel => exact ⟨(y529), (wrap64 (x4_1 + 1)), eq0, H', ⟨by have := HK1.out; omega⟩, ⟨Kd.rx HO_3.out⟩, ⟨bl HB.out⟩⟩
      ·rw [if_neg c14] at H
       have c14b0 := beq_eq_false_iff_ne.mpr c14
       have c14b1 := bne_iff_ne.mpr c14
       have H' := zb.mk H
       clear H
       have p525 : 0 ≤ (x4_1 : Int) := dq
       have q525 : x4_1 < (l0.length : Int) := dq
       obtain ⟨ad525, e525, hx525_0, hx525_1, hx525_2, hx525_3, hx525_4, hx525_5, hx525_6, hx525_7, hx525_8⟩ := zU HR0.out x4_1 p525 q525
       cases e525
       replace hx525_0 := cb HB.out hx525_0
       replace hx525_1 := cb HB.out hx525_1
       replace hx525_2 := cb HB.out hx525_2
       replace hx525_3 := cb HB.out hx525_3
       replace hx525_4 := cb HB.out hx525_4
       replace hx525_5 := cb HB.out hx525_5
       replace hx525_6 := cb HB.out hx525_6
       replace hx525_7 := cb HB.out hx525_7
       replace hx525_8 := cb HB.out hx525_8
       replace p525 := eq_true p525
       replace q525 := eq_true q525
       go_wp2_with (first | ((with_reducible refine zc (f := 19) rfl ?_); refine zh (some 21) rfl rfl Tryd.func19 (by kernel_rfl) rfl #[.int .i64 ((za l0 x4_1).f0)] rfl hq ?_; (with_reducible refine (zv.calls ((za l0 x4_1).f0) true _ ?side1 A6.out).mono ?_); (case side1 => exact gb HG HB); rintro e w' ⟨rfl, ⟨nd, rfl⟩⟩; refine ⟨_, rfl, ?_⟩; (try (rw [xm wr]; generalize hq_ : World.drewN wr _ = wr; replace HO_3 : zb (Kd.R k34 34 wr w.heap.size (fun _ => True) v523 x3_1) := ⟨by rw [← hq_]; exact (Kd.rx HO_3.out)⟩; replace HB : zb (Below w.heap.size w wr) := ⟨by rw [← hq_]; exact (bl HB.out)⟩; clear hq_))) | ((with_reducible refine zc (f := 56) rfl ?_); refine zh (some 26) rfl rfl Tryd.func56 (by kernel_rfl) rfl #[.slice (some ad525) l0.length c0, .int .i64 x4_1] rfl hq ?_; (with_reducible refine (qm.calls k1 _ _ l0 x4_1 t527 true _ ?side3 ?side1 ?side2 A8.out).mono ?_); (case side1 => exact Kd.cx (Kd.zF HR0.out HB.out)); (case side2 => exact HC0.out); (case side3 => exact gb HG HB); rintro e w' ⟨rfl, ⟨nd, rfl⟩⟩; refine ⟨_, rfl, ?_⟩; (try (rw [xm wr]; generalize hq_ : World.drewN wr _ = wr; replace HO_3 : zb (Kd.R k34 34 wr w.heap.size (fun _ => True) v523 x3_1) := ⟨by rw [← hq_]; exact (Kd.rx HO_3.out)⟩; replace HB : zb (Below w.heap.size w wr) := ⟨by rw [← hq_]; exact (bl HB.out)⟩; clear hq_)); have p11 : 0 ≤ (x4_1 : Int) := dq; have q11 : (x4_1 : Int) < ((x3_1.length : Int) : Int) := dq; obtain ⟨go11, co11, eo11, gb11, gl11, cl11, HG11⟩ := Kd.xR HO_3.out (by omega); (cases eo11); have GB11 := zb.mk gb11; have GG11 := zb.mk HG11; clear gb11 gl11 HG11; obtain ⟨ce11, hcl11, hM11, hcc11, hfr11⟩ := Kd.xA HO_3.out z34 (x4_1 : Int) p11 q11; obtain rfl := qG hM11; have hx11_0 : wr.cell? ⟨go11, (x4_1 : Int).toNat * 9, none⟩ = some (.int .i64 ((za x3_1 x4_1).f0)) := hcc11 0 _ rfl; have hx11_1 : wr.cell? ⟨go11, (x4_1 : Int).toNat * 9 + 1, none⟩ = some (.int .i64 ((za x3_1 x4_1).f1)) := hcc11 1 _ rfl; have hx11_2 : wr.cell? ⟨go11, (x4_1 : Int).toNat * 9 + 2, none⟩ = some (.int .i64 ((za x3_1 x4_1).f2)) := hcc11 2 _ rfl; have hx11_3 : wr.cell? ⟨go11, (x4_1 : Int).toNat * 9 + 3, none⟩ = some (.int .i64 ((za x3_1 x4_1).f3)) := hcc11 3 _ rfl; have hx11_4 : wr.cell? ⟨go11, (x4_1 : Int).toNat * 9 + 4, none⟩ = some (.string ((za x3_1 x4_1).f4)) := hcc11 4 _ rfl; have hx11_5 : wr.cell? ⟨go11, (x4_1 : Int).toNat * 9 + 5, none⟩ = some (.int .u64 ((za x3_1 x4_1).f5.f0)) := hcc11 5 _ rfl; have hx11_6 : wr.cell? ⟨go11, (x4_1 : Int).toNat * 9 + 6, none⟩ = some (.int .u64 ((za x3_1 x4_1).f5.f1)) := hcc11 6 _ rfl; have hx11_7 : wr.cell? ⟨go11, (x4_1 : Int).toNat * 9 + 7, none⟩ = some (.int .u64 ((za x3_1 x4_1).f5.f2)) := hcc11 7 _ rfl; have hx11_8 : wr.cell? ⟨go11, (x4_1 : Int).toNat * 9 + 8, none⟩ = some (.int .u64 ((za x3_1 x4_1).f5.f3)) := hcc11 8 _ rfl; have hf11_0 : wr.frozen? ⟨go11, (x4_1 : Int).toNat * 9, none⟩ = false := hfr11 0; have hf11_1 : wr.frozen? ⟨go11, (x4_1 : Int).toNat * 9 + 1, none⟩ = false := hfr11 1; have hf11_2 : wr.frozen? ⟨go11, (x4_1 : Int).toNat * 9 + 2, none⟩ = false := hfr11 2; have hf11_3 : wr.frozen? ⟨go11, (x4_1 : Int).toNat * 9 + 3, none⟩ = false := hfr11 3; have hf11_4 : wr.frozen? ⟨go11, (x4_1 : Int).toNat * 9 + 4, none⟩ = false := hfr11 4; have hf11_5 : wr.frozen? ⟨go11, (x4_1 : Int).toNat * 9 + 5, none⟩ = false := hfr11 5; have hf11_6 : wr.frozen? ⟨go11, (x4_1 : Int).toNat * 9 + 6, none⟩ = false := hfr11 6; have hf11_7 : wr.frozen? ⟨go11, (x4_1 : Int).toNat * 9 + 7, none⟩ = false := hfr11 7; have hf11_8 : wr.frozen? ⟨go11, (x4_1 : Int).toNat * 9 + 8, none⟩ = false := hfr11 8; clear hcl11 hcc11 hfr11 hM11; replace p11 := eq_true p11; replace q11 := eq_true q11; have HX41 := zb.mk (show Kd.R k34 34 wr w.heap.size (fun _ => True) (.slice (some ⟨go11, 0, none⟩) x3_1.length co11) x3_1 from (Kd.rx HO_3.out)); obtain ⟨ce41, hcl41, hM41, hcc41, hfr41⟩ := Kd.xA HX41.out z34 (x4_1 : Int) (dq) (by have h_ : (x4_1 : Int) < ((x3_1.length : Int) : Int) := dq; exact h_); obtain rfl := qG hM41; have HP41 := Kd.R_seg HX41.out (x4_1 : Int) (dq) (by have h_ : (x4_1 : Int) < ((x3_1.length : Int) : Int) := dq; exact h_) (seg := [.int .i64 (wrap64 (t527 - x4_1))]) (j := 1) hcl41 hcc41 (show 2 ≤ 9 from by decide) (x' := (⟨(za x3_1 x4_1).f0, wrap64 (t527 - x4_1), (za x3_1 x4_1).f2, (za x3_1 x4_1).f3, (za x3_1 x4_1).f4, (⟨(za x3_1 x4_1).f5.f0, (za x3_1 x4_1).f5.f1, (za x3_1 x4_1).f5.f2, (za x3_1 x4_1).f5.f3⟩ : S32)⟩ : S34)) (xq _ _ _ (⟨(za x3_1 x4_1).f0, wrap64 (t527 - x4_1), (za x3_1 x4_1).f2, (za x3_1 x4_1).f3, (za x3_1 x4_1).f4, (⟨(za x3_1 x4_1).f5.f0, (za x3_1 x4_1).f5.f1, (za x3_1 x4_1).f5.f2, (za x3_1 x4_1).f5.f3⟩ : S32)⟩ : S34) ) (fun _ hk => hk); have hx41_1 := hcc41 1 _ rfl; (try simp only [show (k34).sz = 9 from rfl, Nat.mul_one, Nat.add_zero] at hx41_1); have hf41_1 := hfr41 1; (try simp only [show (k34).sz = 9 from rfl, Nat.mul_one, Nat.add_zero] at hf41_1); clear hcl41 hcc41 hfr41 hM41) | ((with_reducible refine zM (t := 3) (p := 37) rfl ?_); refine zB (t := 3) (p := 37) (v := ?vo_w42) (w1 := (wr.setCell ⟨go11, (x4_1 : Int).toNat * 9 + 1, none⟩ (.int .i64 (wrap64 (t527 - x4_1))))) ?hg ?ho ?hn ?hr ?_; (case ho => rfl); (case hg => rfl); (case hn => rfl); (case hr => (go_simp; done)); intro w42 hw; have hg : wr.grownBy w42 (some go11) := (by rw [hw]; exact HP41.2); have hp_ : Kd.R k34 34 w42 w.heap.size (fun _ => True) (.slice (some ⟨go11, 0, none⟩) x3_1.length co11) y529 := (by rw [hw, Ny529.out]; exact HP41.1); clear HP41; replace HO_3 := zb.mk (hp_); replace HB := zb.mk ((by rw [hw]; exact zz (HB.out) GB11.out : Below w.heap.size w w42)); clear hg hw hp_; have p530 : 0 ≤ (t527 : Int) := dq; have q530 : t527 < (l0.length : Int) := dq; obtain ⟨ad530, e530, hx530_0, hx530_1, hx530_2, hx530_3, hx530_4, hx530_5, hx530_6, hx530_7, hx530_8⟩ := zU (Kd.zF HR0.out HB.out) t527 p530 q530; obtain rfl : ad525 = ad530 := (by injection e530); replace p530 := eq_true p530; replace q530 := eq_true q530; have p531 : 0 ≤ (x4_1 : Int) := dq; have q531 : x4_1 < (l0.length : Int) := dq; obtain ⟨ad531, e531, hx531_0, hx531_1, hx531_2, hx531_3, hx531_4, hx531_5, hx531_6, hx531_7, hx531_8⟩ := zU (Kd.zF HR0.out HB.out) x4_1 p531 q531; obtain rfl : ad525 = ad531 := (by injection e531); replace p531 := eq_true p531; replace q531 := eq_true q531))
       go_roundg k1
       case measure => have := HK1.out; omega
       case rel => exact ⟨(y529), (wrap64 (x4_1 + 1)), eq0, H', ⟨by have := HK1.out; omega⟩, ⟨Kd.rx HO_3.out⟩, ⟨bl HB.out⟩⟩
     ·replace c9 := Bool.eq_false_iff.mpr c9
      subst c9
      replace H := ifF H
      have H' := zb.mk H
      clear H
      have p525 : 0 ≤ (x4_1 : Int) := dq
      have q525 : x4_1 < (l0.length : Int) := dq
      obtain ⟨ad525, e525, hx525_0, hx525_1, hx525_2, hx525_3, hx525_4, hx525_5, hx525_6, hx525_7, hx525_8⟩ := zU HR0.out x4_1 p525 q525
      cases e525
      replace hx525_0 := cb HB.out hx525_0
      replace hx525_1 := cb HB.out hx525_1
      replace hx525_2 := cb HB.out hx525_2
      replace hx525_3 := cb HB.out hx525_3
      replace hx525_4 := cb HB.out hx525_4
      replace hx525_5 := cb HB.out hx525_5
      replace hx525_6 := cb HB.out hx525_6
      replace hx525_7 := cb HB.out hx525_7
      replace hx525_8 := cb HB.out hx525_8
      replace p525 := eq_true p525
      replace q525 := eq_true q525
      go_wp2_with (first | ((with_reducible refine zc (f := 19) rfl ?_); refine zh (some 21) rfl rfl Tryd.func19 (by kernel_rfl) rfl #[.int .i64 ((za l0 x4_1).f0)] rfl hq ?_; (with_reducible refine (zv.calls ((za l0 x4_1).f0) true _ ?side1 A6.out).mono ?_); (case side1 => exact gb HG HB); rintro e w' ⟨rfl, ⟨nd, rfl⟩⟩; refine ⟨_, rfl, ?_⟩) | ((with_reducible refine zc (f := 56) rfl ?_); refine zh (some 26) rfl rfl Tryd.func56 (by kernel_rfl) rfl #[.slice (some ad525) l0.length c0, .int .i64 x4_1] rfl hq ?_; (with_reducible refine (qm.calls k1 _ _ l0 x4_1 t527 false _ ?side3 ?side1 ?side2 A8.out).mono ?_); (case side1 => exact Kd.cx (Kd.zF HR0.out HB.out)); (case side2 => exact HC0.out); (case side3 => exact gb HG HB); rintro e w' ⟨rfl, ⟨nd, rfl⟩⟩; refine ⟨_, rfl, ?_⟩))
      go_roundg k1
      case measure => have := HK1.out; omega
      case rel => exact ⟨(x3_1), (wrap64 (x4_1 + 1)), eq0, H', ⟨by have := HK1.out; omega⟩, ⟨Kd.rx HO_3.out⟩, ⟨bl HB.out⟩⟩
    ·replace c7 := Bool.eq_false_iff.mpr c7
     subst c7
     replace H := ifF H
     have H' := zb.mk H
     clear H
     have p525 : 0 ≤ (x4_1 : Int) := dq
     have q525 : x4_1 < (l0.length : Int) := dq
     obtain ⟨ad525, e525, hx525_0, hx525_1, hx525_2, hx525_3, hx525_4, hx525_5, hx525_6, hx525_7, hx525_8⟩ := zU HR0.out x4_1 p525 q525
     cases e525
     replace hx525_0 := cb HB.out hx525_0
     replace hx525_1 := cb HB.out hx525_1
     replace hx525_2 := cb HB.out hx525_2
     replace hx525_3 := cb HB.out hx525_3
     replace hx525_4 := cb HB.out hx525_4
     replace hx525_5 := cb HB.out hx525_5
     replace hx525_6 := cb HB.out hx525_6
     replace hx525_7 := cb HB.out hx525_7
     replace hx525_8 := cb HB.out hx525_8
     replace p525 := eq_true p525
     replace q525 := eq_true q525
     go_wp2_with (((with_reducible refine zc (f := 19) rfl ?_); refine zh (some 21) rfl rfl Tryd.func19 (by kernel_rfl) rfl #[.int .i64 ((za l0 x4_1).f0)] rfl hq ?_; (with_reducible refine (zv.calls ((za l0 x4_1).f0) false _ ?side1 A6.out).mono ?_); (case side1 => exact gb HG HB); rintro e w' ⟨rfl, ⟨nd, rfl⟩⟩; refine ⟨_, rfl, ?_⟩))
     go_roundg k1
     case measure => have := HK1.out; omega
     case rel => exact ⟨(x3_1), (wrap64 (x4_1 + 1)), eq0, H', ⟨by have := HK1.out; omega⟩, ⟨Kd.rx HO_3.out⟩, ⟨bl HB.out⟩⟩
   ·rw [if_neg c4] at H
    have c4b0 := decide_eq_false c4
    clear c4
    obtain rfl := Option.some.inj H
    go_wp2
    go_ret
    exact ⟨_, eq1, Kd.rx HO_3.out, bl HB.out⟩
def qi.l0 : Nat → List (S34) → List (S34) → Int → Option (Bool)
 | 0, _, _, _ => none
 | k + 1, x0, x1, x5 => if x5 < (x0.length : Int) then (if 0 ≤ x5 then (if x5 < (x1.length : Int) then (if (!(((za x0 x5).f0) == ((za x1 x5).f0)) || (!(((za x0 x5).f1) == ((za x1 x5).f1)) || (!(((za x0 x5).f2) == ((za x1 x5).f2)) || (!(((za x0 x5).f3) == ((za x1 x5).f3)) || (!((((za x0 x5).f4).toList) == (((za x1 x5).f4).toList)) || ((!(((za x0 x5).f5.f0) == ((za x1 x5).f5.f0)) || (!(((za x0 x5).f5.f1) == ((za x1 x5).f5.f1)) || (!(((za x0 x5).f5.f2) == ((za x1 x5).f5.f2)) || (!(((za x0 x5).f5.f3) == ((za x1 x5).f5.f3)))))))))))) = true then (some false) else (qi.l0 k x0 x1 (wrap64 (x5 + 1)))) else (none)) else (none)) else (some true)
def qi.f (k : Nat) (l0 : List (S34)) (l1 : List (S34)) : Option (Bool) := if (l0.length : Int) = (l1.length : Int) then (qi.l0 k l0 l1 0) else (some false)
theorem qi.calls (k : Nat) (A0 : Option Addr) (c0 : Nat) (l0 : List (S34)) (A1 : Option Addr) (c1 : Nat) (l1 : List (S34)) (r : Bool) (w : World) (hG : GW w) (hr0 : Kd.C k34 w A0 l0.length l0) (hc0 : l0.length ≤ c0) (hr1 : Kd.C k34 w A1 l1.length l1) (hc1 : l1.length ≤ c1) (h : qi.f k l0 l1 = some r) :
  Calls Tryd.prog 38 #[.slice A0 l0.length c0, .slice A1 l1.length c1] w fun e w' => e = .returned (.bool r) ∧ zi w w' := by
 have hu34 := Tryd.underlying34
 have HR0 := zb.mk hr0
 have HC0 := zb.mk hc0
 clear hr0 hc0
 have HR1 := zb.mk hr1
 have HC1 := zb.mk hc1
 clear hr1 hc1
 have HG := zb.mk hG
 clear hG
 have H : (if (l0.length : Int) = (l1.length : Int) then (qi.l0 k l0 l1 0) else (some false)) = some r := h
 clear h
 by_cases c3 : (l0.length : Int) = (l1.length : Int)
 ·rw [if_pos c3] at H
  have c3b0 := beq_iff_eq.mpr c3
  have c3b1 := bne_eq_false_iff_eq.mpr c3
  have c3b2 : (l0.length == l1.length) = true := by (simp at c3 ⊢; omega)
  clear c3
  have H' := zb.mk H
  clear H
  go_enter Tryd.func38, Tryd.ntmps38
  go_wp2
  go_loopg [5] k (fun kq v5 w' => ∃ (x5_1 : Int), v5 = .int .i64 x5_1 ∧ zb (qi.l0 kq l0 l1 x5_1 = some r) ∧ zb (kq ≤ k) ∧ zi w w')
  case atStart => exact ⟨(0), eq0, H', ⟨Nat.le_refl _⟩, by repeat (exact zi.refl _)⟩
  case round =>
   clear H'
   (try clear c3b0); (try clear c3b1); (try clear c3b2)
   obtain ⟨x5_1, rfl, HA, HK1, ⟨m1, rfl⟩⟩ := hrel
   cases gk with
   | zero => exact absurd HA.out (by simp [qi.l0])
   | succ k1 =>
    have H := HA.out
    clear HA
    simp only [qi.l0] at H
    by_cases c4 : x5_1 < (l0.length : Int)
    ·rw [if_pos c4] at H
     have c4b0 := decide_eq_true c4
     clear c4
     replace H := qh H; obtain ⟨c5, H⟩ := H
     have c5b0 := decide_eq_true c5
     clear c5
     replace H := qh H; obtain ⟨c6, H⟩ := H
     have c6b0 := decide_eq_true c6
     clear c6
     by_cases c7 : (!(((za l0 x5_1).f0) == ((za l1 x5_1).f0)) || (!(((za l0 x5_1).f1) == ((za l1 x5_1).f1)) || (!(((za l0 x5_1).f2) == ((za l1 x5_1).f2)) || (!(((za l0 x5_1).f3) == ((za l1 x5_1).f3)) || (!((((za l0 x5_1).f4).toList) == (((za l1 x5_1).f4).toList)) || ((!(((za l0 x5_1).f5.f0) == ((za l1 x5_1).f5.f0)) || (!(((za l0 x5_1).f5.f1) == ((za l1 x5_1).f5.f1)) || (!(((za l0 x5_1).f5.f2) == ((za l1 x5_1).f5.f2)) || (!(((za l0 x5_1).f5.f3) == ((za l1 x5_1).f5.f3)))))))))))) = true
     ·rw [if_pos c7] at H
      have c7b0 : (!(((za l0 x5_1).f0) == ((za l1 x5_1).f0)) || (!(((za l0 x5_1).f1) == ((za l1 x5_1).f1)) || (!(((za l0 x5_1).f2) == ((za l1 x5_1).f2)) || (!(((za l0 x5_1).f3) == ((za l1 x5_1).f3)) || (!((((za l0 x5_1).f4).toList) == (((za l1 x5_1).f4).toList)) || ((!(((za l0 x5_1).f5.f0) == ((za l1 x5_1).f5.f0)) || (!(((za l0 x5_1).f5.f1) == ((za l1 x5_1).f5.f1)) || (!(((za l0 x5_1).f5.f2) == ((za l1 x5_1).f5.f2)) || (!(((za l0 x5_1).f5.f3) == ((za l1 x5_1).f5.f3)))))))))))) = true := c7
      clear c7
      obtain rfl := Option.some.inj H
      have p536 : 0 ≤ (x5_1 : Int) := dq
      have q536 : x5_1 < (l0.length : Int) := dq
      obtain ⟨ad536, e536, hx536_0, hx536_1, hx536_2, hx536_3, hx536_4, hx536_5, hx536_6, hx536_7, hx536_8⟩ := zU HR0.out x5_1 p536 q536
      cases e536
      replace p536 := eq_true p536
      replace q536 := eq_true q536
      have p537 : 0 ≤ (x5_1 : Int) := dq
      have q537 : x5_1 < (l1.length : Int) := dq
      obtain ⟨ad537, e537, hx537_0, hx537_1, hx537_2, hx537_3, hx537_4, hx537_5, hx537_6, hx537_7, hx537_8⟩ := zU HR1.out x5_1 p537 q537
      cases e537
      replace p537 := eq_true p537
      replace q537 := eq_true q537
      go_wp2
      repeat (go_quiet (fail); try go_wp2)
      go_ret
      exact ⟨eq0, by repeat (first | exact zi.refl _ | apply zi.step)⟩
     ·rw [if_neg c7] at H
      have c7b0 : (!(((za l0 x5_1).f0) == ((za l1 x5_1).f0)) || (!(((za l0 x5_1).f1) == ((za l1 x5_1).f1)) || (!(((za l0 x5_1).f2) == ((za l1 x5_1).f2)) || (!(((za l0 x5_1).f3) == ((za l1 x5_1).f3)) || (!((((za l0 x5_1).f4).toList) == (((za l1 x5_1).f4).toList)) || ((!(((za l0 x5_1).f5.f0) == ((za l1 x5_1).f5.f0)) || (!(((za l0 x5_1).f5.f1) == ((za l1 x5_1).f5.f1)) || (!(((za l0 x5_1).f5.f2) == ((za l1 x5_1).f5.f2)) || (!(((za l0 x5_1).f5.f3) == ((za l1 x5_1).f5.f3)))))))))))) = false := by simpa using c7
      clear c7
      have H' := zb.mk H
      clear H
      have p536 : 0 ≤ (x5_1 : Int) := dq
      have q536 : x5_1 < (l0.length : Int) := dq
      obtain ⟨ad536, e536, hx536_0, hx536_1, hx536_2, hx536_3, hx536_4, hx536_5, hx536_6, hx536_7, hx536_8⟩ := zU HR0.out x5_1 p536 q536
      cases e536
      replace p536 := eq_true p536
      replace q536 := eq_true q536
      have p537 : 0 ≤ (x5_1 : Int) := dq
      have q537 : x5_1 < (l1.length : Int) := dq
      obtain ⟨ad537, e537, hx537_0, hx537_1, hx537_2, hx537_3, hx537_4, hx537_5, hx537_6, hx537_7, hx537_8⟩ := zU HR1.out x5_1 p537 q537
      cases e537
      replace p537 := eq_true p537
      replace q537 := eq_true q537
      go_wp2
      repeat (go_quiet (fail); try go_wp2)
      go_roundg k1
      case measure => have := HK1.out; omega
      case rel => exact ⟨(wrap64 (x5_1 + 1)), eq0, H', ⟨by have := HK1.out; omega⟩, by repeat (first | exact zi.refl _ | apply zi.step)⟩
    ·rw [if_neg c4] at H
     have c4b0 := decide_eq_false c4
     clear c4
     obtain rfl := Option.some.inj H
     go_wp2
     go_ret
     exact ⟨eq0, by repeat (first | exact zi.refl _ | apply zi.step)⟩
 ·rw [if_neg c3] at H
  have c3b0 := beq_eq_false_iff_ne.mpr c3
  have c3b1 := bne_iff_ne.mpr c3
  have c3b2 : (l0.length == l1.length) = false := by (simp at c3 ⊢; omega)
  obtain rfl := Option.some.inj H
  go_enter Tryd.func38, Tryd.ntmps38
  go_wp2
  go_ret
  exact ⟨eq0, by repeat (exact zi.refl _)⟩
mutual
def zq.j0 : Nat → List (S34) → Int → Bool → Option ((List (S34)) × Int)
 | 0, _, _, _ => none
 | k + 1, x0, x1, x22 => if x22 = true then (some (([] : List (S34)), 1)) else (zq.l0 k x0 x1)
def zq.l0 : Nat → List (S34) → Int → Option ((List (S34)) × Int)
 | 0, _, _ => none
 | k + 1, x0, x1 => (qM.f x0).bind fun t540 => (if (Int.tmod (wrap64 (Int.tdiv x1 32)) 2) = 1 then ((qa.f k t540).bind fun t543 => (zq.j2 k x0 x1 t543)) else (zq.j2 k x0 x1 t540))
def zq.j2 : Nat → List (S34) → Int → List (S34) → Option ((List (S34)) × Int)
 | 0, _, _, _ => none
 | k + 1, x0, x1, x8 => if (Int.tmod (wrap64 (Int.tdiv x1 64)) 2) = 1 then ((zx.f k x8).bind fun t546 => ((z8.f k t546).bind fun t549 => ((zZ.f k t549).bind fun t552 => ((qi.f k t552 x0).bind fun t555 => (if t555 = true then (some (t552, 0)) else (zq.l0 k t552 x1)))))) else ((qi.f k x8 x0).bind fun t556 => (if t556 = true then (some (x8, 0)) else (zq.l0 k x8 x1)))
end
def zq.f (k : Nat) (l0 : List (S34)) (a1 : Int) : Option ((List (S34)) × Int) := (zo.f k l0).bind fun bt538 => (if bt538.2 = 0 then (if a1 < 0 then (zq.j0 k l0 a1 true) else (zq.j0 k l0 a1 (decide (a1 > 127)))) else (some (([] : List (S34)), bt538.2)))
theorem zq.calls (k : Nat) (P0_ : Nat → Prop) (A0 : Option Addr) (c0 : Nat) (l0 : List (S34)) (a1 : Int) (r1 : List (S34)) (r2 : Int) (w : World) (hG : GW w) (hs0 : Kd.V k34 34 w w.heap.size (fun k_ => P0_ k_) (.slice A0 l0.length c0) l0) (h : zq.f k l0 a1 = some (r1, r2)) :
  Calls Tryd.prog 15 #[.slice A0 l0.length c0, .int .i64 a1] w fun e w' => ∃ v0_ : Value, e = .returned (.tuple #[v0_, .int .i64 r2]) ∧ Kd.R k34 34 w' w.heap.size (fun k_ => (w.heap.size ≤ k_)) v0_ r1 ∧ Below w.heap.size w w' := by
 have HO0 := zb.mk (show Kd.V k34 34 w w.heap.size (fun k_ => (P0_ k_ ∨ w.heap.size ≤ k_)) (.slice A0 l0.length c0) l0 from Kd.V_mono hs0 (fun k_ hk => .inl hk))
 have HG := zb.mk hG
 clear hG
 have HB := zb.mk (Below.refl w.heap.size w)
 have H : ((zo.f k l0).bind fun bt538 => (if bt538.2 = 0 then (if a1 < 0 then (zq.j0 k l0 a1 true) else (zq.j0 k l0 a1 (decide (a1 > 127)))) else (some (([] : List (S34)), bt538.2)))) = some (r1, r2) := h
 clear h
 replace H := zO H; obtain ⟨⟨t538, t539⟩, A3, H⟩ := H; try dsimp only at H
 by_cases c4 : t539 = 0
 ·rw [if_pos c4] at H
  have c4b0 := beq_iff_eq.mpr c4
  have c4b1 := bne_eq_false_iff_eq.mpr c4
  clear c4
  have HC5 := zb.mk H
  clear H
  go_enter Tryd.func15, Tryd.ntmps15
  go_upto_region 4 with (((with_reducible refine zc (f := 18) rfl ?_); refine zh (some 11) rfl rfl Tryd.func18 (by kernel_rfl) rfl #[.slice A0 l0.length c0] rfl hq ?_; (with_reducible refine (zo.calls k _ _ l0 t538 t539 _ ?side3 ?side1 ?side2 A3.out).mono ?_); (case side1 => repeat (exact (Kd.xZ HO0.out).2.2)); (case side2 => exact (Kd.xZ HO0.out).2.1); (case side3 => exact gb HG HB); rintro e w6 ⟨rfl, hb⟩; refine ⟨_, rfl, ?_⟩; replace HO0 := zb.mk (Kd.V_below (by (with_reducible skip); exact HO0.out) hb); replace HB := bst HB hb; (try clear hb)))
  go_cut [22] (fun v22 wc => ∃ (kq : Nat) (x22_4 : Bool), v22 = .bool x22_4 ∧ zb (zq.j0 kq l0 a1 x22_4 = some (r1, r2)) ∧ zb (kq ≤ k) ∧ zb (Kd.V k34 34 wc w.heap.size (fun k_ => (P0_ k_ ∨ w.heap.size ≤ k_)) (.slice A0 l0.length c0) l0) ∧ zb (Below w.heap.size w wc))
  case first =>
   have H := HC5.out
   clear HC5
   by_cases c7 : a1 < 0
   ·rw [if_pos c7] at H
    have c7b0 := decide_eq_true c7
    clear c7
    (skip)
    have H' := zb.mk H
    clear H
    go_wp2
    go_meet
    case rel => exact ⟨_, (true), eq0, H', ⟨by omega⟩, ⟨by (with_reducible skip); exact HO0.out⟩, ⟨bl HB.out⟩⟩
   ·rw [if_neg c7] at H
    have c7b0 := decide_eq_false c7
    clear c7
    (skip)
    have H' := zb.mk H
    clear H
    go_wp2
    go_meet
    case rel => exact ⟨_, (decide (a1 > 127)), eq0, H', ⟨by omega⟩, ⟨by (with_reducible skip); exact HO0.out⟩, ⟨bl HB.out⟩⟩
  case rest =>
   clear HC5
   (try clear c4b0); (try clear c4b1)
   obtain ⟨kq, x22_4, rfl, HA, HJ4, HO_0, HB⟩ := hcut
   cases kq with
   | zero => exact absurd HA.out (by simp [zq.j0])
   | succ kj4 =>
    have H := HA.out
    clear HA
    simp only [zq.j0] at H
    by_cases c8 : x22_4 = true
    ·subst c8
     replace H := ifT H
     simp only [Option.some.injEq, Prod.mk.injEq] at H
     obtain ⟨rfl, rfl⟩ := H
     go_wp2
     go_ret2
     exact ⟨_, eq1, by exact Kd.ji _ _ _ _ _, bl HB.out⟩
    ·replace c8 := Bool.eq_false_iff.mpr c8
     subst c8
     replace H := ifF H
     have H' := zb.mk H
     clear H
     go_wp2
     go_loopg [0] kj4 (fun kq v0 w' => ∃ (x0_2 : List (S34)), zb (zq.l0 kq x0_2 a1 = some (r1, r2)) ∧ zb (kq ≤ kj4) ∧ zb (Kd.V k34 34 w' w.heap.size (fun k_ => (P0_ k_ ∨ w.heap.size ≤ k_)) v0 x0_2) ∧ zb (Below w.heap.size w w'))
     case atStart => exact ⟨(l0), H', ⟨Nat.le_refl _⟩, ⟨by (with_reducible skip); exact HO_0.out⟩, ⟨bl HB.out⟩⟩
     case round =>
      clear H'
      obtain ⟨x0_2, HA, HK2, HO_0, HB⟩ := hrel
      cases gk with
      | zero => exact absurd HA.out (by simp [zq.l0])
      | succ k2 =>
       have H := HA.out
       clear HA
       simp only [zq.l0] at H
       replace H := zO H; obtain ⟨t540, A9, H⟩ := H
       have HC10 := zb.mk H
       clear H
       obtain ⟨Ao11, co11, eo11⟩ := Kd.V_slice HO_0.out
       subst eo11
       go_upto_if 28 with (((with_reducible refine zc (f := 33) rfl ?_); refine zh (some 24) rfl rfl Tryd.func33 (by kernel_rfl) rfl #[.slice Ao11 x0_2.length co11] rfl hq ?_; (with_reducible refine (qM.calls _ _ x0_2 t540 _ ?side3 ?side1 ?side2 A9.out).mono ?_); (case side1 => repeat (exact (Kd.xZ HO_0.out).2.2)); (case side2 => exact (Kd.xZ HO_0.out).2.1); (case side3 => exact gb HG HB); rintro e w12 ⟨v541, rfl, ho0, hb⟩; refine ⟨_, rfl, ?_⟩; replace HO_0 := zb.mk (Kd.V_elder' (by (with_reducible skip); exact HO_0.out) (Kd.R_base ho0) hb); have HO542 := zb.mk (Kd.rlo (Kd.R_newM (M := fun k_ => (w.heap.size ≤ k_)) ho0 (zj (bl HB.out)) (fun k_ h_ => h_)) HB); replace HB := bst HB hb; (try clear hb); (try clear ho0)))
       go_cut [8] (fun v8 wc => ∃ (kq : Nat) (x8_9 : List (S34)), zb (zq.j2 kq x0_2 a1 x8_9 = some (r1, r2)) ∧ zb (kq ≤ k2) ∧ zb (Kd.V k34 34 wc w.heap.size (fun k_ => (P0_ k_ ∨ w.heap.size ≤ k_) ∧ some k_ ≠ (v8 : Value).ownBlock) (.slice Ao11 x0_2.length co11) x0_2) ∧ zb (Kd.R k34 34 wc w.heap.size (fun k_ => (w.heap.size ≤ k_)) v8 x8_9) ∧ zb (Below w.heap.size w wc))
       case first =>
        have H := HC10.out
        clear HC10
        by_cases c13 : (Int.tmod (wrap64 (Int.tdiv a1 32)) 2) = 1
        ·rw [if_pos c13] at H
         have c13b0 := beq_iff_eq.mpr c13
         have c13b1 := bne_eq_false_iff_eq.mpr c13
         clear c13
         (rw [c13b0])
         replace H := zO H; obtain ⟨t543, A14, H⟩ := H
         have H' := zb.mk H
         clear H
         obtain ⟨Ao15, co15, eo15⟩ := Kd.zw HO542.out
         subst eo15
         go_wp2_with (((with_reducible refine zc (f := 34) rfl ?_); refine zh (some 30) rfl rfl Tryd.func34 (by kernel_rfl) rfl #[.slice Ao15 t540.length co15] rfl hq ?_; (with_reducible refine (qa.calls k2 _ _ t540 t543 _ ?side3 ?side1 ?side2 A14.out).mono ?_); (case side1 => repeat (exact (Kd.zf HO542.out).2.2)); (case side2 => exact (Kd.zf HO542.out).2.1); (case side3 => exact gb HG HB); rintro e w16 ⟨v544, rfl, ho0, hb⟩; refine ⟨_, rfl, ?_⟩; replace HO_0 := zb.mk (Kd.V_elder' (by (with_reducible skip); exact HO_0.out) (Kd.R_base ho0) hb); have HO545 := zb.mk (Kd.rlo (Kd.zu (Kd.R_newM (M := fun k_ => (w.heap.size ≤ k_)) ho0 (zj (bl HB.out)) (fun k_ h_ => h_)) (Kd.qg (Kd.rx HO542.out))) HB); replace HO542 := Kd.eld HO542 ho0 hb; replace HB := bst HB hb; (try clear hb); (try clear ho0)))
         go_meet
         case rel => exact ⟨_, (t543), H', ⟨by have := HJ4.out; have := HK2.out; omega⟩, ⟨by (with_reducible skip); exact Kd.V_mono HO_0.out (fun _ hk => ⟨hk.1.1, hk.2⟩)⟩, ⟨Kd.rx (Kd.zH HO545.out (fun _ hk => hk.1.1))⟩, ⟨bl HB.out⟩⟩
        ·rw [if_neg c13] at H
         have c13b0 := beq_eq_false_iff_ne.mpr c13
         have c13b1 := bne_iff_ne.mpr c13
         (rw [c13b0])
         have H' := zb.mk H
         clear H
         go_wp2
         go_meet
         case rel => exact ⟨_, (t540), H', ⟨by have := HJ4.out; have := HK2.out; omega⟩, ⟨by (with_reducible skip); exact HO_0.out⟩, ⟨Kd.rx (Kd.zH HO542.out (fun _ hk => hk.1))⟩, ⟨bl HB.out⟩⟩
       case rest =>
        clear HC10
        obtain ⟨kq, x8_9, HA, HJ9, HO_0, HO_8, HB⟩ := hcut
        cases kq with
        | zero => exact absurd HA.out (by simp [zq.j2])
        | succ kj9 =>
         have H := HA.out
         clear HA
         simp only [zq.j2] at H
         by_cases c17 : (Int.tmod (wrap64 (Int.tdiv a1 64)) 2) = 1
         ·rw [if_pos c17] at H
          have c17b0 := beq_iff_eq.mpr c17
          have c17b1 := bne_eq_false_iff_eq.mpr c17
          clear c17
          replace H := zO H; obtain ⟨t546, A18, H⟩ := H
          replace H := zO H; obtain ⟨t549, A19, H⟩ := H
          replace H := zO H; obtain ⟨t552, A20, H⟩ := H
          replace H := zO H; obtain ⟨t555, A21, H⟩ := H
          by_cases c22 : t555 = true
          ·subst c22
           replace H := ifT H
           simp only [Option.some.injEq, Prod.mk.injEq] at H
           obtain ⟨rfl, rfl⟩ := H
           obtain ⟨Ao23, co23, eo23⟩ := Kd.zw HO_8.out
           subst eo23
           go_wp2_with (first | ((with_reducible refine zc (f := 37) rfl ?_); refine zh (some 36) rfl rfl Tryd.func37 (by kernel_rfl) rfl #[.slice Ao23 x8_9.length co23] rfl hq ?_; (with_reducible refine (zx.calls kj9 _ _ x8_9 t546 _ ?side3 ?side1 ?side2 A18.out).mono ?_); (case side1 => repeat (exact (Kd.zf HO_8.out).2.2)); (case side2 => exact (Kd.zf HO_8.out).2.1); (case side3 => exact gb HG HB); rintro e w24 ⟨v547, rfl, ho0, hb⟩; refine ⟨_, rfl, ?_⟩; replace HO_0 := zb.mk (Kd.V_elder' (by (with_reducible skip); exact HO_0.out) (Kd.R_base ho0) hb); have HO548 := zb.mk (Kd.rlo (Kd.zu (Kd.R_newM (M := fun k_ => (w.heap.size ≤ k_)) ho0 (zj (bl HB.out)) (fun k_ h_ => h_)) (Kd.qg (Kd.rx HO_8.out))) HB); replace HO_8 := Kd.eld HO_8 ho0 hb; replace HB := bst HB hb; (try clear hb); (try clear ho0); obtain ⟨Ao25, co25, eo25⟩ := Kd.zw HO548.out; subst eo25) | ((with_reducible refine zc (f := 36) rfl ?_); refine zh (some 37) rfl rfl Tryd.func36 (by kernel_rfl) rfl #[.slice Ao25 t546.length co25] rfl hq ?_; (with_reducible refine (z8.calls kj9 _ _ t546 t549 _ ?side3 ?side1 ?side2 A19.out).mono ?_); (case side1 => repeat (exact (Kd.zf HO548.out).2.2)); (case side2 => exact (Kd.zf HO548.out).2.1); (case side3 => exact gb HG HB); rintro e w26 ⟨v550, rfl, ho0, hb⟩; refine ⟨_, rfl, ?_⟩; replace HO_0 := zb.mk (Kd.V_elder' (by (with_reducible skip); exact HO_0.out) (Kd.R_base ho0) hb); have HO551 := zb.mk (Kd.rlo (Kd.zu (Kd.zu (Kd.R_newM (M := fun k_ => (w.heap.size ≤ k_)) ho0 (zj (bl HB.out)) (fun k_ h_ => h_)) (Kd.qg (Kd.rx HO_8.out))) (Kd.qg (Kd.rx HO548.out))) HB); replace HO_8 := Kd.eld HO_8 ho0 hb; replace HO548 := Kd.eld HO548 ho0 hb; replace HB := bst HB hb; (try clear hb); (try clear ho0); obtain ⟨Ao27, co27, eo27⟩ := Kd.zw HO551.out; subst eo27) | ((with_reducible refine zc (f := 35) rfl ?_); refine zh (some 38) rfl rfl Tryd.func35 (by kernel_rfl) rfl #[.slice Ao27 t549.length co27] rfl hq ?_; (with_reducible refine (zZ.calls kj9 _ _ t549 t552 _ ?side3 ?side1 ?side2 A20.out).mono ?_); (case side1 => repeat (exact (Kd.zf HO551.out).2.2)); (case side2 => exact (Kd.zf HO551.out).2.1); (case side3 => exact gb HG HB); rintro e w28 ⟨v553, rfl, ho0, hb⟩; refine ⟨_, rfl, ?_⟩; replace HO_0 := zb.mk (Kd.V_elder' (by (with_reducible skip); exact HO_0.out) (Kd.R_base ho0) hb); have HO554 := zb.mk (Kd.rlo (Kd.zu (Kd.zu (Kd.zu (Kd.R_newM (M := fun k_ => (w.heap.size ≤ k_)) ho0 (zj (bl HB.out)) (fun k_ h_ => h_)) (Kd.qg (Kd.rx HO_8.out))) (Kd.qg (Kd.rx HO548.out))) (Kd.qg (Kd.rx HO551.out))) HB); replace HO_8 := Kd.eld HO_8 ho0 hb; replace HO548 := Kd.eld HO548 ho0 hb; replace HO551 := Kd.eld HO551 ho0 hb; replace HB := bst HB hb; (try clear hb); (try clear ho0); obtain ⟨Ao29, co29, eo29⟩ := Kd.zw HO554.out; subst eo29) | ((with_reducible refine zc (f := 38) rfl ?_); refine zh (some 41) rfl rfl Tryd.func38 (by kernel_rfl) rfl #[.slice Ao29 t552.length co29, .slice Ao11 x0_2.length co11] rfl hq ?_; (with_reducible refine (qi.calls kj9 _ _ t552 _ _ x0_2 true _ ?side5 ?side1 ?side2 ?side3 ?side4 A21.out).mono ?_); (case side1 => repeat (exact (Kd.zf HO554.out).2.2)); (case side2 => exact (Kd.zf HO554.out).2.1); (case side3 => repeat (exact (Kd.xZ HO_0.out).2.2)); (case side4 => exact (Kd.xZ HO_0.out).2.1); (case side5 => exact gb HG HB); rintro e w' ⟨rfl, ⟨nd, rfl⟩⟩; refine ⟨_, rfl, ?_⟩))
           go_ret2
           exact ⟨_, eq1, Kd.rx (Kd.zH HO554.out (fun _ hk => hk.1.1.1.1)), bl HB.out⟩
          ·replace c22 := Bool.eq_false_iff.mpr c22
           subst c22
           replace H := ifF H
           have H' := zb.mk H
           clear H
           obtain ⟨Ao30, co30, eo30⟩ := Kd.zw HO_8.out
           subst eo30
           go_wp2_with (first | ((with_reducible refine zc (f := 37) rfl ?_); refine zh (some 36) rfl rfl Tryd.func37 (by kernel_rfl) rfl #[.slice Ao30 x8_9.length co30] rfl hq ?_; (with_reducible refine (zx.calls kj9 _ _ x8_9 t546 _ ?side3 ?side1 ?side2 A18.out).mono ?_); (case side1 => repeat (exact (Kd.zf HO_8.out).2.2)); (case side2 => exact (Kd.zf HO_8.out).2.1); (case side3 => exact gb HG HB); rintro e w31 ⟨v547, rfl, ho0, hb⟩; refine ⟨_, rfl, ?_⟩; replace HO_0 := zb.mk (Kd.V_elder' (by (with_reducible skip); exact HO_0.out) (Kd.R_base ho0) hb); have HO548 := zb.mk (Kd.rlo (Kd.zu (Kd.R_newM (M := fun k_ => (w.heap.size ≤ k_)) ho0 (zj (bl HB.out)) (fun k_ h_ => h_)) (Kd.qg (Kd.rx HO_8.out))) HB); replace HO_8 := Kd.eld HO_8 ho0 hb; replace HB := bst HB hb; (try clear hb); (try clear ho0); obtain ⟨Ao32, co32, eo32⟩ := Kd.zw HO548.out; subst eo32) | ((with_reducible refine zc (f := 36) rfl ?_); refine zh (some 37) rfl rfl Tryd.func36 (by kernel_rfl) rfl #[.slice Ao32 t546.length co32] rfl hq ?_; (with_reducible refine (z8.calls kj9 _ _ t546 t549 _ ?side3 ?side1 ?side2 A19.out).mono ?_); (case side1 => repeat (exact (Kd.zf HO548.out).2.2)); (case side2 => exact (Kd.zf HO548.out).2.1); (case side3 => exact gb HG HB); rintro e w33 ⟨v550, rfl, ho0, hb⟩; refine ⟨_, rfl, ?_⟩; replace HO_0 := zb.mk (Kd.V_elder' (by (with_reducible skip); exact HO_0.out) (Kd.R_base ho0) hb); have HO551 := zb.mk (Kd.rlo (Kd.zu (Kd.zu (Kd.R_newM (M := fun k_ => (w.heap.size ≤ k_)) ho0 (zj (bl HB.out)) (fun k_ h_ => h_)) (Kd.qg (Kd.rx HO_8.out))) (Kd.qg (Kd.rx HO548.out))) HB); replace HO_8 := Kd.eld HO_8 ho0 hb; replace HO548 := Kd.eld HO548 ho0 hb; replace HB := bst HB hb; (try clear hb); (try clear ho0); obtain ⟨Ao34, co34, eo34⟩ := Kd.zw HO551.out; subst eo34) | ((with_reducible refine zc (f := 35) rfl ?_); refine zh (some 38) rfl rfl Tryd.func35 (by kernel_rfl) rfl #[.slice Ao34 t549.length co34] rfl hq ?_; (with_reducible refine (zZ.calls kj9 _ _ t549 t552 _ ?side3 ?side1 ?side2 A20.out).mono ?_); (case side1 => repeat (exact (Kd.zf HO551.out).2.2)); (case side2 => exact (Kd.zf HO551.out).2.1); (case side3 => exact gb HG HB); rintro e w35 ⟨v553, rfl, ho0, hb⟩; refine ⟨_, rfl, ?_⟩; replace HO_0 := zb.mk (Kd.V_elder' (by (with_reducible skip); exact HO_0.out) (Kd.R_base ho0) hb); have HO554 := zb.mk (Kd.rlo (Kd.zu (Kd.zu (Kd.zu (Kd.R_newM (M := fun k_ => (w.heap.size ≤ k_)) ho0 (zj (bl HB.out)) (fun k_ h_ => h_)) (Kd.qg (Kd.rx HO_8.out))) (Kd.qg (Kd.rx HO548.out))) (Kd.qg (Kd.rx HO551.out))) HB); replace HO_8 := Kd.eld HO_8 ho0 hb; replace HO548 := Kd.eld HO548 ho0 hb; replace HO551 := Kd.eld HO551 ho0 hb; replace HB := bst HB hb; (try clear hb); (try clear ho0); obtain ⟨Ao36, co36, eo36⟩ := Kd.zw HO554.out; subst eo36) | ((with_reducible refine zc (f := 38) rfl ?_); refine zh (some 41) rfl rfl Tryd.func38 (by kernel_rfl) rfl #[.slice Ao36 t552.length co36, .slice Ao11 x0_2.length co11] rfl hq ?_; (with_reducible refine (qi.calls kj9 _ _ t552 _ _ x0_2 false _ ?side5 ?side1 ?side2 ?side3 ?side4 A21.out).mono ?_); (case side1 => repeat (exact (Kd.zf HO554.out).2.2)); (case side2 => exact (Kd.zf HO554.out).2.1); (case side3 => repeat (exact (Kd.xZ HO_0.out).2.2)); (case side4 => exact (Kd.xZ HO_0.out).2.1); (case side5 => exact gb HG HB); rintro e w' ⟨rfl, ⟨nd, rfl⟩⟩; refine ⟨_, rfl, ?_⟩))
           go_roundg kj9
           case measure => have := HJ4.out; have := HK2.out; have := HJ9.out; omega
           case rel => exact ⟨(t552), H', ⟨by have := HJ4.out; have := HK2.out; have := HJ9.out; omega⟩, ⟨Kd.V_mono (Kd.R_V (Kd.rx (Kd.zH HO554.out (fun _ hk => hk.1.1.1.1)))) (fun k_ hk => by exact (.inr (hk)))⟩, ⟨bl HB.out⟩⟩
         ·rw [if_neg c17] at H
          have c17b0 := beq_eq_false_iff_ne.mpr c17
          have c17b1 := bne_iff_ne.mpr c17
          replace H := zO H; obtain ⟨t556, A37, H⟩ := H
          by_cases c38 : t556 = true
          ·subst c38
           replace H := ifT H
           simp only [Option.some.injEq, Prod.mk.injEq] at H
           obtain ⟨rfl, rfl⟩ := H
           obtain ⟨Ao39, co39, eo39⟩ := Kd.zw HO_8.out
           subst eo39
           go_wp2_with (((with_reducible refine zc (f := 38) rfl ?_); refine zh (some 41) rfl rfl Tryd.func38 (by kernel_rfl) rfl #[.slice Ao39 x8_9.length co39, .slice Ao11 x0_2.length co11] rfl hq ?_; (with_reducible refine (qi.calls kj9 _ _ x8_9 _ _ x0_2 true _ ?side5 ?side1 ?side2 ?side3 ?side4 A37.out).mono ?_); (case side1 => repeat (exact (Kd.zf HO_8.out).2.2)); (case side2 => exact (Kd.zf HO_8.out).2.1); (case side3 => repeat (exact (Kd.xZ HO_0.out).2.2)); (case side4 => exact (Kd.xZ HO_0.out).2.1); (case side5 => exact gb HG HB); rintro e w' ⟨rfl, ⟨nd, rfl⟩⟩; refine ⟨_, rfl, ?_⟩))
           go_ret2
           exact ⟨_, eq1, Kd.rx HO_8.out, bl HB.out⟩
          ·replace c38 := Bool.eq_false_iff.mpr c38
           subst c38
           replace H := ifF H
           have H' := zb.mk H
           clear H
           obtain ⟨Ao40, co40, eo40⟩ := Kd.zw HO_8.out
           subst eo40
           go_wp2_with (((with_reducible refine zc (f := 38) rfl ?_); refine zh (some 41) rfl rfl Tryd.func38 (by kernel_rfl) rfl #[.slice Ao40 x8_9.length co40, .slice Ao11 x0_2.length co11] rfl hq ?_; (with_reducible refine (qi.calls kj9 _ _ x8_9 _ _ x0_2 false _ ?side5 ?side1 ?side2 ?side3 ?side4 A37.out).mono ?_); (case side1 => repeat (exact (Kd.zf HO_8.out).2.2)); (case side2 => exact (Kd.zf HO_8.out).2.1); (case side3 => repeat (exact (Kd.xZ HO_0.out).2.2)); (case side4 => exact (Kd.xZ HO_0.out).2.1); (case side5 => exact gb HG HB); rintro e w' ⟨rfl, ⟨nd, rfl⟩⟩; refine ⟨_, rfl, ?_⟩))
           go_roundg kj9
           case measure => have := HJ4.out; have := HK2.out; have := HJ9.out; omega
           case rel => exact ⟨(x8_9), H', ⟨by have := HJ4.out; have := HK2.out; have := HJ9.out; omega⟩, ⟨Kd.V_mono (Kd.R_V (Kd.rx HO_8.out)) (fun k_ hk => by exact (.inr (hk)))⟩, ⟨bl HB.out⟩⟩
 ·rw [if_neg c4] at H
  have c4b0 := beq_eq_false_iff_ne.mpr c4
  have c4b1 := bne_iff_ne.mpr c4
  simp only [Option.some.injEq, Prod.mk.injEq] at H
  obtain ⟨rfl, rfl⟩ := H
  go_enter Tryd.func15, Tryd.ntmps15
  go_wp2_with (((with_reducible refine zc (f := 18) rfl ?_); refine zh (some 11) rfl rfl Tryd.func18 (by kernel_rfl) rfl #[.slice A0 l0.length c0] rfl hq ?_; (with_reducible refine (zo.calls k _ _ l0 t538 t539 _ ?side3 ?side1 ?side2 A3.out).mono ?_); (case side1 => repeat (exact (Kd.xZ HO0.out).2.2)); (case side2 => exact (Kd.xZ HO0.out).2.1); (case side3 => exact gb HG HB); rintro e w41 ⟨rfl, hb⟩; refine ⟨_, rfl, ?_⟩; replace HO0 := zb.mk (Kd.V_below (by (with_reducible skip); exact HO0.out) hb); replace HB := bst HB hb; (try clear hb)))
  go_ret2
  exact ⟨_, eq1, by exact Kd.ji _ _ _ _ _, bl HB.out⟩
def qc.f (k : Nat) (l0 l1 : List S34) : Option Bool := (zk.f k l0 l1).bind fun t => some t
theorem qc.len {k : Nat} {l0 l1 : List S34} (h : zk.f k l0 l1 = some true) : l0.length = l1.length := by
 unfold zk.f at h
 by_cases e : (l0.length : Int) = (l1.length : Int)
 ·omega
 ·rw [if_neg e] at h; cases h
theorem qc.cut (A0 : Option Addr) (n m c : Nat) (j : Int) (hj : j = (m : Int)) (hm : m ≤ c) (i : TypeInfo) (hi : Tryd.prog.info? 34 = some i) : ∀ W : World, (Instr.slice 22 (.slice A0 n c) none (some (.int .i64 j)) none).run Tryd.prog W = .ok (.slice A0 m c) W := by
 subst hj
 have h := cut_to (P := Tryd.prog) 22 34 .i64 Tryd.underlying22 hi A0 m c (m : Int) (by omega) (Int.le_refl _) hm
 intro W
 have h1 := h W
 rw [Int.toNat_natCast] at h1
 rw [← h1]
 have hel : Tryd.prog.elem 22 = 34 := by simp [Program.elem, Tryd.underlying22]
 have hu : Tryd.prog.underlying 22 = some (.slice (Tryd.prog.elem 22)) := by rw [hel]; exact Tryd.underlying22
 rw [run_slice_h W 22 A0 n c hu .i64 (m : Int) (by omega) (by omega), run_slice_h W 22 A0 m c hu .i64 (m : Int) (by omega) (by omega)]
theorem qc.calls (k : Nat) (A0 : Option Addr) (c0 : Nat) (l0 : List (S34)) (A1 : Option Addr) (c1 : Nat) (l1 : List (S34)) (r : Bool) (w : World) (hG : GW w) (hr0 : Kd.C k34 w A0 l0.length l0) (hc0 : l0.length ≤ c0) (hr1 : Kd.C k34 w A1 l1.length l1) (hc1 : l1.length ≤ c1) (hx : Kd.C k34 w A0 (l0 ++ [sentS]).length (l0 ++ [sentS])) (hxc : l0.length + 1 ≤ c0) (h : qc.f k l0 l1 = some r) :
  Calls Tryd.prog 17 #[.slice A0 l0.length c0, .slice A1 l1.length c1] w fun e w' => e = .returned (.bool r) ∧ zi w w' := by
 have hu34 := Tryd.underlying34
 have HR0 := zb.mk hr0
 have HC0 := zb.mk hc0
 clear hr0 hc0
 have HR1 := zb.mk hr1
 have HC1 := zb.mk hc1
 clear hr1 hc1
 have HG := zb.mk hG
 clear hG
 have H : ((zk.f k l0 l1).bind fun t => some t) = some r := h
 clear h
 replace H := zO H; obtain ⟨t0, A3, H⟩ := H
 obtain rfl := Option.some.inj H
 by_cases c4 : t0 = true
 ·subst c4
  have hlen := qc.len A3.out
  obtain ⟨ji5, hji5⟩ : ∃ j_ : Int, (wrap64 ((l1.length : Int) + 1)) = j_ := ⟨_, rfl⟩
  have hji5w : (IntKind.i64.wrap ((l1.length : Int) + 1)) = ji5 := (qd _).trans hji5
  obtain ⟨y5, hy5⟩ : ∃ y_ : List S34, y_ = l0 ++ [sentS] := ⟨_, rfl⟩
  rw [← hy5] at hx
  have hyl : y5.length = l1.length + 1 := by rw [hy5, List.length_append, hlen]; rfl
  have hmx := hx.2.1
  have hje : ji5 = (y5.length : Int) := by rw [← hji5, hyl]; unfold wrap64; omega
  have HE := zb.mk (show za y5 (l1.length : Int) = sentS by rw [hy5, ← hlen]; simp [za, List.getD_eq_getElem?_getD])
  have HCUT := zb.mk (qc.cut A0 l0.length y5.length c0 ji5 hje (by omega))
  have HQ := zb.mk (show (l1.length : Int) < (y5.length : Int) by omega)
  have c7b1 : decide (0 ≤ ji5) = true := decide_eq_true (by omega)
  have c8b0 : decide (0 ≤ (l1.length : Int)) = true := decide_eq_true (by omega)
  have c8b1 : decide (0 ≤ l1.length) = true := decide_eq_true (by omega)
  have c9b0 : decide ((l1.length : Int) < (y5.length : Int)) = true := decide_eq_true HQ.out
  have c9b1 : decide (l1.length < y5.length) = true := decide_eq_true (by omega)
  have HX := zb.mk hx
  clear hx hxc hlen hyl hmx hje hji5 H
  clear hy5
  go_enter Tryd.func17, Tryd.ntmps17
  go_wp2_with (((with_reducible refine zc (f := 16) rfl ?_); refine zh (some 7) rfl rfl Tryd.func16 (by kernel_rfl) rfl #[.slice A0 l0.length c0, .slice A1 l1.length c1] rfl hq ?_; (with_reducible refine (zk.calls k _ _ l0 _ _ l1 true _ ?side5 ?side1 ?side2 ?side3 ?side4 A3.out).mono ?_); (case side1 => exact Kd.cx HR0.out); (case side2 => exact HC0.out); (case side3 => exact Kd.cx HR1.out); (case side4 => exact HC1.out); (case side5 => repeat (exact HG.out)); rintro e w' ⟨rfl, ⟨nd, rfl⟩⟩; refine ⟨_, rfl, ?_⟩;obtain ⟨i010, hi010, _, hsz10, _⟩ := info_parts info34; have hcut10 := HCUT.out i010 hi010; clear hi010 hsz10; have p562 : 0 ≤ ((l1.length : Int) : Int) := Int.natCast_nonneg _; have q562 := HQ.out; obtain ⟨ad562, e562, hx562_0, hx562_1, hx562_2, hx562_3, hx562_4, hx562_5, hx562_6, hx562_7, hx562_8⟩ := zU HX.out (l1.length : Int) p562 q562; cases e562; (try simp only [Go.IntWalk.toNatUp] at hx562_0 hx562_1 hx562_2 hx562_3 hx562_4 hx562_5 hx562_6 hx562_7 hx562_8); replace p562 := eq_true p562; replace q562 := eq_true q562))
  go_ret
  exact ⟨by rw [HE.out]; simp [sentS, show (⟨#[]⟩ : ByteArray).toList = ([] : List UInt8) from by decide +kernel], by repeat (first | exact zi.refl _ | apply zi.step)⟩
 ·replace c4 := Bool.eq_false_iff.mpr c4
  subst c4
  go_enter Tryd.func17, Tryd.ntmps17
  go_wp2_with (((with_reducible refine zc (f := 16) rfl ?_); refine zh (some 7) rfl rfl Tryd.func16 (by kernel_rfl) rfl #[.slice A0 l0.length c0, .slice A1 l1.length c1] rfl hq ?_; (with_reducible refine (zk.calls k _ _ l0 _ _ l1 false _ ?side5 ?side1 ?side2 ?side3 ?side4 A3.out).mono ?_); (case side1 => exact Kd.cx HR0.out); (case side2 => exact HC0.out); (case side3 => exact Kd.cx HR1.out); (case side4 => exact HC1.out); (case side5 => repeat (exact HG.out)); rintro e w' ⟨rfl, ⟨nd, rfl⟩⟩; refine ⟨_, rfl, ?_⟩))
  go_ret
  exact ⟨eq0, by repeat (first | exact zi.refl _ | apply zi.step)⟩
def xj.f (k : Nat) (l0 : List (S34)) (a1 : Int) : Option (Bool) := (zG.f l0).bind fun t563 => ((qf.f k t563 a1).bind fun bt566 => ((zq.f k l0 a1).bind fun bt570 => ((zV.f k).bind fun t574 => (if t574 = true then ((zk.f k bt566.1 bt570.1).bind fun t575 => (if t575 = true then (if bt566.2 = bt570.2 then ((qc.f k t563 l0).bind fun t576 => (some t576)) else (some false)) else (some false))) else (some false)))))
theorem xj.calls (k : Nat) (A0 : Option Addr) (c0 : Nat) (l0 : List (S34)) (a1 : Int) (r : Bool) (w : World) (hG : GW w) (hr0 : Kd.C k34 w A0 l0.length l0) (hc0 : l0.length ≤ c0) (h : xj.f k l0 a1 = some r) :
  Calls Tryd.prog 4 #[.slice A0 l0.length c0, .int .i64 a1] w fun e w' => e = .returned (.bool r) ∧ Below w.heap.size w w' := by
 have HR0 := zb.mk hr0
 have HC0 := zb.mk hc0
 clear hr0 hc0
 have HG := zb.mk hG
 clear hG
 have HB := zb.mk (Below.refl w.heap.size w)
 have H : ((zG.f l0).bind fun t563 => ((qf.f k t563 a1).bind fun bt566 => ((zq.f k l0 a1).bind fun bt570 => ((zV.f k).bind fun t574 => (if t574 = true then ((zk.f k bt566.1 bt570.1).bind fun t575 => (if t575 = true then (if bt566.2 = bt570.2 then ((qc.f k t563 l0).bind fun t576 => (some t576)) else (some false)) else (some false))) else (some false)))))) = some r := h
 clear h
 replace H := zO H; obtain ⟨t563, A3, H⟩ := H
 replace H := zO H; obtain ⟨⟨t566, t567⟩, A4, H⟩ := H; try dsimp only at H
 replace H := zO H; obtain ⟨⟨t570, t573⟩, A5, H⟩ := H; try dsimp only at H
 replace H := zO H; obtain ⟨t574, A6, H⟩ := H
 by_cases c7 : t574 = true
 ·subst c7
  replace H := ifT H
  replace H := zO H; obtain ⟨t575, A8, H⟩ := H
  by_cases c9 : t575 = true
  ·subst c9
   replace H := ifT H
   by_cases c10 : t567 = t573
   ·rw [if_pos c10] at H
    have c10b0 := beq_iff_eq.mpr c10
    have c10b1 := bne_eq_false_iff_eq.mpr c10
    clear c10
    replace H := zO H; obtain ⟨t576, A11, H⟩ := H
    obtain rfl := Option.some.inj H
    go_enter Tryd.func4, Tryd.ntmps4
    go_wp2_with (first | ((with_reducible refine zc (f := 13) rfl ?_); refine zh (some 11) rfl rfl Tryd.func13 (by kernel_rfl) rfl #[.slice A0 l0.length c0] rfl hq ?_; (with_reducible refine (zG.calls _ _ l0 t563 _ ?side3 ?side1 ?side2 A3.out).mono ?_); (case side1 => exact Kd.cx HR0.out); (case side2 => exact HC0.out); (case side3 => exact gb HG HB); rintro e w12 ⟨v564, rfl, ho0, hx0, hb⟩; refine ⟨_, rfl, ?_⟩; have HO565 := zb.mk (Kd.rlo ho0 HB); have HX := zb.mk (Kd.rlo hx0 HB); clear hx0; replace HB := bst HB hb; (try clear hb); (try clear ho0); obtain ⟨Ao13, co13, eo13⟩ := Kd.zw HO565.out; subst eo13) | ((with_reducible refine zc (f := 14) rfl ?_); refine zh (some 15) rfl rfl Tryd.func14 (by kernel_rfl) rfl #[.slice Ao13 t563.length co13, .int .i64 a1] rfl hq ?_; (with_reducible refine (qf.calls k _ _ t563 a1 t566 t567 _ ?side3 ?side1 ?side2 A4.out).mono ?_); (case side1 => repeat (exact (Kd.zf HO565.out).2.2)); (case side2 => exact (Kd.zf HO565.out).2.1); (case side3 => exact gb HG HB); rintro e w14 ⟨v568, rfl, ho0, hb⟩; refine ⟨_, rfl, ?_⟩; have HO569 := zb.mk (Kd.rlo (Kd.zu ho0 (Kd.qg (Kd.rx HO565.out))) HB); replace HO565 := Kd.eld HO565 ho0 hb; replace HX := Kd.eld HX ho0 hb; replace HB := bst HB hb; (try clear hb); (try clear ho0)) | ((with_reducible refine zc (f := 15) rfl ?_); refine zh (some 21) rfl rfl Tryd.func15 (by kernel_rfl) rfl #[.slice A0 l0.length c0, .int .i64 a1] rfl hq ?_; (with_reducible refine (zq.calls k (fun k_ => k_ < w.heap.size) _ _ l0 a1 t570 t573 _ ?side2 ?side1 A5.out).mono ?_); (case side1 => exact Kd.V_mk HC0.out (Kd.F_below (Kd.C_F k34_heap HR0.out) (bl HB.out))); (case side2 => exact gb HG HB); rintro e w15 ⟨v571, rfl, ho0, hb⟩; refine ⟨_, rfl, ?_⟩; have HO572 := zb.mk (Kd.rlo (Kd.zu (Kd.zu (Kd.zH (ok' := fun k_ => True) ho0 (fun _ hk_ => trivial)) (Kd.qg (Kd.rx HO565.out))) (Kd.qg (Kd.rx HO569.out))) HB); replace HO565 := Kd.eld HO565 ho0 hb; replace HX := Kd.eld HX ho0 hb; replace HO569 := Kd.eld HO569 ho0 hb; replace HB := bst HB hb; (try clear hb); (try clear ho0)) | ((with_reducible refine zc (f := 11) rfl ?_); refine zh (some 24) rfl rfl Tryd.func11 (by kernel_rfl) rfl #[] rfl hq ?_; (with_reducible refine (zV.calls k  true _ ?side1 A6.out).mono ?_); (case side1 => exact gb HG HB); rintro e w16 ⟨rfl, hb⟩; refine ⟨_, rfl, ?_⟩; replace HO565 := Kd.rbl HO565 hb; replace HX := Kd.rbl HX hb; replace HO569 := Kd.rbl HO569 hb; replace HO572 := Kd.rbl HO572 hb; replace HB := bst HB hb; (try clear hb); obtain ⟨Ao17, co17, eo17⟩ := Kd.zw HO569.out; subst eo17; obtain ⟨Ao18, co18, eo18⟩ := Kd.zw HO572.out; subst eo18) | (go_at_call 16; (with_reducible refine (zk.calls k _ _ t566 _ _ t570 true _ ?side5 ?side1 ?side2 ?side3 ?side4 A8.out).mono ?_); (case side1 => repeat (exact (Kd.zf HO569.out).2.2)); (case side2 => exact (Kd.zf HO569.out).2.1); (case side3 => repeat (exact (Kd.zf HO572.out).2.2)); (case side4 => exact (Kd.zf HO572.out).2.1); (case side5 => exact gb HG HB); rintro e w' ⟨rfl, ⟨nd, rfl⟩⟩) | (go_at_call 17; (with_reducible refine (qc.calls k _ _ t563 _ _ l0 t576 _ ?side5 ?side1 ?side2 ?side3 ?side4 ?sideX ?sideY A11.out).mono ?_); (case sideX => repeat (exact (Kd.zf HX.out).2.2)); (case sideY => exact (Kd.zf (d := k34) (xs := t563 ++ [sentS]) HX.out).2.1); (case side1 => repeat (exact (Kd.zf HO565.out).2.2)); (case side2 => exact (Kd.zf HO565.out).2.1); (case side3 => exact Kd.cx (Kd.zF HR0.out HB.out)); (case side4 => exact HC0.out); (case side5 => exact gb HG HB); rintro e w' ⟨rfl, ⟨nd, rfl⟩⟩))
    go_ret
    exact ⟨eq1, bl HB.out⟩
   ·rw [if_neg c10] at H
    have c10b0 := beq_eq_false_iff_ne.mpr c10
    have c10b1 := bne_iff_ne.mpr c10
    obtain rfl := Option.some.inj H
    go_enter Tryd.func4, Tryd.ntmps4
    go_wp2_with (first | ((with_reducible refine zc (f := 13) rfl ?_); refine zh (some 11) rfl rfl Tryd.func13 (by kernel_rfl) rfl #[.slice A0 l0.length c0] rfl hq ?_; (with_reducible refine (zG.calls _ _ l0 t563 _ ?side3 ?side1 ?side2 A3.out).mono ?_); (case side1 => exact Kd.cx HR0.out); (case side2 => exact HC0.out); (case side3 => exact gb HG HB); rintro e w19 ⟨v564, rfl, ho0, hx0, hb⟩; refine ⟨_, rfl, ?_⟩; have HO565 := zb.mk (Kd.rlo ho0 HB); have HX := zb.mk (Kd.rlo hx0 HB); clear hx0; replace HB := bst HB hb; (try clear hb); (try clear ho0); obtain ⟨Ao20, co20, eo20⟩ := Kd.zw HO565.out; subst eo20) | ((with_reducible refine zc (f := 14) rfl ?_); refine zh (some 15) rfl rfl Tryd.func14 (by kernel_rfl) rfl #[.slice Ao20 t563.length co20, .int .i64 a1] rfl hq ?_; (with_reducible refine (qf.calls k _ _ t563 a1 t566 t567 _ ?side3 ?side1 ?side2 A4.out).mono ?_); (case side1 => repeat (exact (Kd.zf HO565.out).2.2)); (case side2 => exact (Kd.zf HO565.out).2.1); (case side3 => exact gb HG HB); rintro e w21 ⟨v568, rfl, ho0, hb⟩; refine ⟨_, rfl, ?_⟩; have HO569 := zb.mk (Kd.rlo (Kd.zu ho0 (Kd.qg (Kd.rx HO565.out))) HB); replace HO565 := Kd.eld HO565 ho0 hb; replace HX := Kd.eld HX ho0 hb; replace HB := bst HB hb; (try clear hb); (try clear ho0)) | ((with_reducible refine zc (f := 15) rfl ?_); refine zh (some 21) rfl rfl Tryd.func15 (by kernel_rfl) rfl #[.slice A0 l0.length c0, .int .i64 a1] rfl hq ?_; (with_reducible refine (zq.calls k (fun k_ => k_ < w.heap.size) _ _ l0 a1 t570 t573 _ ?side2 ?side1 A5.out).mono ?_); (case side1 => exact Kd.V_mk HC0.out (Kd.F_below (Kd.C_F k34_heap HR0.out) (bl HB.out))); (case side2 => exact gb HG HB); rintro e w22 ⟨v571, rfl, ho0, hb⟩; refine ⟨_, rfl, ?_⟩; have HO572 := zb.mk (Kd.rlo (Kd.zu (Kd.zu (Kd.zH (ok' := fun k_ => True) ho0 (fun _ hk_ => trivial)) (Kd.qg (Kd.rx HO565.out))) (Kd.qg (Kd.rx HO569.out))) HB); replace HO565 := Kd.eld HO565 ho0 hb; replace HX := Kd.eld HX ho0 hb; replace HO569 := Kd.eld HO569 ho0 hb; replace HB := bst HB hb; (try clear hb); (try clear ho0)) | ((with_reducible refine zc (f := 11) rfl ?_); refine zh (some 24) rfl rfl Tryd.func11 (by kernel_rfl) rfl #[] rfl hq ?_; (with_reducible refine (zV.calls k  true _ ?side1 A6.out).mono ?_); (case side1 => exact gb HG HB); rintro e w23 ⟨rfl, hb⟩; refine ⟨_, rfl, ?_⟩; replace HO565 := Kd.rbl HO565 hb; replace HX := Kd.rbl HX hb; replace HO569 := Kd.rbl HO569 hb; replace HO572 := Kd.rbl HO572 hb; replace HB := bst HB hb; (try clear hb); obtain ⟨Ao24, co24, eo24⟩ := Kd.zw HO569.out; subst eo24; obtain ⟨Ao25, co25, eo25⟩ := Kd.zw HO572.out; subst eo25) | (go_at_call 16; (with_reducible refine (zk.calls k _ _ t566 _ _ t570 true _ ?side5 ?side1 ?side2 ?side3 ?side4 A8.out).mono ?_); (case side1 => repeat (exact (Kd.zf HO569.out).2.2)); (case side2 => exact (Kd.zf HO569.out).2.1); (case side3 => repeat (exact (Kd.zf HO572.out).2.2)); (case side4 => exact (Kd.zf HO572.out).2.1); (case side5 => exact gb HG HB); rintro e w' ⟨rfl, ⟨nd, rfl⟩⟩))
    go_ret
    exact ⟨eq1, bl HB.out⟩
  ·replace c9 := Bool.eq_false_iff.mpr c9
   subst c9
   replace H := ifF H
   obtain rfl := Option.some.inj H
   go_enter Tryd.func4, Tryd.ntmps4
   go_wp2_with (first | ((with_reducible refine zc (f := 13) rfl ?_); refine zh (some 11) rfl rfl Tryd.func13 (by kernel_rfl) rfl #[.slice A0 l0.length c0] rfl hq ?_; (with_reducible refine (zG.calls _ _ l0 t563 _ ?side3 ?side1 ?side2 A3.out).mono ?_); (case side1 => exact Kd.cx HR0.out); (case side2 => exact HC0.out); (case side3 => exact gb HG HB); rintro e w26 ⟨v564, rfl, ho0, hx0, hb⟩; refine ⟨_, rfl, ?_⟩; have HO565 := zb.mk (Kd.rlo ho0 HB); have HX := zb.mk (Kd.rlo hx0 HB); clear hx0; replace HB := bst HB hb; (try clear hb); (try clear ho0); obtain ⟨Ao27, co27, eo27⟩ := Kd.zw HO565.out; subst eo27) | ((with_reducible refine zc (f := 14) rfl ?_); refine zh (some 15) rfl rfl Tryd.func14 (by kernel_rfl) rfl #[.slice Ao27 t563.length co27, .int .i64 a1] rfl hq ?_; (with_reducible refine (qf.calls k _ _ t563 a1 t566 t567 _ ?side3 ?side1 ?side2 A4.out).mono ?_); (case side1 => repeat (exact (Kd.zf HO565.out).2.2)); (case side2 => exact (Kd.zf HO565.out).2.1); (case side3 => exact gb HG HB); rintro e w28 ⟨v568, rfl, ho0, hb⟩; refine ⟨_, rfl, ?_⟩; have HO569 := zb.mk (Kd.rlo (Kd.zu ho0 (Kd.qg (Kd.rx HO565.out))) HB); replace HO565 := Kd.eld HO565 ho0 hb; replace HX := Kd.eld HX ho0 hb; replace HB := bst HB hb; (try clear hb); (try clear ho0)) | ((with_reducible refine zc (f := 15) rfl ?_); refine zh (some 21) rfl rfl Tryd.func15 (by kernel_rfl) rfl #[.slice A0 l0.length c0, .int .i64 a1] rfl hq ?_; (with_reducible refine (zq.calls k (fun k_ => k_ < w.heap.size) _ _ l0 a1 t570 t573 _ ?side2 ?side1 A5.out).mono ?_); (case side1 => exact Kd.V_mk HC0.out (Kd.F_below (Kd.C_F k34_heap HR0.out) (bl HB.out))); (case side2 => exact gb HG HB); rintro e w29 ⟨v571, rfl, ho0, hb⟩; refine ⟨_, rfl, ?_⟩; have HO572 := zb.mk (Kd.rlo (Kd.zu (Kd.zu (Kd.zH (ok' := fun k_ => True) ho0 (fun _ hk_ => trivial)) (Kd.qg (Kd.rx HO565.out))) (Kd.qg (Kd.rx HO569.out))) HB); replace HO565 := Kd.eld HO565 ho0 hb; replace HX := Kd.eld HX ho0 hb; replace HO569 := Kd.eld HO569 ho0 hb; replace HB := bst HB hb; (try clear hb); (try clear ho0)) | ((with_reducible refine zc (f := 11) rfl ?_); refine zh (some 24) rfl rfl Tryd.func11 (by kernel_rfl) rfl #[] rfl hq ?_; (with_reducible refine (zV.calls k  true _ ?side1 A6.out).mono ?_); (case side1 => exact gb HG HB); rintro e w30 ⟨rfl, hb⟩; refine ⟨_, rfl, ?_⟩; replace HO565 := Kd.rbl HO565 hb; replace HX := Kd.rbl HX hb; replace HO569 := Kd.rbl HO569 hb; replace HO572 := Kd.rbl HO572 hb; replace HB := bst HB hb; (try clear hb); obtain ⟨Ao31, co31, eo31⟩ := Kd.zw HO569.out; subst eo31; obtain ⟨Ao32, co32, eo32⟩ := Kd.zw HO572.out; subst eo32) | (go_at_call 16; (with_reducible refine (zk.calls k _ _ t566 _ _ t570 false _ ?side5 ?side1 ?side2 ?side3 ?side4 A8.out).mono ?_); (case side1 => repeat (exact (Kd.zf HO569.out).2.2)); (case side2 => exact (Kd.zf HO569.out).2.1); (case side3 => repeat (exact (Kd.zf HO572.out).2.2)); (case side4 => exact (Kd.zf HO572.out).2.1); (case side5 => exact gb HG HB); rintro e w' ⟨rfl, ⟨nd, rfl⟩⟩))
   go_ret
   exact ⟨eq1, bl HB.out⟩
 ·replace c7 := Bool.eq_false_iff.mpr c7
  subst c7
  replace H := ifF H
  obtain rfl := Option.some.inj H
  go_enter Tryd.func4, Tryd.ntmps4
  go_wp2_with (first | ((with_reducible refine zc (f := 13) rfl ?_); refine zh (some 11) rfl rfl Tryd.func13 (by kernel_rfl) rfl #[.slice A0 l0.length c0] rfl hq ?_; (with_reducible refine (zG.calls _ _ l0 t563 _ ?side3 ?side1 ?side2 A3.out).mono ?_); (case side1 => exact Kd.cx HR0.out); (case side2 => exact HC0.out); (case side3 => exact gb HG HB); rintro e w33 ⟨v564, rfl, ho0, hx0, hb⟩; refine ⟨_, rfl, ?_⟩; have HO565 := zb.mk (Kd.rlo ho0 HB); have HX := zb.mk (Kd.rlo hx0 HB); clear hx0; replace HB := bst HB hb; (try clear hb); (try clear ho0); obtain ⟨Ao34, co34, eo34⟩ := Kd.zw HO565.out; subst eo34) | ((with_reducible refine zc (f := 14) rfl ?_); refine zh (some 15) rfl rfl Tryd.func14 (by kernel_rfl) rfl #[.slice Ao34 t563.length co34, .int .i64 a1] rfl hq ?_; (with_reducible refine (qf.calls k _ _ t563 a1 t566 t567 _ ?side3 ?side1 ?side2 A4.out).mono ?_); (case side1 => repeat (exact (Kd.zf HO565.out).2.2)); (case side2 => exact (Kd.zf HO565.out).2.1); (case side3 => exact gb HG HB); rintro e w35 ⟨v568, rfl, ho0, hb⟩; refine ⟨_, rfl, ?_⟩; have HO569 := zb.mk (Kd.rlo (Kd.zu ho0 (Kd.qg (Kd.rx HO565.out))) HB); replace HO565 := Kd.eld HO565 ho0 hb; replace HX := Kd.eld HX ho0 hb; replace HB := bst HB hb; (try clear hb); (try clear ho0)) | ((with_reducible refine zc (f := 15) rfl ?_); refine zh (some 21) rfl rfl Tryd.func15 (by kernel_rfl) rfl #[.slice A0 l0.length c0, .int .i64 a1] rfl hq ?_; (with_reducible refine (zq.calls k (fun k_ => k_ < w.heap.size) _ _ l0 a1 t570 t573 _ ?side2 ?side1 A5.out).mono ?_); (case side1 => exact Kd.V_mk HC0.out (Kd.F_below (Kd.C_F k34_heap HR0.out) (bl HB.out))); (case side2 => exact gb HG HB); rintro e w36 ⟨v571, rfl, ho0, hb⟩; refine ⟨_, rfl, ?_⟩; have HO572 := zb.mk (Kd.rlo (Kd.zu (Kd.zu (Kd.zH (ok' := fun k_ => True) ho0 (fun _ hk_ => trivial)) (Kd.qg (Kd.rx HO565.out))) (Kd.qg (Kd.rx HO569.out))) HB); replace HO565 := Kd.eld HO565 ho0 hb; replace HX := Kd.eld HX ho0 hb; replace HO569 := Kd.eld HO569 ho0 hb; replace HB := bst HB hb; (try clear hb); (try clear ho0)) | ((with_reducible refine zc (f := 11) rfl ?_); refine zh (some 24) rfl rfl Tryd.func11 (by kernel_rfl) rfl #[] rfl hq ?_; (with_reducible refine (zV.calls k  false _ ?side1 A6.out).mono ?_); (case side1 => exact gb HG HB); rintro e w37 ⟨rfl, hb⟩; refine ⟨_, rfl, ?_⟩; replace HO565 := Kd.rbl HO565 hb; replace HX := Kd.rbl HX hb; replace HO569 := Kd.rbl HO569 hb; replace HO572 := Kd.rbl HO572 hb; replace HB := bst HB hb; (try clear hb)))
  go_ret
  exact ⟨eq1, bl HB.out⟩
def js.f (k : Nat) (l0 : List (S34))  : Option ((List (S34)) × Int) := (zC.f k l0).bind fun bt577 => (if bt577.2 = 0 then ((qH.f k l0).bind fun t579 => (some (t579, 0))) else (some (([] : List (S34)), bt577.2)))
theorem js.calls (k : Nat) (A0 : Option Addr) (c0 : Nat) (l0 : List (S34))  (r1 : List (S34)) (r2 : Int) (w : World) (hG : GW w) (hr0 : Kd.C k34 w A0 l0.length l0) (hc0 : l0.length ≤ c0) (h : js.f k l0 = some (r1, r2)) :
  Calls Tryd.prog 24 #[.slice A0 l0.length c0, .func (.func 25) #[] #[]] w fun e w' => ∃ v0_ : Value, e = .returned (.tuple #[v0_, .int .i64 r2]) ∧ Kd.R k34 34 w' w.heap.size (fun _ => True) v0_ r1 ∧ Below w.heap.size w w' := by
 have HR0 := zb.mk hr0
 have HC0 := zb.mk hc0
 clear hr0 hc0
 have HG := zb.mk hG
 clear hG
 have HB := zb.mk (Below.refl w.heap.size w)
 have H : ((zC.f k l0).bind fun bt577 => (if bt577.2 = 0 then ((qH.f k l0).bind fun t579 => (some (t579, 0))) else (some (([] : List (S34)), bt577.2)))) = some (r1, r2) := h
 clear h
 replace H := zO H; obtain ⟨⟨t577, t578⟩, A3, H⟩ := H; try dsimp only at H
 by_cases c4 : t578 = 0
 ·rw [if_pos c4] at H
  have c4b0 := beq_iff_eq.mpr c4
  have c4b1 := bne_eq_false_iff_eq.mpr c4
  clear c4
  replace H := zO H; obtain ⟨t579, A5, H⟩ := H
  simp only [Option.some.injEq, Prod.mk.injEq] at H
  obtain ⟨rfl, rfl⟩ := H
  go_enter Tryd.func24, Tryd.ntmps24
  go_wp2_with (first | ((with_reducible refine zc (f := 29) rfl ?_); refine zh (some 10) rfl rfl Tryd.func29 (by kernel_rfl) rfl #[.slice A0 l0.length c0] rfl hq ?_; (with_reducible refine (zC.calls k _ _ l0 t577 t578 _ ?side3 ?side1 ?side2 A3.out).mono ?_); (case side1 => exact Kd.cx HR0.out); (case side2 => exact HC0.out); (case side3 => exact gb HG HB); rintro e w6 ⟨rfl, hb⟩; refine ⟨_, rfl, ?_⟩; replace HB := bst HB hb; (try clear hb)) | (go_at_call 25; (with_reducible refine (qH.calls k _ _ l0 t579 _ ?side3 ?side1 ?side2 A5.out).mono ?_); (case side1 => exact Kd.cx (Kd.zF HR0.out HB.out)); (case side2 => exact HC0.out); (case side3 => exact gb HG HB); rintro e w7 ⟨v580, rfl, ho0, hb⟩; have HO581 := zb.mk (Kd.rlo ho0 HB); replace HB := bst HB hb; (try clear hb); (try clear ho0)))
  go_ret2
  exact ⟨_, eq1, Kd.rx HO581.out, bl HB.out⟩
 ·rw [if_neg c4] at H
  have c4b0 := beq_eq_false_iff_ne.mpr c4
  have c4b1 := bne_iff_ne.mpr c4
  simp only [Option.some.injEq, Prod.mk.injEq] at H
  obtain ⟨rfl, rfl⟩ := H
  go_enter Tryd.func24, Tryd.ntmps24
  go_wp2_with (((with_reducible refine zc (f := 29) rfl ?_); refine zh (some 10) rfl rfl Tryd.func29 (by kernel_rfl) rfl #[.slice A0 l0.length c0] rfl hq ?_; (with_reducible refine (zC.calls k _ _ l0 t577 t578 _ ?side3 ?side1 ?side2 A3.out).mono ?_); (case side1 => exact Kd.cx HR0.out); (case side2 => exact HC0.out); (case side3 => exact gb HG HB); rintro e w8 ⟨rfl, hb⟩; refine ⟨_, rfl, ?_⟩; replace HB := bst HB hb; (try clear hb)))
  go_ret2
  exact ⟨_, eq1, by exact Kd.ji _ _ _ _ _, bl HB.out⟩
def xD.f (k : Nat) (l0 : List (S34)) : Option ((List (S34)) × Int) := (js.f k l0).bind fun bt582 => (some (bt582.1, bt582.2))
theorem xD.calls (k : Nat) (A0 : Option Addr) (c0 : Nat) (l0 r1 : List (S34)) (r2 : Int) (w : World) (hG : GW w) (hr0 : Kd.C k34 w A0 l0.length l0) (hc0 : l0.length ≤ c0) (h : xD.f k l0 = some (r1, r2)) :
  Calls Tryd.prog 7 #[.slice A0 l0.length c0] w fun e w' => ∃ v0_ : Value, e = .returned (.tuple #[v0_, .int .i64 r2]) ∧ Kd.R k34 34 w' w.heap.size (fun _ => True) v0_ r1 ∧ Below w.heap.size w w' := by
 have HR0 := zb.mk hr0
 have HC0 := zb.mk hc0
 clear hr0 hc0
 have HG := zb.mk hG
 clear hG
 have HB := zb.mk (Below.refl w.heap.size w)
 have H : ((js.f k l0).bind fun bt582 => (some (bt582.1, bt582.2))) = some (r1, r2) := h
 clear h
 replace H := zO H; obtain ⟨⟨t582, t583⟩, A2, H⟩ := H; try dsimp only at H
 simp only [Option.some.injEq, Prod.mk.injEq] at H
 obtain ⟨rfl, rfl⟩ := H
 go_enter Tryd.func7, Tryd.ntmps7
 go_wp2_with (((with_reducible refine zc (f := 24) rfl ?_); refine zh (some 5) rfl rfl Tryd.func24 (by kernel_rfl) rfl #[.slice A0 l0.length c0, .func (.func 25) #[] #[]] rfl hq ?_; (with_reducible refine (js.calls k _ _ l0  t582 t583 _ ?side3 ?side1 ?side2 A2.out).mono ?_); (case side1 => exact Kd.cx HR0.out); (case side2 => exact HC0.out); (case side3 => exact gb HG HB); rintro e w3 ⟨v584, rfl, ho0, hb⟩; refine ⟨_, rfl, ?_⟩; have HO585 := zb.mk (Kd.rlo ho0 HB); replace HB := bst HB hb; (try clear hb); (try clear ho0)))
 go_ret2
 exact ⟨_, eq1, Kd.rx HO585.out, bl HB.out⟩
def xW.f (k : Nat) (l0 : List (S34))  : Option ((List (S34)) × Int) := (zC.f k l0).bind fun bt586 => (if bt586.2 = 0 then ((zY.f k l0).bind fun t588 => (some (t588, 0))) else (some (([] : List (S34)), bt586.2)))
theorem xW.calls (k : Nat) (A0 : Option Addr) (c0 : Nat) (l0 : List (S34))  (r1 : List (S34)) (r2 : Int) (w : World) (hG : GW w) (hr0 : Kd.C k34 w A0 l0.length l0) (hc0 : l0.length ≤ c0) (h : xW.f k l0 = some (r1, r2)) :
  Calls Tryd.prog 24 #[.slice A0 l0.length c0, .func (.func 26) #[] #[]] w fun e w' => ∃ v0_ : Value, e = .returned (.tuple #[v0_, .int .i64 r2]) ∧ Kd.R k34 34 w' w.heap.size (fun _ => True) v0_ r1 ∧ Below w.heap.size w w' := by
 have HR0 := zb.mk hr0
 have HC0 := zb.mk hc0
 clear hr0 hc0
 have HG := zb.mk hG
 clear hG
 have HB := zb.mk (Below.refl w.heap.size w)
 have H : ((zC.f k l0).bind fun bt586 => (if bt586.2 = 0 then ((zY.f k l0).bind fun t588 => (some (t588, 0))) else (some (([] : List (S34)), bt586.2)))) = some (r1, r2) := h
 clear h
 replace H := zO H; obtain ⟨⟨t586, t587⟩, A3, H⟩ := H; try dsimp only at H
 by_cases c4 : t587 = 0
 ·rw [if_pos c4] at H
  have c4b0 := beq_iff_eq.mpr c4
  have c4b1 := bne_eq_false_iff_eq.mpr c4
  clear c4
  replace H := zO H; obtain ⟨t588, A5, H⟩ := H
  simp only [Option.some.injEq, Prod.mk.injEq] at H
  obtain ⟨rfl, rfl⟩ := H
  go_enter Tryd.func24, Tryd.ntmps24
  go_wp2_with (first | ((with_reducible refine zc (f := 29) rfl ?_); refine zh (some 10) rfl rfl Tryd.func29 (by kernel_rfl) rfl #[.slice A0 l0.length c0] rfl hq ?_; (with_reducible refine (zC.calls k _ _ l0 t586 t587 _ ?side3 ?side1 ?side2 A3.out).mono ?_); (case side1 => exact Kd.cx HR0.out); (case side2 => exact HC0.out); (case side3 => exact gb HG HB); rintro e w6 ⟨rfl, hb⟩; refine ⟨_, rfl, ?_⟩; replace HB := bst HB hb; (try clear hb)) | (go_at_call 26; (with_reducible refine (zY.calls k _ _ l0 t588 _ ?side3 ?side1 ?side2 A5.out).mono ?_); (case side1 => exact Kd.cx (Kd.zF HR0.out HB.out)); (case side2 => exact HC0.out); (case side3 => exact gb HG HB); rintro e w7 ⟨v589, rfl, ho0, hb⟩; have HO590 := zb.mk (Kd.rlo ho0 HB); replace HB := bst HB hb; (try clear hb); (try clear ho0)))
  go_ret2
  exact ⟨_, eq1, Kd.rx HO590.out, bl HB.out⟩
 ·rw [if_neg c4] at H
  have c4b0 := beq_eq_false_iff_ne.mpr c4
  have c4b1 := bne_iff_ne.mpr c4
  simp only [Option.some.injEq, Prod.mk.injEq] at H
  obtain ⟨rfl, rfl⟩ := H
  go_enter Tryd.func24, Tryd.ntmps24
  go_wp2_with (((with_reducible refine zc (f := 29) rfl ?_); refine zh (some 10) rfl rfl Tryd.func29 (by kernel_rfl) rfl #[.slice A0 l0.length c0] rfl hq ?_; (with_reducible refine (zC.calls k _ _ l0 t586 t587 _ ?side3 ?side1 ?side2 A3.out).mono ?_); (case side1 => exact Kd.cx HR0.out); (case side2 => exact HC0.out); (case side3 => exact gb HG HB); rintro e w8 ⟨rfl, hb⟩; refine ⟨_, rfl, ?_⟩; replace HB := bst HB hb; (try clear hb)))
  go_ret2
  exact ⟨_, eq1, by exact Kd.ji _ _ _ _ _, bl HB.out⟩
def xo.f (k : Nat) (l0 : List (S34)) : Option ((List (S34)) × Int) := (xW.f k l0).bind fun bt591 => (some (bt591.1, bt591.2))
theorem xo.calls (k : Nat) (A0 : Option Addr) (c0 : Nat) (l0 r1 : List (S34)) (r2 : Int) (w : World) (hG : GW w) (hr0 : Kd.C k34 w A0 l0.length l0) (hc0 : l0.length ≤ c0) (h : xo.f k l0 = some (r1, r2)) :
  Calls Tryd.prog 8 #[.slice A0 l0.length c0] w fun e w' => ∃ v0_ : Value, e = .returned (.tuple #[v0_, .int .i64 r2]) ∧ Kd.R k34 34 w' w.heap.size (fun _ => True) v0_ r1 ∧ Below w.heap.size w w' := by
 have HR0 := zb.mk hr0
 have HC0 := zb.mk hc0
 clear hr0 hc0
 have HG := zb.mk hG
 clear hG
 have HB := zb.mk (Below.refl w.heap.size w)
 have H : ((xW.f k l0).bind fun bt591 => (some (bt591.1, bt591.2))) = some (r1, r2) := h
 clear h
 replace H := zO H; obtain ⟨⟨t591, t592⟩, A2, H⟩ := H; try dsimp only at H
 simp only [Option.some.injEq, Prod.mk.injEq] at H
 obtain ⟨rfl, rfl⟩ := H
 go_enter Tryd.func8, Tryd.ntmps8
 go_wp2_with (((with_reducible refine zc (f := 24) rfl ?_); refine zh (some 5) rfl rfl Tryd.func24 (by kernel_rfl) rfl #[.slice A0 l0.length c0, .func (.func 26) #[] #[]] rfl hq ?_; (with_reducible refine (xW.calls k _ _ l0  t591 t592 _ ?side3 ?side1 ?side2 A2.out).mono ?_); (case side1 => exact Kd.cx HR0.out); (case side2 => exact HC0.out); (case side3 => exact gb HG HB); rintro e w3 ⟨v593, rfl, ho0, hb⟩; refine ⟨_, rfl, ?_⟩; have HO594 := zb.mk (Kd.rlo ho0 HB); replace HB := bst HB hb; (try clear hb); (try clear ho0)))
 go_ret2
 exact ⟨_, eq1, Kd.rx HO594.out, bl HB.out⟩
def jD.f (k : Nat) (l0 : List (S34))  : Option ((List (S34)) × Int) := (zC.f k l0).bind fun bt595 => (if bt595.2 = 0 then ((qR.f k l0).bind fun t597 => (some (t597, 0))) else (some (([] : List (S34)), bt595.2)))
theorem jD.calls (k : Nat) (A0 : Option Addr) (c0 : Nat) (l0 : List (S34))  (r1 : List (S34)) (r2 : Int) (w : World) (hG : GW w) (hr0 : Kd.C k34 w A0 l0.length l0) (hc0 : l0.length ≤ c0) (h : jD.f k l0 = some (r1, r2)) :
  Calls Tryd.prog 24 #[.slice A0 l0.length c0, .func (.func 28) #[] #[]] w fun e w' => ∃ v0_ : Value, e = .returned (.tuple #[v0_, .int .i64 r2]) ∧ Kd.R k34 34 w' w.heap.size (fun _ => True) v0_ r1 ∧ Below w.heap.size w w' := by
 have HR0 := zb.mk hr0
 have HC0 := zb.mk hc0
 clear hr0 hc0
 have HG := zb.mk hG
 clear hG
 have HB := zb.mk (Below.refl w.heap.size w)
 have H : ((zC.f k l0).bind fun bt595 => (if bt595.2 = 0 then ((qR.f k l0).bind fun t597 => (some (t597, 0))) else (some (([] : List (S34)), bt595.2)))) = some (r1, r2) := h
 clear h
 replace H := zO H; obtain ⟨⟨t595, t596⟩, A3, H⟩ := H; try dsimp only at H
 by_cases c4 : t596 = 0
 ·rw [if_pos c4] at H
  have c4b0 := beq_iff_eq.mpr c4
  have c4b1 := bne_eq_false_iff_eq.mpr c4
  clear c4
  replace H := zO H; obtain ⟨t597, A5, H⟩ := H
  simp only [Option.some.injEq, Prod.mk.injEq] at H
  obtain ⟨rfl, rfl⟩ := H
  go_enter Tryd.func24, Tryd.ntmps24
  go_wp2_with (first | ((with_reducible refine zc (f := 29) rfl ?_); refine zh (some 10) rfl rfl Tryd.func29 (by kernel_rfl) rfl #[.slice A0 l0.length c0] rfl hq ?_; (with_reducible refine (zC.calls k _ _ l0 t595 t596 _ ?side3 ?side1 ?side2 A3.out).mono ?_); (case side1 => exact Kd.cx HR0.out); (case side2 => exact HC0.out); (case side3 => exact gb HG HB); rintro e w6 ⟨rfl, hb⟩; refine ⟨_, rfl, ?_⟩; replace HB := bst HB hb; (try clear hb)) | (go_at_call 28; (with_reducible refine (qR.calls k _ _ l0 t597 _ ?side3 ?side1 ?side2 A5.out).mono ?_); (case side1 => exact Kd.cx (Kd.zF HR0.out HB.out)); (case side2 => exact HC0.out); (case side3 => exact gb HG HB); rintro e w7 ⟨v598, rfl, ho0, hb⟩; have HO599 := zb.mk (Kd.rlo ho0 HB); replace HB := bst HB hb; (try clear hb); (try clear ho0)))
  go_ret2
  exact ⟨_, eq1, Kd.rx HO599.out, bl HB.out⟩
 ·rw [if_neg c4] at H
  have c4b0 := beq_eq_false_iff_ne.mpr c4
  have c4b1 := bne_iff_ne.mpr c4
  simp only [Option.some.injEq, Prod.mk.injEq] at H
  obtain ⟨rfl, rfl⟩ := H
  go_enter Tryd.func24, Tryd.ntmps24
  go_wp2_with (((with_reducible refine zc (f := 29) rfl ?_); refine zh (some 10) rfl rfl Tryd.func29 (by kernel_rfl) rfl #[.slice A0 l0.length c0] rfl hq ?_; (with_reducible refine (zC.calls k _ _ l0 t595 t596 _ ?side3 ?side1 ?side2 A3.out).mono ?_); (case side1 => exact Kd.cx HR0.out); (case side2 => exact HC0.out); (case side3 => exact gb HG HB); rintro e w8 ⟨rfl, hb⟩; refine ⟨_, rfl, ?_⟩; replace HB := bst HB hb; (try clear hb)))
  go_ret2
  exact ⟨_, eq1, by exact Kd.ji _ _ _ _ _, bl HB.out⟩
def xM.f (k : Nat) (l0 : List (S34)) : Option ((List (S34)) × Int) := (jD.f k l0).bind fun bt600 => (some (bt600.1, bt600.2))
theorem xM.calls (k : Nat) (A0 : Option Addr) (c0 : Nat) (l0 r1 : List (S34)) (r2 : Int) (w : World) (hG : GW w) (hr0 : Kd.C k34 w A0 l0.length l0) (hc0 : l0.length ≤ c0) (h : xM.f k l0 = some (r1, r2)) :
  Calls Tryd.prog 10 #[.slice A0 l0.length c0] w fun e w' => ∃ v0_ : Value, e = .returned (.tuple #[v0_, .int .i64 r2]) ∧ Kd.R k34 34 w' w.heap.size (fun _ => True) v0_ r1 ∧ Below w.heap.size w w' := by
 have HR0 := zb.mk hr0
 have HC0 := zb.mk hc0
 clear hr0 hc0
 have HG := zb.mk hG
 clear hG
 have HB := zb.mk (Below.refl w.heap.size w)
 have H : ((jD.f k l0).bind fun bt600 => (some (bt600.1, bt600.2))) = some (r1, r2) := h
 clear h
 replace H := zO H; obtain ⟨⟨t600, t601⟩, A2, H⟩ := H; try dsimp only at H
 simp only [Option.some.injEq, Prod.mk.injEq] at H
 obtain ⟨rfl, rfl⟩ := H
 go_enter Tryd.func10, Tryd.ntmps10
 go_wp2_with (((with_reducible refine zc (f := 24) rfl ?_); refine zh (some 5) rfl rfl Tryd.func24 (by kernel_rfl) rfl #[.slice A0 l0.length c0, .func (.func 28) #[] #[]] rfl hq ?_; (with_reducible refine (jD.calls k _ _ l0  t600 t601 _ ?side3 ?side1 ?side2 A2.out).mono ?_); (case side1 => exact Kd.cx HR0.out); (case side2 => exact HC0.out); (case side3 => exact gb HG HB); rintro e w3 ⟨v602, rfl, ho0, hb⟩; refine ⟨_, rfl, ?_⟩; have HO603 := zb.mk (Kd.rlo ho0 HB); replace HB := bst HB hb; (try clear hb); (try clear ho0)))
 go_ret2
 exact ⟨_, eq1, Kd.rx HO603.out, bl HB.out⟩
end Go.Proofs.YtnpeabmlcakegaaDoor.PAll
namespace Go.Proofs.YtnpeabmlcakegaaDoor.PAll
open Go.RowKit Go.Proofs.YtnpeabmlcakegaaDoorW.PrintWords Go.Proofs.YtnpeabmlcakegaaDoorW.PrintLast Go.Proofs.YtnpeabmlcakegaaDoorW.PrintMore
attribute [local go_sem] z9 qe ql xb xa xp xn qL qK qZ qY
set_option linter.unusedVariables false
set_option linter.unusedSimpArgs false
def zN.l0 : Nat → List (S34) → Int → Int → Option (Unit)
 | 0, _, _, _ => none
 | k + 1, x0, x1, x4 => if x4 < (x0.length : Int) then (if 0 ≤ x4 then (zN.l0 k (x0.set (x4 : Int).toNat (⟨x1, 0, 0, 0, (⟨#[]⟩ : ByteArray), (⟨0, 0, 0, 0⟩ : S32)⟩ : S34)) x1 (wrap64 (x4 + 1))) else (none)) else (if x0.length < 1759218604441 then (some ()) else (none))
def zN.f (k : Nat) (l0 : List (S34)) (a1 : Int) : Option (Unit) := zN.l0 k l0 a1 0
theorem zN.calls (k : Nat) (P0_ : Nat → Prop) (u9000_ : Value) (l0 : List (S34)) (a1 : Int) (w0 w : World) (hG : GW w0) (hB : Below w0.heap.size w0 w) (ho0 : Kd.R k34 34 w w0.heap.size P0_ u9000_ l0) (h : zN.f k l0 a1 = some ()) :
  Calls Tryd.prog 21 #[u9000_, .int .i64 a1] w fun e w' => e = .returned (.tuple #[]) ∧ Below w0.heap.size w0 w' ∧ Kept w w' (fun k_ => P0_ k_) := by
 have hu34 := Tryd.underlying34
 have HO0 := zb.mk (show Kd.R k34 34 w w0.heap.size (fun k_ => (P0_ k_ ∨ w.heap.size ≤ k_)) u9000_ l0 from Kd.zH ho0 (fun k_ hk => (.inl hk)))
 have HG := zb.mk hG
 clear hG
 have HK := zb.mk (Kept.refl w (fun k_ => P0_ k_))
 have HW0 := zb.mk hB.size
 have HB := zb.mk hB
 clear hB
 have H : (zN.l0 k l0 a1 0) = some () := h
 clear h
 have H' := zb.mk H
 clear H
 go_enter Tryd.func21, Tryd.ntmps21
 go_wp2
 go_loopg [4] k (fun kq v4 w' => ∃ (x0_1 : List (S34)) (x4_1 : Int), v4 = .int .i64 x4_1 ∧ zb (zN.l0 kq x0_1 a1 x4_1 = some ()) ∧ zb (kq ≤ k) ∧ zb (Kd.R k34 34 w' w0.heap.size (fun k_ => (P0_ k_ ∨ w.heap.size ≤ k_)) u9000_ x0_1) ∧ zb (Kept w w' (fun k_ => P0_ k_)) ∧ zb (Below w0.heap.size w0 w'))
 case atStart => exact ⟨(l0), (0), eq0, H', ⟨Nat.le_refl _⟩, ⟨Kd.rx HO0.out⟩, ⟨by repeat ((with_reducible exact HK.out))⟩, ⟨bl HB.out⟩⟩
 case round =>
  clear H'
  obtain ⟨x0_1, x4_1, rfl, HA, HK1, HO_0, HK, HB⟩ := hrel
  cases gk with
  | zero => exact absurd HA.out (by simp [zN.l0])
  | succ k1 =>
   have H := HA.out
   clear HA
   simp only [zN.l0] at H
   by_cases c3 : x4_1 < (x0_1.length : Int)
   ·rw [if_pos c3] at H
    have c3b0 := decide_eq_true c3
    clear c3
    replace H := qh H; obtain ⟨c4, H⟩ := H
    have c4b0 := decide_eq_true c4
    clear c4
    obtain ⟨y604, hy604⟩ : ∃ y_ : List (S34), y_ = (x0_1.set (x4_1 : Int).toNat (⟨a1, 0, 0, 0, (⟨#[]⟩ : ByteArray), (⟨0, 0, 0, 0⟩ : S32)⟩ : S34)) := ⟨_, rfl⟩
    replace H : (zN.l0 k1 y604 a1 (wrap64 (x4_1 + 1))) = some () := by (rw [hy604]; with_reducible exact H)
    have Ny604 := zb.mk hy604
    clear hy604
    have H' := zb.mk H
    clear H
    obtain ⟨Ao6, co6, eo6⟩ := Kd.zw HO_0.out
    subst eo6
    have p5 : 0 ≤ (x4_1 : Int) := dq
    have q5 : (x4_1 : Int) < ((x0_1.length : Int) : Int) := dq
    obtain ⟨go5, co5, eo5, gb5, gl5, cl5, HG5⟩ := Kd.xR HO_0.out (by omega)
    (cases eo5)
    have GB5 := zb.mk gb5
    have GG5 := zb.mk HG5
    clear gb5 gl5 HG5
    have HMgo5 := zb.mk (show (P0_ go5 ∨ w.heap.size ≤ go5) from (HO_0.out.1 _ rfl))
    obtain ⟨ce5, hcl5, hM5, hcc5, hfr5⟩ := Kd.xA HO_0.out z34 (x4_1 : Int) p5 q5
    obtain rfl := qG hM5
    have hx5_0 : wr.cell? ⟨go5, (x4_1 : Int).toNat * 9, none⟩ = some (.int .i64 ((za x0_1 x4_1).f0)) := hcc5 0 _ rfl
    have hx5_1 : wr.cell? ⟨go5, (x4_1 : Int).toNat * 9 + 1, none⟩ = some (.int .i64 ((za x0_1 x4_1).f1)) := hcc5 1 _ rfl
    have hx5_2 : wr.cell? ⟨go5, (x4_1 : Int).toNat * 9 + 2, none⟩ = some (.int .i64 ((za x0_1 x4_1).f2)) := hcc5 2 _ rfl
    have hx5_3 : wr.cell? ⟨go5, (x4_1 : Int).toNat * 9 + 3, none⟩ = some (.int .i64 ((za x0_1 x4_1).f3)) := hcc5 3 _ rfl
    have hx5_4 : wr.cell? ⟨go5, (x4_1 : Int).toNat * 9 + 4, none⟩ = some (.string ((za x0_1 x4_1).f4)) := hcc5 4 _ rfl
    have hx5_5 : wr.cell? ⟨go5, (x4_1 : Int).toNat * 9 + 5, none⟩ = some (.int .u64 ((za x0_1 x4_1).f5.f0)) := hcc5 5 _ rfl
    have hx5_6 : wr.cell? ⟨go5, (x4_1 : Int).toNat * 9 + 6, none⟩ = some (.int .u64 ((za x0_1 x4_1).f5.f1)) := hcc5 6 _ rfl
    have hx5_7 : wr.cell? ⟨go5, (x4_1 : Int).toNat * 9 + 7, none⟩ = some (.int .u64 ((za x0_1 x4_1).f5.f2)) := hcc5 7 _ rfl
    have hx5_8 : wr.cell? ⟨go5, (x4_1 : Int).toNat * 9 + 8, none⟩ = some (.int .u64 ((za x0_1 x4_1).f5.f3)) := hcc5 8 _ rfl
    have hf5_0 : wr.frozen? ⟨go5, (x4_1 : Int).toNat * 9, none⟩ = false := hfr5 0
    have hf5_1 : wr.frozen? ⟨go5, (x4_1 : Int).toNat * 9 + 1, none⟩ = false := hfr5 1
    have hf5_2 : wr.frozen? ⟨go5, (x4_1 : Int).toNat * 9 + 2, none⟩ = false := hfr5 2
    have hf5_3 : wr.frozen? ⟨go5, (x4_1 : Int).toNat * 9 + 3, none⟩ = false := hfr5 3
    have hf5_4 : wr.frozen? ⟨go5, (x4_1 : Int).toNat * 9 + 4, none⟩ = false := hfr5 4
    have hf5_5 : wr.frozen? ⟨go5, (x4_1 : Int).toNat * 9 + 5, none⟩ = false := hfr5 5
    have hf5_6 : wr.frozen? ⟨go5, (x4_1 : Int).toNat * 9 + 6, none⟩ = false := hfr5 6
    have hf5_7 : wr.frozen? ⟨go5, (x4_1 : Int).toNat * 9 + 7, none⟩ = false := hfr5 7
    have hf5_8 : wr.frozen? ⟨go5, (x4_1 : Int).toNat * 9 + 8, none⟩ = false := hfr5 8
    clear hcl5 hcc5 hfr5 hM5
    replace p5 := eq_true p5
    replace q5 := eq_true q5
    have HX7 := zb.mk (show Kd.R k34 34 wr w0.heap.size (fun k_ => (P0_ k_ ∨ w.heap.size ≤ k_)) (.slice (some ⟨go5, 0, none⟩) x0_1.length co6) x0_1 from (Kd.rx HO_0.out))
    obtain ⟨ce7, hcl7, hM7, hcc7, hfr7⟩ := Kd.xA HX7.out z34 (x4_1 : Int) (dq) (by have h_ : (x4_1 : Int) < ((x0_1.length : Int) : Int) := dq; exact h_)
    obtain rfl := qG hM7
    have HP7 := Kd.R_seg HX7.out (x4_1 : Int) (dq) (by have h_ : (x4_1 : Int) < ((x0_1.length : Int) : Int) := dq; exact h_) (seg := [.int .i64 a1, .int .i64 0, .int .i64 0, .int .i64 0, .string (⟨#[]⟩ : ByteArray), .int .u64 0, .int .u64 0, .int .u64 0, .int .u64 0]) (j := 0) hcl7 hcc7 (show 9 ≤ 9 from by decide) (x' := (⟨a1, 0, 0, 0, (⟨#[]⟩ : ByteArray), (⟨0, 0, 0, 0⟩ : S32)⟩ : S34)) (xq _ _ _ (⟨a1, 0, 0, 0, (⟨#[]⟩ : ByteArray), (⟨0, 0, 0, 0⟩ : S32)⟩ : S34) ) (fun _ hk => hk)
    have hx7_0 := hcc7 0 _ rfl
    (try simp only [show (k34).sz = 9 from rfl, Nat.mul_one, Nat.add_zero] at hx7_0)
    have hf7_0 := hfr7 0
    (try simp only [show (k34).sz = 9 from rfl, Nat.mul_one, Nat.add_zero] at hf7_0)
    have hx7_1 := hcc7 1 _ rfl
    (try simp only [show (k34).sz = 9 from rfl, Nat.mul_one, Nat.add_zero] at hx7_1)
    have hf7_1 := hfr7 1
    (try simp only [show (k34).sz = 9 from rfl, Nat.mul_one, Nat.add_zero] at hf7_1)
    have hx7_2 := hcc7 2 _ rfl
    (try simp only [show (k34).sz = 9 from rfl, Nat.mul_one, Nat.add_zero] at hx7_2)
    have hf7_2 := hfr7 2
    (try simp only [show (k34).sz = 9 from rfl, Nat.mul_one, Nat.add_zero] at hf7_2)
    have hx7_3 := hcc7 3 _ rfl
    (try simp only [show (k34).sz = 9 from rfl, Nat.mul_one, Nat.add_zero] at hx7_3)
    have hf7_3 := hfr7 3
    (try simp only [show (k34).sz = 9 from rfl, Nat.mul_one, Nat.add_zero] at hf7_3)
    have hx7_4 := hcc7 4 _ rfl
    (try simp only [show (k34).sz = 9 from rfl, Nat.mul_one, Nat.add_zero] at hx7_4)
    have hf7_4 := hfr7 4
    (try simp only [show (k34).sz = 9 from rfl, Nat.mul_one, Nat.add_zero] at hf7_4)
    have hx7_5 := hcc7 5 _ rfl
    (try simp only [show (k34).sz = 9 from rfl, Nat.mul_one, Nat.add_zero] at hx7_5)
    have hf7_5 := hfr7 5
    (try simp only [show (k34).sz = 9 from rfl, Nat.mul_one, Nat.add_zero] at hf7_5)
    have hx7_6 := hcc7 6 _ rfl
    (try simp only [show (k34).sz = 9 from rfl, Nat.mul_one, Nat.add_zero] at hx7_6)
    have hf7_6 := hfr7 6
    (try simp only [show (k34).sz = 9 from rfl, Nat.mul_one, Nat.add_zero] at hf7_6)
    have hx7_7 := hcc7 7 _ rfl
    (try simp only [show (k34).sz = 9 from rfl, Nat.mul_one, Nat.add_zero] at hx7_7)
    have hf7_7 := hfr7 7
    (try simp only [show (k34).sz = 9 from rfl, Nat.mul_one, Nat.add_zero] at hf7_7)
    have hx7_8 := hcc7 8 _ rfl
    (try simp only [show (k34).sz = 9 from rfl, Nat.mul_one, Nat.add_zero] at hx7_8)
    have hf7_8 := hfr7 8
    (try simp only [show (k34).sz = 9 from rfl, Nat.mul_one, Nat.add_zero] at hf7_8)
    clear hcl7 hcc7 hfr7 hM7
    go_wp2_with (((with_reducible refine zM (t := 34) (p := 15) rfl ?_); refine zB (t := 34) (p := 15) (v := ?vo_w8) (w1 := (((((((((wr.setCell ⟨go5, (x4_1 : Int).toNat * 9, none⟩ (.int .i64 a1)).setCell ⟨go5, (x4_1 : Int).toNat * 9 + 1, none⟩ (.int .i64 0)).setCell ⟨go5, (x4_1 : Int).toNat * 9 + 2, none⟩ (.int .i64 0)).setCell ⟨go5, (x4_1 : Int).toNat * 9 + 3, none⟩ (.int .i64 0)).setCell ⟨go5, (x4_1 : Int).toNat * 9 + 4, none⟩ (.string (⟨#[]⟩ : ByteArray))).setCell ⟨go5, (x4_1 : Int).toNat * 9 + 5, none⟩ (.int .u64 0)).setCell ⟨go5, (x4_1 : Int).toNat * 9 + 6, none⟩ (.int .u64 0)).setCell ⟨go5, (x4_1 : Int).toNat * 9 + 7, none⟩ (.int .u64 0)).setCell ⟨go5, (x4_1 : Int).toNat * 9 + 8, none⟩ (.int .u64 0))) ?hg ?ho ?hn ?hr ?_; (case ho => rfl); (case hg => rfl); (case hn => rfl); (case hr => (go_simp; done)); intro w8 hw; have hg : wr.grownBy w8 (some go5) := (by rw [hw]; exact HP7.2); have hp_ : Kd.R k34 34 w8 w0.heap.size (fun k_ => (P0_ k_ ∨ w.heap.size ≤ k_)) (.slice (some ⟨go5, 0, none⟩) x0_1.length co6) y604 := (by rw [hw, Ny604.out]; exact HP7.1); clear HP7; replace HB := zb.mk ((by rw [hw]; exact zz (zz (zz (zz (zz (zz (zz (zz (zz (HB.out) GB5.out) GB5.out) GB5.out) GB5.out) GB5.out) GB5.out) GB5.out) GB5.out) GB5.out : Below w0.heap.size w0 w8)); replace HK := zb.mk (Kept.of_grown (S := (fun k_ => P0_ k_)) hg (by repeat ((with_reducible exact HK.out))) (fun k_ e_ => (HO_0.out.1 k_ e_))); replace HO_0 := zb.mk (hp_); clear hg hw hp_))
    go_roundg k1
    case measure => have := HK1.out; omega
    case rel => exact ⟨(y604), (wrap64 (x4_1 + 1)), eq0, H', ⟨by have := HK1.out; omega⟩, ⟨Kd.rx HO_0.out⟩, ⟨by repeat ((with_reducible exact HK.out))⟩, ⟨bl HB.out⟩⟩
   ·rw [if_neg c3] at H
    have c3b0 := decide_eq_false c3
    clear c3
    by_cases c9 : x0_1.length < 1759218604441
    ·rw [if_pos c9] at H
     have LMc9 := zb.mk c9
     clear c9
     obtain ⟨y605, hy605⟩ : ∃ y_ : List (S34), y_ = (x0_1 ++ [(⟨a1, 0, 0, 0, (⟨#[]⟩ : ByteArray), (⟨0, 0, 0, 0⟩ : S32)⟩ : S34)]) := ⟨_, rfl⟩
     replace H : (some ()) = some () := by (have H2_ := (Option.bind_some _ _).symm.trans H; with_reducible exact H2_)
     have Ny605 := zb.mk hy605
     clear hy605
     obtain ⟨Ao10, co10, eo10⟩ := Kd.zw HO_0.out
     subst eo10
     go_wp2_with (((with_reducible refine qu (b := .append) (xs := #[.tmp 16, .tmp 19]) rfl ?_); at_builtin; refine Kd.xE k34 (w0 := w0) w0.heap.size rfl (.tmp 16) (.tmp 19) 22 34 (.agg #[(.int .i64 0), (.int .i64 0), (.int .i64 0), (.int .i64 0), (.string ⟨#[]⟩), (.int .u64 0), (.int .u64 0), (.int .u64 0), (.int .u64 0)]) 80 rfl Tryd.underlying22 info34 rfl (by decide) (by omega) (.slice Ao10 x0_1.length co10) x0_1 (⟨a1, 0, 0, 0, (⟨#[]⟩ : ByteArray), (⟨0, 0, 0, 0⟩ : S32)⟩ : S34) [.int .i64 a1, .int .i64 0, .int .i64 0, .int .i64 0, .string (⟨#[]⟩ : ByteArray), .int .u64 0, .int .u64 0, .int .u64 0, .int .u64 0] (fun k_ => (P0_ k_ ∨ w.heap.size ≤ k_)) (fun _ => False) rfl rfl ?aP (fun _ hk => hk.elim) ?aF ?aO ?aB ?aS ?aL ?_; (case aP => exact xq _ _ _ (⟨a1, 0, 0, 0, (⟨#[]⟩ : ByteArray), (⟨0, 0, 0, 0⟩ : S32)⟩ : S34)); (case aB => exact (bl HB.out)); (case aF => exact (fun k_ hk => (.inr (Nat.le_trans (by exact HK.out.1) hk)))); (case aO => exact (Kd.rx HO_0.out)); (case aS => exact (zj (bl HB.out))); (case aL => have := LMc9.out; omega); intro v606 w11 ho hb hg hat; rw [← Ny605.out] at ho; replace HB := zb.mk (hb); replace HK := zb.mk (Kept.of_grown (S := (fun k_ => P0_ k_)) hg (by repeat ((with_reducible exact HK.out))) (fun k_ e_ => (HO_0.out.1 k_ e_))); have HO607 := zb.mk (ho); clear HO_0; clear ho hb hg hat))
     go_end0
     exact ⟨eq1, bl HB.out, by repeat ((with_reducible exact HK.out))⟩
    ·rw [if_neg c9] at H
     exact absurd H (by simp)
def qS.f (k : Nat) (l0 : List (S34)) : Option ((List (S34)) × Int) := (zo.f k l0).bind fun bt608 => (if bt608.2 = 0 then ((qa.f k l0).bind fun t610 => (some (t610, 0))) else (some (([] : List (S34)), bt608.2)))
theorem qS.calls (k : Nat) (A0 : Option Addr) (c0 : Nat) (l0 r1 : List (S34)) (r2 : Int) (w : World) (hG : GW w) (hr0 : Kd.C k34 w A0 l0.length l0) (hc0 : l0.length ≤ c0) (h : qS.f k l0 = some (r1, r2)) :
  Calls Tryd.prog 42 #[.slice A0 l0.length c0] w fun e w' => ∃ v0_ : Value, e = .returned (.tuple #[v0_, .int .i64 r2]) ∧ Kd.R k34 34 w' w.heap.size (fun _ => True) v0_ r1 ∧ Below w.heap.size w w' := by
 have HR0 := zb.mk hr0
 have HC0 := zb.mk hc0
 clear hr0 hc0
 have HG := zb.mk hG
 clear hG
 have HB := zb.mk (Below.refl w.heap.size w)
 have H : ((zo.f k l0).bind fun bt608 => (if bt608.2 = 0 then ((qa.f k l0).bind fun t610 => (some (t610, 0))) else (some (([] : List (S34)), bt608.2)))) = some (r1, r2) := h
 clear h
 replace H := zO H; obtain ⟨⟨t608, t609⟩, A2, H⟩ := H; try dsimp only at H
 by_cases c3 : t609 = 0
 ·rw [if_pos c3] at H
  have c3b0 := beq_iff_eq.mpr c3
  have c3b1 := bne_eq_false_iff_eq.mpr c3
  clear c3
  replace H := zO H; obtain ⟨t610, A4, H⟩ := H
  simp only [Option.some.injEq, Prod.mk.injEq] at H
  obtain ⟨rfl, rfl⟩ := H
  go_enter Tryd.func42, Tryd.ntmps42
  go_wp2_with (first | ((with_reducible refine zc (f := 18) rfl ?_); refine zh (some 8) rfl rfl Tryd.func18 (by kernel_rfl) rfl #[.slice A0 l0.length c0] rfl hq ?_; (with_reducible refine (zo.calls k _ _ l0 t608 t609 _ ?side3 ?side1 ?side2 A2.out).mono ?_); (case side1 => exact Kd.cx HR0.out); (case side2 => exact HC0.out); (case side3 => exact gb HG HB); rintro e w5 ⟨rfl, hb⟩; refine ⟨_, rfl, ?_⟩; replace HB := bst HB hb; (try clear hb)) | ((with_reducible refine zc (f := 34) rfl ?_); refine zh (some 15) rfl rfl Tryd.func34 (by kernel_rfl) rfl #[.slice A0 l0.length c0] rfl hq ?_; (with_reducible refine (qa.calls k _ _ l0 t610 _ ?side3 ?side1 ?side2 A4.out).mono ?_); (case side1 => exact Kd.cx (Kd.zF HR0.out HB.out)); (case side2 => exact HC0.out); (case side3 => exact gb HG HB); rintro e w6 ⟨v611, rfl, ho0, hb⟩; refine ⟨_, rfl, ?_⟩; have HO612 := zb.mk (Kd.rlo ho0 HB); replace HB := bst HB hb; (try clear hb); (try clear ho0)))
  go_ret2
  exact ⟨_, eq1, Kd.rx HO612.out, bl HB.out⟩
 ·rw [if_neg c3] at H
  have c3b0 := beq_eq_false_iff_ne.mpr c3
  have c3b1 := bne_iff_ne.mpr c3
  simp only [Option.some.injEq, Prod.mk.injEq] at H
  obtain ⟨rfl, rfl⟩ := H
  go_enter Tryd.func42, Tryd.ntmps42
  go_wp2_with (((with_reducible refine zc (f := 18) rfl ?_); refine zh (some 8) rfl rfl Tryd.func18 (by kernel_rfl) rfl #[.slice A0 l0.length c0] rfl hq ?_; (with_reducible refine (zo.calls k _ _ l0 t608 t609 _ ?side3 ?side1 ?side2 A2.out).mono ?_); (case side1 => exact Kd.cx HR0.out); (case side2 => exact HC0.out); (case side3 => exact gb HG HB); rintro e w7 ⟨rfl, hb⟩; refine ⟨_, rfl, ?_⟩; replace HB := bst HB hb; (try clear hb)))
  go_ret2
  exact ⟨_, eq1, by exact Kd.ji _ _ _ _ _, bl HB.out⟩
def qC.f (k : Nat) (l0 : List (S34)) : Option ((List (S34)) × Int) := (zo.f k l0).bind fun bt613 => (if bt613.2 = 0 then ((zx.f k l0).bind fun t615 => (some (t615, 0))) else (some (([] : List (S34)), bt613.2)))
theorem qC.calls (k : Nat) (A0 : Option Addr) (c0 : Nat) (l0 r1 : List (S34)) (r2 : Int) (w : World) (hG : GW w) (hr0 : Kd.C k34 w A0 l0.length l0) (hc0 : l0.length ≤ c0) (h : qC.f k l0 = some (r1, r2)) :
  Calls Tryd.prog 43 #[.slice A0 l0.length c0] w fun e w' => ∃ v0_ : Value, e = .returned (.tuple #[v0_, .int .i64 r2]) ∧ Kd.R k34 34 w' w.heap.size (fun _ => True) v0_ r1 ∧ Below w.heap.size w w' := by
 have HR0 := zb.mk hr0
 have HC0 := zb.mk hc0
 clear hr0 hc0
 have HG := zb.mk hG
 clear hG
 have HB := zb.mk (Below.refl w.heap.size w)
 have H : ((zo.f k l0).bind fun bt613 => (if bt613.2 = 0 then ((zx.f k l0).bind fun t615 => (some (t615, 0))) else (some (([] : List (S34)), bt613.2)))) = some (r1, r2) := h
 clear h
 replace H := zO H; obtain ⟨⟨t613, t614⟩, A2, H⟩ := H; try dsimp only at H
 by_cases c3 : t614 = 0
 ·rw [if_pos c3] at H
  have c3b0 := beq_iff_eq.mpr c3
  have c3b1 := bne_eq_false_iff_eq.mpr c3
  clear c3
  replace H := zO H; obtain ⟨t615, A4, H⟩ := H
  simp only [Option.some.injEq, Prod.mk.injEq] at H
  obtain ⟨rfl, rfl⟩ := H
  go_enter Tryd.func43, Tryd.ntmps43
  go_wp2_with (first | ((with_reducible refine zc (f := 18) rfl ?_); refine zh (some 8) rfl rfl Tryd.func18 (by kernel_rfl) rfl #[.slice A0 l0.length c0] rfl hq ?_; (with_reducible refine (zo.calls k _ _ l0 t613 t614 _ ?side3 ?side1 ?side2 A2.out).mono ?_); (case side1 => exact Kd.cx HR0.out); (case side2 => exact HC0.out); (case side3 => exact gb HG HB); rintro e w5 ⟨rfl, hb⟩; refine ⟨_, rfl, ?_⟩; replace HB := bst HB hb; (try clear hb)) | ((with_reducible refine zc (f := 37) rfl ?_); refine zh (some 15) rfl rfl Tryd.func37 (by kernel_rfl) rfl #[.slice A0 l0.length c0] rfl hq ?_; (with_reducible refine (zx.calls k _ _ l0 t615 _ ?side3 ?side1 ?side2 A4.out).mono ?_); (case side1 => exact Kd.cx (Kd.zF HR0.out HB.out)); (case side2 => exact HC0.out); (case side3 => exact gb HG HB); rintro e w6 ⟨v616, rfl, ho0, hb⟩; refine ⟨_, rfl, ?_⟩; have HO617 := zb.mk (Kd.rlo ho0 HB); replace HB := bst HB hb; (try clear hb); (try clear ho0)))
  go_ret2
  exact ⟨_, eq1, Kd.rx HO617.out, bl HB.out⟩
 ·rw [if_neg c3] at H
  have c3b0 := beq_eq_false_iff_ne.mpr c3
  have c3b1 := bne_iff_ne.mpr c3
  simp only [Option.some.injEq, Prod.mk.injEq] at H
  obtain ⟨rfl, rfl⟩ := H
  go_enter Tryd.func43, Tryd.ntmps43
  go_wp2_with (((with_reducible refine zc (f := 18) rfl ?_); refine zh (some 8) rfl rfl Tryd.func18 (by kernel_rfl) rfl #[.slice A0 l0.length c0] rfl hq ?_; (with_reducible refine (zo.calls k _ _ l0 t613 t614 _ ?side3 ?side1 ?side2 A2.out).mono ?_); (case side1 => exact Kd.cx HR0.out); (case side2 => exact HC0.out); (case side3 => exact gb HG HB); rintro e w7 ⟨rfl, hb⟩; refine ⟨_, rfl, ?_⟩; replace HB := bst HB hb; (try clear hb)))
  go_ret2
  exact ⟨_, eq1, by exact Kd.ji _ _ _ _ _, bl HB.out⟩
def qT.f (k : Nat) (l0 : List (S34)) : Option (Bool) := (zG.f l0).bind fun t618 => ((xD.f k t618).bind fun bt621 => ((qS.f k l0).bind fun bt625 => ((xo.f k t618).bind fun bt629 => ((qC.f k l0).bind fun bt633 => ((zV.f k).bind fun t637 => (if t637 = true then ((zk.f k bt621.1 bt625.1).bind fun t638 => (if t638 = true then (if bt621.2 = bt625.2 then ((zk.f k bt629.1 bt633.1).bind fun t639 => (if t639 = true then (if bt629.2 = bt633.2 then ((qc.f k t618 l0).bind fun t640 => (some t640)) else (some false)) else (some false))) else (some false)) else (some false))) else (some false)))))))
theorem qT.calls (k : Nat) (A0 : Option Addr) (c0 : Nat) (l0 : List (S34)) (r : Bool) (w : World) (hG : GW w) (hr0 : Kd.C k34 w A0 l0.length l0) (hc0 : l0.length ≤ c0) (h : qT.f k l0 = some r) :
  Calls Tryd.prog 22 #[.slice A0 l0.length c0] w fun e w' => e = .returned (.bool r) ∧ Below w.heap.size w w' := by
 have HR0 := zb.mk hr0
 have HC0 := zb.mk hc0
 clear hr0 hc0
 have HG := zb.mk hG
 clear hG
 have HB := zb.mk (Below.refl w.heap.size w)
 have H : ((zG.f l0).bind fun t618 => ((xD.f k t618).bind fun bt621 => ((qS.f k l0).bind fun bt625 => ((xo.f k t618).bind fun bt629 => ((qC.f k l0).bind fun bt633 => ((zV.f k).bind fun t637 => (if t637 = true then ((zk.f k bt621.1 bt625.1).bind fun t638 => (if t638 = true then (if bt621.2 = bt625.2 then ((zk.f k bt629.1 bt633.1).bind fun t639 => (if t639 = true then (if bt629.2 = bt633.2 then ((qc.f k t618 l0).bind fun t640 => (some t640)) else (some false)) else (some false))) else (some false)) else (some false))) else (some false)))))))) = some r := h
 clear h
 replace H := zO H; obtain ⟨t618, A2, H⟩ := H
 replace H := zO H; obtain ⟨⟨t621, t622⟩, A3, H⟩ := H; try dsimp only at H
 replace H := zO H; obtain ⟨⟨t625, t626⟩, A4, H⟩ := H; try dsimp only at H
 replace H := zO H; obtain ⟨⟨t629, t630⟩, A5, H⟩ := H; try dsimp only at H
 replace H := zO H; obtain ⟨⟨t633, t634⟩, A6, H⟩ := H; try dsimp only at H
 replace H := zO H; obtain ⟨t637, A7, H⟩ := H
 by_cases c8 : t637 = true
 ·subst c8
  replace H := ifT H
  replace H := zO H; obtain ⟨t638, A9, H⟩ := H
  by_cases c10 : t638 = true
  ·subst c10
   replace H := ifT H
   by_cases c11 : t622 = t626
   ·rw [if_pos c11] at H
    have c11b0 := beq_iff_eq.mpr c11
    have c11b1 := bne_eq_false_iff_eq.mpr c11
    clear c11
    replace H := zO H; obtain ⟨t639, A12, H⟩ := H
    by_cases c13 : t639 = true
    ·subst c13
     replace H := ifT H
     by_cases c14 : t630 = t634
     ·rw [if_pos c14] at H
      have c14b0 := beq_iff_eq.mpr c14
      have c14b1 := bne_eq_false_iff_eq.mpr c14
      clear c14
      replace H := zO H; obtain ⟨t640, A15, H⟩ := H
      obtain rfl := Option.some.inj H
      go_enter Tryd.func22, Tryd.ntmps22
      go_wp2_with (first | ((with_reducible refine zc (f := 13) rfl ?_); refine zh (some 13) rfl rfl Tryd.func13 (by kernel_rfl) rfl #[.slice A0 l0.length c0] rfl hq ?_; (with_reducible refine (zG.calls _ _ l0 t618 _ ?side3 ?side1 ?side2 A2.out).mono ?_); (case side1 => exact Kd.cx HR0.out); (case side2 => exact HC0.out); (case side3 => exact gb HG HB); rintro e w16 ⟨v619, rfl, ho0, hx0, hb⟩; refine ⟨_, rfl, ?_⟩; have HO620 := zb.mk (Kd.rlo ho0 HB); have HX := zb.mk (Kd.rlo hx0 HB); clear hx0; replace HB := bst HB hb; (try clear hb); (try clear ho0); obtain ⟨Ao17, co17, eo17⟩ := Kd.zw HO620.out; subst eo17) | ((with_reducible refine zc (f := 7) rfl ?_); refine zh (some 16) rfl rfl Tryd.func7 (by kernel_rfl) rfl #[.slice Ao17 t618.length co17] rfl hq ?_; (with_reducible refine (xD.calls k _ _ t618 t621 t622 _ ?side3 ?side1 ?side2 A3.out).mono ?_); (case side1 => repeat (exact (Kd.zf HO620.out).2.2)); (case side2 => exact (Kd.zf HO620.out).2.1); (case side3 => exact gb HG HB); rintro e w18 ⟨v623, rfl, ho0, hb⟩; refine ⟨_, rfl, ?_⟩; have HO624 := zb.mk (Kd.rlo (Kd.zu ho0 (Kd.qg (Kd.rx HO620.out))) HB); replace HO620 := Kd.eld HO620 ho0 hb; replace HX := Kd.eld HX ho0 hb; replace HB := bst HB hb; (try clear hb); (try clear ho0)) | ((with_reducible refine zc (f := 42) rfl ?_); refine zh (some 21) rfl rfl Tryd.func42 (by kernel_rfl) rfl #[.slice A0 l0.length c0] rfl hq ?_; (with_reducible refine (qS.calls k _ _ l0 t625 t626 _ ?side3 ?side1 ?side2 A4.out).mono ?_); (case side1 => exact Kd.cx (Kd.zF HR0.out HB.out)); (case side2 => exact HC0.out); (case side3 => exact gb HG HB); rintro e w19 ⟨v627, rfl, ho0, hb⟩; refine ⟨_, rfl, ?_⟩; have HO628 := zb.mk (Kd.rlo (Kd.zu (Kd.zu ho0 (Kd.qg (Kd.rx HO620.out))) (Kd.qg (Kd.rx HO624.out))) HB); replace HO620 := Kd.eld HO620 ho0 hb; replace HX := Kd.eld HX ho0 hb; replace HO624 := Kd.eld HO624 ho0 hb; replace HB := bst HB hb; (try clear hb); (try clear ho0)) | ((with_reducible refine zc (f := 8) rfl ?_); refine zh (some 26) rfl rfl Tryd.func8 (by kernel_rfl) rfl #[.slice Ao17 t618.length co17] rfl hq ?_; (with_reducible refine (xo.calls k _ _ t618 t629 t630 _ ?side3 ?side1 ?side2 A5.out).mono ?_); (case side1 => repeat (exact (Kd.zf HO620.out).2.2)); (case side2 => exact (Kd.zf HO620.out).2.1); (case side3 => exact gb HG HB); rintro e w20 ⟨v631, rfl, ho0, hb⟩; refine ⟨_, rfl, ?_⟩; have HO632 := zb.mk (Kd.rlo (Kd.zu (Kd.zu (Kd.zu ho0 (Kd.qg (Kd.rx HO620.out))) (Kd.qg (Kd.rx HO624.out))) (Kd.qg (Kd.rx HO628.out))) HB); replace HO620 := Kd.eld HO620 ho0 hb; replace HX := Kd.eld HX ho0 hb; replace HO624 := Kd.eld HO624 ho0 hb; replace HO628 := Kd.eld HO628 ho0 hb; replace HB := bst HB hb; (try clear hb); (try clear ho0)) | ((with_reducible refine zc (f := 43) rfl ?_); refine zh (some 31) rfl rfl Tryd.func43 (by kernel_rfl) rfl #[.slice A0 l0.length c0] rfl hq ?_; (with_reducible refine (qC.calls k _ _ l0 t633 t634 _ ?side3 ?side1 ?side2 A6.out).mono ?_); (case side1 => exact Kd.cx (Kd.zF HR0.out HB.out)); (case side2 => exact HC0.out); (case side3 => exact gb HG HB); rintro e w21 ⟨v635, rfl, ho0, hb⟩; refine ⟨_, rfl, ?_⟩; have HO636 := zb.mk (Kd.rlo (Kd.zu (Kd.zu (Kd.zu (Kd.zu ho0 (Kd.qg (Kd.rx HO620.out))) (Kd.qg (Kd.rx HO624.out))) (Kd.qg (Kd.rx HO628.out))) (Kd.qg (Kd.rx HO632.out))) HB); replace HO620 := Kd.eld HO620 ho0 hb; replace HX := Kd.eld HX ho0 hb; replace HO624 := Kd.eld HO624 ho0 hb; replace HO628 := Kd.eld HO628 ho0 hb; replace HO632 := Kd.eld HO632 ho0 hb; replace HB := bst HB hb; (try clear hb); (try clear ho0)) | ((with_reducible refine zc (f := 11) rfl ?_); refine zh (some 34) rfl rfl Tryd.func11 (by kernel_rfl) rfl #[] rfl hq ?_; (with_reducible refine (zV.calls k  true _ ?side1 A7.out).mono ?_); (case side1 => exact gb HG HB); rintro e w22 ⟨rfl, hb⟩; refine ⟨_, rfl, ?_⟩; replace HO620 := Kd.rbl HO620 hb; replace HX := Kd.rbl HX hb; replace HO624 := Kd.rbl HO624 hb; replace HO628 := Kd.rbl HO628 hb; replace HO632 := Kd.rbl HO632 hb; replace HO636 := Kd.rbl HO636 hb; replace HB := bst HB hb; (try clear hb); obtain ⟨Ao23, co23, eo23⟩ := Kd.zw HO624.out; subst eo23; obtain ⟨Ao24, co24, eo24⟩ := Kd.zw HO628.out; subst eo24) | (go_at_call 16; (with_reducible refine (zk.calls k _ _ t621 _ _ t625 true _ ?side5 ?side1 ?side2 ?side3 ?side4 A9.out).mono ?_); (case side1 => repeat (exact (Kd.zf HO624.out).2.2)); (case side2 => exact (Kd.zf HO624.out).2.1); (case side3 => repeat (exact (Kd.zf HO628.out).2.2)); (case side4 => exact (Kd.zf HO628.out).2.1); (case side5 => exact gb HG HB); rintro e w' ⟨rfl, ⟨nd, rfl⟩⟩; obtain ⟨Ao25, co25, eo25⟩ := Kd.zw HO632.out; subst eo25; obtain ⟨Ao26, co26, eo26⟩ := Kd.zw HO636.out; subst eo26) | (go_at_call 16; (with_reducible refine (zk.calls k _ _ t629 _ _ t633 true _ ?side5 ?side1 ?side2 ?side3 ?side4 A12.out).mono ?_); (case side1 => repeat (exact (Kd.zf HO632.out).2.2)); (case side2 => exact (Kd.zf HO632.out).2.1); (case side3 => repeat (exact (Kd.zf HO636.out).2.2)); (case side4 => exact (Kd.zf HO636.out).2.1); (case side5 => exact gb HG HB); rintro e w' ⟨rfl, ⟨nd, rfl⟩⟩) | (go_at_call 17; (with_reducible refine (qc.calls k _ _ t618 _ _ l0 t640 _ ?side5 ?side1 ?side2 ?side3 ?side4 ?sideX ?sideY A15.out).mono ?_); (case sideX => repeat (exact (Kd.zf HX.out).2.2)); (case sideY => exact (Kd.zf (d := k34) (xs := t618 ++ [sentS]) HX.out).2.1); (case side1 => repeat (exact (Kd.zf HO620.out).2.2)); (case side2 => exact (Kd.zf HO620.out).2.1); (case side3 => exact Kd.cx (Kd.zF HR0.out HB.out)); (case side4 => exact HC0.out); (case side5 => exact gb HG HB); rintro e w' ⟨rfl, ⟨nd, rfl⟩⟩))
      go_ret
      exact ⟨eq1, bl HB.out⟩
     ·rw [if_neg c14] at H
      have c14b0 := beq_eq_false_iff_ne.mpr c14
      have c14b1 := bne_iff_ne.mpr c14
      obtain rfl := Option.some.inj H
      go_enter Tryd.func22, Tryd.ntmps22
      go_wp2_with (first | ((with_reducible refine zc (f := 13) rfl ?_); refine zh (some 13) rfl rfl Tryd.func13 (by kernel_rfl) rfl #[.slice A0 l0.length c0] rfl hq ?_; (with_reducible refine (zG.calls _ _ l0 t618 _ ?side3 ?side1 ?side2 A2.out).mono ?_); (case side1 => exact Kd.cx HR0.out); (case side2 => exact HC0.out); (case side3 => exact gb HG HB); rintro e w27 ⟨v619, rfl, ho0, hx0, hb⟩; refine ⟨_, rfl, ?_⟩; have HO620 := zb.mk (Kd.rlo ho0 HB); have HX := zb.mk (Kd.rlo hx0 HB); clear hx0; replace HB := bst HB hb; (try clear hb); (try clear ho0); obtain ⟨Ao28, co28, eo28⟩ := Kd.zw HO620.out; subst eo28) | ((with_reducible refine zc (f := 7) rfl ?_); refine zh (some 16) rfl rfl Tryd.func7 (by kernel_rfl) rfl #[.slice Ao28 t618.length co28] rfl hq ?_; (with_reducible refine (xD.calls k _ _ t618 t621 t622 _ ?side3 ?side1 ?side2 A3.out).mono ?_); (case side1 => repeat (exact (Kd.zf HO620.out).2.2)); (case side2 => exact (Kd.zf HO620.out).2.1); (case side3 => exact gb HG HB); rintro e w29 ⟨v623, rfl, ho0, hb⟩; refine ⟨_, rfl, ?_⟩; have HO624 := zb.mk (Kd.rlo (Kd.zu ho0 (Kd.qg (Kd.rx HO620.out))) HB); replace HO620 := Kd.eld HO620 ho0 hb; replace HX := Kd.eld HX ho0 hb; replace HB := bst HB hb; (try clear hb); (try clear ho0)) | ((with_reducible refine zc (f := 42) rfl ?_); refine zh (some 21) rfl rfl Tryd.func42 (by kernel_rfl) rfl #[.slice A0 l0.length c0] rfl hq ?_; (with_reducible refine (qS.calls k _ _ l0 t625 t626 _ ?side3 ?side1 ?side2 A4.out).mono ?_); (case side1 => exact Kd.cx (Kd.zF HR0.out HB.out)); (case side2 => exact HC0.out); (case side3 => exact gb HG HB); rintro e w30 ⟨v627, rfl, ho0, hb⟩; refine ⟨_, rfl, ?_⟩; have HO628 := zb.mk (Kd.rlo (Kd.zu (Kd.zu ho0 (Kd.qg (Kd.rx HO620.out))) (Kd.qg (Kd.rx HO624.out))) HB); replace HO620 := Kd.eld HO620 ho0 hb; replace HX := Kd.eld HX ho0 hb; replace HO624 := Kd.eld HO624 ho0 hb; replace HB := bst HB hb; (try clear hb); (try clear ho0)) | ((with_reducible refine zc (f := 8) rfl ?_); refine zh (some 26) rfl rfl Tryd.func8 (by kernel_rfl) rfl #[.slice Ao28 t618.length co28] rfl hq ?_; (with_reducible refine (xo.calls k _ _ t618 t629 t630 _ ?side3 ?side1 ?side2 A5.out).mono ?_); (case side1 => repeat (exact (Kd.zf HO620.out).2.2)); (case side2 => exact (Kd.zf HO620.out).2.1); (case side3 => exact gb HG HB); rintro e w31 ⟨v631, rfl, ho0, hb⟩; refine ⟨_, rfl, ?_⟩; have HO632 := zb.mk (Kd.rlo (Kd.zu (Kd.zu (Kd.zu ho0 (Kd.qg (Kd.rx HO620.out))) (Kd.qg (Kd.rx HO624.out))) (Kd.qg (Kd.rx HO628.out))) HB); replace HO620 := Kd.eld HO620 ho0 hb; replace HX := Kd.eld HX ho0 hb; replace HO624 := Kd.eld HO624 ho0 hb; replace HO628 := Kd.eld HO628 ho0 hb; replace HB := bst HB hb; (try clear hb); (try clear ho0)) | ((with_reducible refine zc (f := 43) rfl ?_); refine zh (some 31) rfl rfl Tryd.func43 (by kernel_rfl) rfl #[.slice A0 l0.length c0] rfl hq ?_; (with_reducible refine (qC.calls k _ _ l0 t633 t634 _ ?side3 ?side1 ?side2 A6.out).mono ?_); (case side1 => exact Kd.cx (Kd.zF HR0.out HB.out)); (case side2 => exact HC0.out); (case side3 => exact gb HG HB); rintro e w32 ⟨v635, rfl, ho0, hb⟩; refine ⟨_, rfl, ?_⟩; have HO636 := zb.mk (Kd.rlo (Kd.zu (Kd.zu (Kd.zu (Kd.zu ho0 (Kd.qg (Kd.rx HO620.out))) (Kd.qg (Kd.rx HO624.out))) (Kd.qg (Kd.rx HO628.out))) (Kd.qg (Kd.rx HO632.out))) HB); replace HO620 := Kd.eld HO620 ho0 hb; replace HX := Kd.eld HX ho0 hb; replace HO624 := Kd.eld HO624 ho0 hb; replace HO628 := Kd.eld HO628 ho0 hb; replace HO632 := Kd.eld HO632 ho0 hb; replace HB := bst HB hb; (try clear hb); (try clear ho0)) | ((with_reducible refine zc (f := 11) rfl ?_); refine zh (some 34) rfl rfl Tryd.func11 (by kernel_rfl) rfl #[] rfl hq ?_; (with_reducible refine (zV.calls k  true _ ?side1 A7.out).mono ?_); (case side1 => exact gb HG HB); rintro e w33 ⟨rfl, hb⟩; refine ⟨_, rfl, ?_⟩; replace HO620 := Kd.rbl HO620 hb; replace HX := Kd.rbl HX hb; replace HO624 := Kd.rbl HO624 hb; replace HO628 := Kd.rbl HO628 hb; replace HO632 := Kd.rbl HO632 hb; replace HO636 := Kd.rbl HO636 hb; replace HB := bst HB hb; (try clear hb); obtain ⟨Ao34, co34, eo34⟩ := Kd.zw HO624.out; subst eo34; obtain ⟨Ao35, co35, eo35⟩ := Kd.zw HO628.out; subst eo35) | (go_at_call 16; (with_reducible refine (zk.calls k _ _ t621 _ _ t625 true _ ?side5 ?side1 ?side2 ?side3 ?side4 A9.out).mono ?_); (case side1 => repeat (exact (Kd.zf HO624.out).2.2)); (case side2 => exact (Kd.zf HO624.out).2.1); (case side3 => repeat (exact (Kd.zf HO628.out).2.2)); (case side4 => exact (Kd.zf HO628.out).2.1); (case side5 => exact gb HG HB); rintro e w' ⟨rfl, ⟨nd, rfl⟩⟩; obtain ⟨Ao36, co36, eo36⟩ := Kd.zw HO632.out; subst eo36; obtain ⟨Ao37, co37, eo37⟩ := Kd.zw HO636.out; subst eo37) | (go_at_call 16; (with_reducible refine (zk.calls k _ _ t629 _ _ t633 true _ ?side5 ?side1 ?side2 ?side3 ?side4 A12.out).mono ?_); (case side1 => repeat (exact (Kd.zf HO632.out).2.2)); (case side2 => exact (Kd.zf HO632.out).2.1); (case side3 => repeat (exact (Kd.zf HO636.out).2.2)); (case side4 => exact (Kd.zf HO636.out).2.1); (case side5 => exact gb HG HB); rintro e w' ⟨rfl, ⟨nd, rfl⟩⟩))
      go_ret
      exact ⟨eq1, bl HB.out⟩
    ·replace c13 := Bool.eq_false_iff.mpr c13
     subst c13
     replace H := ifF H
     obtain rfl := Option.some.inj H
     go_enter Tryd.func22, Tryd.ntmps22
     go_wp2_with (first | ((with_reducible refine zc (f := 13) rfl ?_); refine zh (some 13) rfl rfl Tryd.func13 (by kernel_rfl) rfl #[.slice A0 l0.length c0] rfl hq ?_; (with_reducible refine (zG.calls _ _ l0 t618 _ ?side3 ?side1 ?side2 A2.out).mono ?_); (case side1 => exact Kd.cx HR0.out); (case side2 => exact HC0.out); (case side3 => exact gb HG HB); rintro e w38 ⟨v619, rfl, ho0, hx0, hb⟩; refine ⟨_, rfl, ?_⟩; have HO620 := zb.mk (Kd.rlo ho0 HB); have HX := zb.mk (Kd.rlo hx0 HB); clear hx0; replace HB := bst HB hb; (try clear hb); (try clear ho0); obtain ⟨Ao39, co39, eo39⟩ := Kd.zw HO620.out; subst eo39) | ((with_reducible refine zc (f := 7) rfl ?_); refine zh (some 16) rfl rfl Tryd.func7 (by kernel_rfl) rfl #[.slice Ao39 t618.length co39] rfl hq ?_; (with_reducible refine (xD.calls k _ _ t618 t621 t622 _ ?side3 ?side1 ?side2 A3.out).mono ?_); (case side1 => repeat (exact (Kd.zf HO620.out).2.2)); (case side2 => exact (Kd.zf HO620.out).2.1); (case side3 => exact gb HG HB); rintro e w40 ⟨v623, rfl, ho0, hb⟩; refine ⟨_, rfl, ?_⟩; have HO624 := zb.mk (Kd.rlo (Kd.zu ho0 (Kd.qg (Kd.rx HO620.out))) HB); replace HO620 := Kd.eld HO620 ho0 hb; replace HX := Kd.eld HX ho0 hb; replace HB := bst HB hb; (try clear hb); (try clear ho0)) | ((with_reducible refine zc (f := 42) rfl ?_); refine zh (some 21) rfl rfl Tryd.func42 (by kernel_rfl) rfl #[.slice A0 l0.length c0] rfl hq ?_; (with_reducible refine (qS.calls k _ _ l0 t625 t626 _ ?side3 ?side1 ?side2 A4.out).mono ?_); (case side1 => exact Kd.cx (Kd.zF HR0.out HB.out)); (case side2 => exact HC0.out); (case side3 => exact gb HG HB); rintro e w41 ⟨v627, rfl, ho0, hb⟩; refine ⟨_, rfl, ?_⟩; have HO628 := zb.mk (Kd.rlo (Kd.zu (Kd.zu ho0 (Kd.qg (Kd.rx HO620.out))) (Kd.qg (Kd.rx HO624.out))) HB); replace HO620 := Kd.eld HO620 ho0 hb; replace HX := Kd.eld HX ho0 hb; replace HO624 := Kd.eld HO624 ho0 hb; replace HB := bst HB hb; (try clear hb); (try clear ho0)) | ((with_reducible refine zc (f := 8) rfl ?_); refine zh (some 26) rfl rfl Tryd.func8 (by kernel_rfl) rfl #[.slice Ao39 t618.length co39] rfl hq ?_; (with_reducible refine (xo.calls k _ _ t618 t629 t630 _ ?side3 ?side1 ?side2 A5.out).mono ?_); (case side1 => repeat (exact (Kd.zf HO620.out).2.2)); (case side2 => exact (Kd.zf HO620.out).2.1); (case side3 => exact gb HG HB); rintro e w42 ⟨v631, rfl, ho0, hb⟩; refine ⟨_, rfl, ?_⟩; have HO632 := zb.mk (Kd.rlo (Kd.zu (Kd.zu (Kd.zu ho0 (Kd.qg (Kd.rx HO620.out))) (Kd.qg (Kd.rx HO624.out))) (Kd.qg (Kd.rx HO628.out))) HB); replace HO620 := Kd.eld HO620 ho0 hb; replace HX := Kd.eld HX ho0 hb; replace HO624 := Kd.eld HO624 ho0 hb; replace HO628 := Kd.eld HO628 ho0 hb; replace HB := bst HB hb; (try clear hb); (try clear ho0)) | ((with_reducible refine zc (f := 43) rfl ?_); refine zh (some 31) rfl rfl Tryd.func43 (by kernel_rfl) rfl #[.slice A0 l0.length c0] rfl hq ?_; (with_reducible refine (qC.calls k _ _ l0 t633 t634 _ ?side3 ?side1 ?side2 A6.out).mono ?_); (case side1 => exact Kd.cx (Kd.zF HR0.out HB.out)); (case side2 => exact HC0.out); (case side3 => exact gb HG HB); rintro e w43 ⟨v635, rfl, ho0, hb⟩; refine ⟨_, rfl, ?_⟩; have HO636 := zb.mk (Kd.rlo (Kd.zu (Kd.zu (Kd.zu (Kd.zu ho0 (Kd.qg (Kd.rx HO620.out))) (Kd.qg (Kd.rx HO624.out))) (Kd.qg (Kd.rx HO628.out))) (Kd.qg (Kd.rx HO632.out))) HB); replace HO620 := Kd.eld HO620 ho0 hb; replace HX := Kd.eld HX ho0 hb; replace HO624 := Kd.eld HO624 ho0 hb; replace HO628 := Kd.eld HO628 ho0 hb; replace HO632 := Kd.eld HO632 ho0 hb; replace HB := bst HB hb; (try clear hb); (try clear ho0)) | ((with_reducible refine zc (f := 11) rfl ?_); refine zh (some 34) rfl rfl Tryd.func11 (by kernel_rfl) rfl #[] rfl hq ?_; (with_reducible refine (zV.calls k  true _ ?side1 A7.out).mono ?_); (case side1 => exact gb HG HB); rintro e w44 ⟨rfl, hb⟩; refine ⟨_, rfl, ?_⟩; replace HO620 := Kd.rbl HO620 hb; replace HX := Kd.rbl HX hb; replace HO624 := Kd.rbl HO624 hb; replace HO628 := Kd.rbl HO628 hb; replace HO632 := Kd.rbl HO632 hb; replace HO636 := Kd.rbl HO636 hb; replace HB := bst HB hb; (try clear hb); obtain ⟨Ao45, co45, eo45⟩ := Kd.zw HO624.out; subst eo45; obtain ⟨Ao46, co46, eo46⟩ := Kd.zw HO628.out; subst eo46) | (go_at_call 16; (with_reducible refine (zk.calls k _ _ t621 _ _ t625 true _ ?side5 ?side1 ?side2 ?side3 ?side4 A9.out).mono ?_); (case side1 => repeat (exact (Kd.zf HO624.out).2.2)); (case side2 => exact (Kd.zf HO624.out).2.1); (case side3 => repeat (exact (Kd.zf HO628.out).2.2)); (case side4 => exact (Kd.zf HO628.out).2.1); (case side5 => exact gb HG HB); rintro e w' ⟨rfl, ⟨nd, rfl⟩⟩; obtain ⟨Ao47, co47, eo47⟩ := Kd.zw HO632.out; subst eo47; obtain ⟨Ao48, co48, eo48⟩ := Kd.zw HO636.out; subst eo48) | (go_at_call 16; (with_reducible refine (zk.calls k _ _ t629 _ _ t633 false _ ?side5 ?side1 ?side2 ?side3 ?side4 A12.out).mono ?_); (case side1 => repeat (exact (Kd.zf HO632.out).2.2)); (case side2 => exact (Kd.zf HO632.out).2.1); (case side3 => repeat (exact (Kd.zf HO636.out).2.2)); (case side4 => exact (Kd.zf HO636.out).2.1); (case side5 => exact gb HG HB); rintro e w' ⟨rfl, ⟨nd, rfl⟩⟩))
     go_ret
     exact ⟨eq1, bl HB.out⟩
   ·rw [if_neg c11] at H
    have c11b0 := beq_eq_false_iff_ne.mpr c11
    have c11b1 := bne_iff_ne.mpr c11
    obtain rfl := Option.some.inj H
    go_enter Tryd.func22, Tryd.ntmps22
    go_wp2_with (first | ((with_reducible refine zc (f := 13) rfl ?_); refine zh (some 13) rfl rfl Tryd.func13 (by kernel_rfl) rfl #[.slice A0 l0.length c0] rfl hq ?_; (with_reducible refine (zG.calls _ _ l0 t618 _ ?side3 ?side1 ?side2 A2.out).mono ?_); (case side1 => exact Kd.cx HR0.out); (case side2 => exact HC0.out); (case side3 => exact gb HG HB); rintro e w49 ⟨v619, rfl, ho0, hx0, hb⟩; refine ⟨_, rfl, ?_⟩; have HO620 := zb.mk (Kd.rlo ho0 HB); have HX := zb.mk (Kd.rlo hx0 HB); clear hx0; replace HB := bst HB hb; (try clear hb); (try clear ho0); obtain ⟨Ao50, co50, eo50⟩ := Kd.zw HO620.out; subst eo50) | ((with_reducible refine zc (f := 7) rfl ?_); refine zh (some 16) rfl rfl Tryd.func7 (by kernel_rfl) rfl #[.slice Ao50 t618.length co50] rfl hq ?_; (with_reducible refine (xD.calls k _ _ t618 t621 t622 _ ?side3 ?side1 ?side2 A3.out).mono ?_); (case side1 => repeat (exact (Kd.zf HO620.out).2.2)); (case side2 => exact (Kd.zf HO620.out).2.1); (case side3 => exact gb HG HB); rintro e w51 ⟨v623, rfl, ho0, hb⟩; refine ⟨_, rfl, ?_⟩; have HO624 := zb.mk (Kd.rlo (Kd.zu ho0 (Kd.qg (Kd.rx HO620.out))) HB); replace HO620 := Kd.eld HO620 ho0 hb; replace HX := Kd.eld HX ho0 hb; replace HB := bst HB hb; (try clear hb); (try clear ho0)) | ((with_reducible refine zc (f := 42) rfl ?_); refine zh (some 21) rfl rfl Tryd.func42 (by kernel_rfl) rfl #[.slice A0 l0.length c0] rfl hq ?_; (with_reducible refine (qS.calls k _ _ l0 t625 t626 _ ?side3 ?side1 ?side2 A4.out).mono ?_); (case side1 => exact Kd.cx (Kd.zF HR0.out HB.out)); (case side2 => exact HC0.out); (case side3 => exact gb HG HB); rintro e w52 ⟨v627, rfl, ho0, hb⟩; refine ⟨_, rfl, ?_⟩; have HO628 := zb.mk (Kd.rlo (Kd.zu (Kd.zu ho0 (Kd.qg (Kd.rx HO620.out))) (Kd.qg (Kd.rx HO624.out))) HB); replace HO620 := Kd.eld HO620 ho0 hb; replace HX := Kd.eld HX ho0 hb; replace HO624 := Kd.eld HO624 ho0 hb; replace HB := bst HB hb; (try clear hb); (try clear ho0)) | ((with_reducible refine zc (f := 8) rfl ?_); refine zh (some 26) rfl rfl Tryd.func8 (by kernel_rfl) rfl #[.slice Ao50 t618.length co50] rfl hq ?_; (with_reducible refine (xo.calls k _ _ t618 t629 t630 _ ?side3 ?side1 ?side2 A5.out).mono ?_); (case side1 => repeat (exact (Kd.zf HO620.out).2.2)); (case side2 => exact (Kd.zf HO620.out).2.1); (case side3 => exact gb HG HB); rintro e w53 ⟨v631, rfl, ho0, hb⟩; refine ⟨_, rfl, ?_⟩; have HO632 := zb.mk (Kd.rlo (Kd.zu (Kd.zu (Kd.zu ho0 (Kd.qg (Kd.rx HO620.out))) (Kd.qg (Kd.rx HO624.out))) (Kd.qg (Kd.rx HO628.out))) HB); replace HO620 := Kd.eld HO620 ho0 hb; replace HX := Kd.eld HX ho0 hb; replace HO624 := Kd.eld HO624 ho0 hb; replace HO628 := Kd.eld HO628 ho0 hb; replace HB := bst HB hb; (try clear hb); (try clear ho0)) | ((with_reducible refine zc (f := 43) rfl ?_); refine zh (some 31) rfl rfl Tryd.func43 (by kernel_rfl) rfl #[.slice A0 l0.length c0] rfl hq ?_; (with_reducible refine (qC.calls k _ _ l0 t633 t634 _ ?side3 ?side1 ?side2 A6.out).mono ?_); (case side1 => exact Kd.cx (Kd.zF HR0.out HB.out)); (case side2 => exact HC0.out); (case side3 => exact gb HG HB); rintro e w54 ⟨v635, rfl, ho0, hb⟩; refine ⟨_, rfl, ?_⟩; have HO636 := zb.mk (Kd.rlo (Kd.zu (Kd.zu (Kd.zu (Kd.zu ho0 (Kd.qg (Kd.rx HO620.out))) (Kd.qg (Kd.rx HO624.out))) (Kd.qg (Kd.rx HO628.out))) (Kd.qg (Kd.rx HO632.out))) HB); replace HO620 := Kd.eld HO620 ho0 hb; replace HX := Kd.eld HX ho0 hb; replace HO624 := Kd.eld HO624 ho0 hb; replace HO628 := Kd.eld HO628 ho0 hb; replace HO632 := Kd.eld HO632 ho0 hb; replace HB := bst HB hb; (try clear hb); (try clear ho0)) | ((with_reducible refine zc (f := 11) rfl ?_); refine zh (some 34) rfl rfl Tryd.func11 (by kernel_rfl) rfl #[] rfl hq ?_; (with_reducible refine (zV.calls k  true _ ?side1 A7.out).mono ?_); (case side1 => exact gb HG HB); rintro e w55 ⟨rfl, hb⟩; refine ⟨_, rfl, ?_⟩; replace HO620 := Kd.rbl HO620 hb; replace HX := Kd.rbl HX hb; replace HO624 := Kd.rbl HO624 hb; replace HO628 := Kd.rbl HO628 hb; replace HO632 := Kd.rbl HO632 hb; replace HO636 := Kd.rbl HO636 hb; replace HB := bst HB hb; (try clear hb); obtain ⟨Ao56, co56, eo56⟩ := Kd.zw HO624.out; subst eo56; obtain ⟨Ao57, co57, eo57⟩ := Kd.zw HO628.out; subst eo57) | (go_at_call 16; (with_reducible refine (zk.calls k _ _ t621 _ _ t625 true _ ?side5 ?side1 ?side2 ?side3 ?side4 A9.out).mono ?_); (case side1 => repeat (exact (Kd.zf HO624.out).2.2)); (case side2 => exact (Kd.zf HO624.out).2.1); (case side3 => repeat (exact (Kd.zf HO628.out).2.2)); (case side4 => exact (Kd.zf HO628.out).2.1); (case side5 => exact gb HG HB); rintro e w' ⟨rfl, ⟨nd, rfl⟩⟩))
    go_ret
    exact ⟨eq1, bl HB.out⟩
  ·replace c10 := Bool.eq_false_iff.mpr c10
   subst c10
   replace H := ifF H
   obtain rfl := Option.some.inj H
   go_enter Tryd.func22, Tryd.ntmps22
   go_wp2_with (first | ((with_reducible refine zc (f := 13) rfl ?_); refine zh (some 13) rfl rfl Tryd.func13 (by kernel_rfl) rfl #[.slice A0 l0.length c0] rfl hq ?_; (with_reducible refine (zG.calls _ _ l0 t618 _ ?side3 ?side1 ?side2 A2.out).mono ?_); (case side1 => exact Kd.cx HR0.out); (case side2 => exact HC0.out); (case side3 => exact gb HG HB); rintro e w58 ⟨v619, rfl, ho0, hx0, hb⟩; refine ⟨_, rfl, ?_⟩; have HO620 := zb.mk (Kd.rlo ho0 HB); have HX := zb.mk (Kd.rlo hx0 HB); clear hx0; replace HB := bst HB hb; (try clear hb); (try clear ho0); obtain ⟨Ao59, co59, eo59⟩ := Kd.zw HO620.out; subst eo59) | ((with_reducible refine zc (f := 7) rfl ?_); refine zh (some 16) rfl rfl Tryd.func7 (by kernel_rfl) rfl #[.slice Ao59 t618.length co59] rfl hq ?_; (with_reducible refine (xD.calls k _ _ t618 t621 t622 _ ?side3 ?side1 ?side2 A3.out).mono ?_); (case side1 => repeat (exact (Kd.zf HO620.out).2.2)); (case side2 => exact (Kd.zf HO620.out).2.1); (case side3 => exact gb HG HB); rintro e w60 ⟨v623, rfl, ho0, hb⟩; refine ⟨_, rfl, ?_⟩; have HO624 := zb.mk (Kd.rlo (Kd.zu ho0 (Kd.qg (Kd.rx HO620.out))) HB); replace HO620 := Kd.eld HO620 ho0 hb; replace HX := Kd.eld HX ho0 hb; replace HB := bst HB hb; (try clear hb); (try clear ho0)) | ((with_reducible refine zc (f := 42) rfl ?_); refine zh (some 21) rfl rfl Tryd.func42 (by kernel_rfl) rfl #[.slice A0 l0.length c0] rfl hq ?_; (with_reducible refine (qS.calls k _ _ l0 t625 t626 _ ?side3 ?side1 ?side2 A4.out).mono ?_); (case side1 => exact Kd.cx (Kd.zF HR0.out HB.out)); (case side2 => exact HC0.out); (case side3 => exact gb HG HB); rintro e w61 ⟨v627, rfl, ho0, hb⟩; refine ⟨_, rfl, ?_⟩; have HO628 := zb.mk (Kd.rlo (Kd.zu (Kd.zu ho0 (Kd.qg (Kd.rx HO620.out))) (Kd.qg (Kd.rx HO624.out))) HB); replace HO620 := Kd.eld HO620 ho0 hb; replace HX := Kd.eld HX ho0 hb; replace HO624 := Kd.eld HO624 ho0 hb; replace HB := bst HB hb; (try clear hb); (try clear ho0)) | ((with_reducible refine zc (f := 8) rfl ?_); refine zh (some 26) rfl rfl Tryd.func8 (by kernel_rfl) rfl #[.slice Ao59 t618.length co59] rfl hq ?_; (with_reducible refine (xo.calls k _ _ t618 t629 t630 _ ?side3 ?side1 ?side2 A5.out).mono ?_); (case side1 => repeat (exact (Kd.zf HO620.out).2.2)); (case side2 => exact (Kd.zf HO620.out).2.1); (case side3 => exact gb HG HB); rintro e w62 ⟨v631, rfl, ho0, hb⟩; refine ⟨_, rfl, ?_⟩; have HO632 := zb.mk (Kd.rlo (Kd.zu (Kd.zu (Kd.zu ho0 (Kd.qg (Kd.rx HO620.out))) (Kd.qg (Kd.rx HO624.out))) (Kd.qg (Kd.rx HO628.out))) HB); replace HO620 := Kd.eld HO620 ho0 hb; replace HX := Kd.eld HX ho0 hb; replace HO624 := Kd.eld HO624 ho0 hb; replace HO628 := Kd.eld HO628 ho0 hb; replace HB := bst HB hb; (try clear hb); (try clear ho0)) | ((with_reducible refine zc (f := 43) rfl ?_); refine zh (some 31) rfl rfl Tryd.func43 (by kernel_rfl) rfl #[.slice A0 l0.length c0] rfl hq ?_; (with_reducible refine (qC.calls k _ _ l0 t633 t634 _ ?side3 ?side1 ?side2 A6.out).mono ?_); (case side1 => exact Kd.cx (Kd.zF HR0.out HB.out)); (case side2 => exact HC0.out); (case side3 => exact gb HG HB); rintro e w63 ⟨v635, rfl, ho0, hb⟩; refine ⟨_, rfl, ?_⟩; have HO636 := zb.mk (Kd.rlo (Kd.zu (Kd.zu (Kd.zu (Kd.zu ho0 (Kd.qg (Kd.rx HO620.out))) (Kd.qg (Kd.rx HO624.out))) (Kd.qg (Kd.rx HO628.out))) (Kd.qg (Kd.rx HO632.out))) HB); replace HO620 := Kd.eld HO620 ho0 hb; replace HX := Kd.eld HX ho0 hb; replace HO624 := Kd.eld HO624 ho0 hb; replace HO628 := Kd.eld HO628 ho0 hb; replace HO632 := Kd.eld HO632 ho0 hb; replace HB := bst HB hb; (try clear hb); (try clear ho0)) | ((with_reducible refine zc (f := 11) rfl ?_); refine zh (some 34) rfl rfl Tryd.func11 (by kernel_rfl) rfl #[] rfl hq ?_; (with_reducible refine (zV.calls k  true _ ?side1 A7.out).mono ?_); (case side1 => exact gb HG HB); rintro e w64 ⟨rfl, hb⟩; refine ⟨_, rfl, ?_⟩; replace HO620 := Kd.rbl HO620 hb; replace HX := Kd.rbl HX hb; replace HO624 := Kd.rbl HO624 hb; replace HO628 := Kd.rbl HO628 hb; replace HO632 := Kd.rbl HO632 hb; replace HO636 := Kd.rbl HO636 hb; replace HB := bst HB hb; (try clear hb); obtain ⟨Ao65, co65, eo65⟩ := Kd.zw HO624.out; subst eo65; obtain ⟨Ao66, co66, eo66⟩ := Kd.zw HO628.out; subst eo66) | (go_at_call 16; (with_reducible refine (zk.calls k _ _ t621 _ _ t625 false _ ?side5 ?side1 ?side2 ?side3 ?side4 A9.out).mono ?_); (case side1 => repeat (exact (Kd.zf HO624.out).2.2)); (case side2 => exact (Kd.zf HO624.out).2.1); (case side3 => repeat (exact (Kd.zf HO628.out).2.2)); (case side4 => exact (Kd.zf HO628.out).2.1); (case side5 => exact gb HG HB); rintro e w' ⟨rfl, ⟨nd, rfl⟩⟩))
   go_ret
   exact ⟨eq1, bl HB.out⟩
 ·replace c8 := Bool.eq_false_iff.mpr c8
  subst c8
  replace H := ifF H
  obtain rfl := Option.some.inj H
  go_enter Tryd.func22, Tryd.ntmps22
  go_wp2_with (first | ((with_reducible refine zc (f := 13) rfl ?_); refine zh (some 13) rfl rfl Tryd.func13 (by kernel_rfl) rfl #[.slice A0 l0.length c0] rfl hq ?_; (with_reducible refine (zG.calls _ _ l0 t618 _ ?side3 ?side1 ?side2 A2.out).mono ?_); (case side1 => exact Kd.cx HR0.out); (case side2 => exact HC0.out); (case side3 => exact gb HG HB); rintro e w67 ⟨v619, rfl, ho0, hx0, hb⟩; refine ⟨_, rfl, ?_⟩; have HO620 := zb.mk (Kd.rlo ho0 HB); have HX := zb.mk (Kd.rlo hx0 HB); clear hx0; replace HB := bst HB hb; (try clear hb); (try clear ho0); obtain ⟨Ao68, co68, eo68⟩ := Kd.zw HO620.out; subst eo68) | ((with_reducible refine zc (f := 7) rfl ?_); refine zh (some 16) rfl rfl Tryd.func7 (by kernel_rfl) rfl #[.slice Ao68 t618.length co68] rfl hq ?_; (with_reducible refine (xD.calls k _ _ t618 t621 t622 _ ?side3 ?side1 ?side2 A3.out).mono ?_); (case side1 => repeat (exact (Kd.zf HO620.out).2.2)); (case side2 => exact (Kd.zf HO620.out).2.1); (case side3 => exact gb HG HB); rintro e w69 ⟨v623, rfl, ho0, hb⟩; refine ⟨_, rfl, ?_⟩; have HO624 := zb.mk (Kd.rlo (Kd.zu ho0 (Kd.qg (Kd.rx HO620.out))) HB); replace HO620 := Kd.eld HO620 ho0 hb; replace HX := Kd.eld HX ho0 hb; replace HB := bst HB hb; (try clear hb); (try clear ho0)) | ((with_reducible refine zc (f := 42) rfl ?_); refine zh (some 21) rfl rfl Tryd.func42 (by kernel_rfl) rfl #[.slice A0 l0.length c0] rfl hq ?_; (with_reducible refine (qS.calls k _ _ l0 t625 t626 _ ?side3 ?side1 ?side2 A4.out).mono ?_); (case side1 => exact Kd.cx (Kd.zF HR0.out HB.out)); (case side2 => exact HC0.out); (case side3 => exact gb HG HB); rintro e w70 ⟨v627, rfl, ho0, hb⟩; refine ⟨_, rfl, ?_⟩; have HO628 := zb.mk (Kd.rlo (Kd.zu (Kd.zu ho0 (Kd.qg (Kd.rx HO620.out))) (Kd.qg (Kd.rx HO624.out))) HB); replace HO620 := Kd.eld HO620 ho0 hb; replace HX := Kd.eld HX ho0 hb; replace HO624 := Kd.eld HO624 ho0 hb; replace HB := bst HB hb; (try clear hb); (try clear ho0)) | ((with_reducible refine zc (f := 8) rfl ?_); refine zh (some 26) rfl rfl Tryd.func8 (by kernel_rfl) rfl #[.slice Ao68 t618.length co68] rfl hq ?_; (with_reducible refine (xo.calls k _ _ t618 t629 t630 _ ?side3 ?side1 ?side2 A5.out).mono ?_); (case side1 => repeat (exact (Kd.zf HO620.out).2.2)); (case side2 => exact (Kd.zf HO620.out).2.1); (case side3 => exact gb HG HB); rintro e w71 ⟨v631, rfl, ho0, hb⟩; refine ⟨_, rfl, ?_⟩; have HO632 := zb.mk (Kd.rlo (Kd.zu (Kd.zu (Kd.zu ho0 (Kd.qg (Kd.rx HO620.out))) (Kd.qg (Kd.rx HO624.out))) (Kd.qg (Kd.rx HO628.out))) HB); replace HO620 := Kd.eld HO620 ho0 hb; replace HX := Kd.eld HX ho0 hb; replace HO624 := Kd.eld HO624 ho0 hb; replace HO628 := Kd.eld HO628 ho0 hb; replace HB := bst HB hb; (try clear hb); (try clear ho0)) | ((with_reducible refine zc (f := 43) rfl ?_); refine zh (some 31) rfl rfl Tryd.func43 (by kernel_rfl) rfl #[.slice A0 l0.length c0] rfl hq ?_; (with_reducible refine (qC.calls k _ _ l0 t633 t634 _ ?side3 ?side1 ?side2 A6.out).mono ?_); (case side1 => exact Kd.cx (Kd.zF HR0.out HB.out)); (case side2 => exact HC0.out); (case side3 => exact gb HG HB); rintro e w72 ⟨v635, rfl, ho0, hb⟩; refine ⟨_, rfl, ?_⟩; have HO636 := zb.mk (Kd.rlo (Kd.zu (Kd.zu (Kd.zu (Kd.zu ho0 (Kd.qg (Kd.rx HO620.out))) (Kd.qg (Kd.rx HO624.out))) (Kd.qg (Kd.rx HO628.out))) (Kd.qg (Kd.rx HO632.out))) HB); replace HO620 := Kd.eld HO620 ho0 hb; replace HX := Kd.eld HX ho0 hb; replace HO624 := Kd.eld HO624 ho0 hb; replace HO628 := Kd.eld HO628 ho0 hb; replace HO632 := Kd.eld HO632 ho0 hb; replace HB := bst HB hb; (try clear hb); (try clear ho0)) | ((with_reducible refine zc (f := 11) rfl ?_); refine zh (some 34) rfl rfl Tryd.func11 (by kernel_rfl) rfl #[] rfl hq ?_; (with_reducible refine (zV.calls k  false _ ?side1 A7.out).mono ?_); (case side1 => exact gb HG HB); rintro e w73 ⟨rfl, hb⟩; refine ⟨_, rfl, ?_⟩; replace HO620 := Kd.rbl HO620 hb; replace HX := Kd.rbl HX hb; replace HO624 := Kd.rbl HO624 hb; replace HO628 := Kd.rbl HO628 hb; replace HO632 := Kd.rbl HO632 hb; replace HO636 := Kd.rbl HO636 hb; replace HB := bst HB hb; (try clear hb)))
  go_ret
  exact ⟨eq1, bl HB.out⟩
def qV.f (k : Nat) (l0 : List (S34)) : Option ((List (S34)) × Int) := (zo.f k l0).bind fun bt641 => (if bt641.2 = 0 then ((z8.f k l0).bind fun t643 => (some (t643, 0))) else (some (([] : List (S34)), bt641.2)))
theorem qV.calls (k : Nat) (A0 : Option Addr) (c0 : Nat) (l0 r1 : List (S34)) (r2 : Int) (w : World) (hG : GW w) (hr0 : Kd.C k34 w A0 l0.length l0) (hc0 : l0.length ≤ c0) (h : qV.f k l0 = some (r1, r2)) :
  Calls Tryd.prog 44 #[.slice A0 l0.length c0] w fun e w' => ∃ v0_ : Value, e = .returned (.tuple #[v0_, .int .i64 r2]) ∧ Kd.R k34 34 w' w.heap.size (fun _ => True) v0_ r1 ∧ Below w.heap.size w w' := by
 have HR0 := zb.mk hr0
 have HC0 := zb.mk hc0
 clear hr0 hc0
 have HG := zb.mk hG
 clear hG
 have HB := zb.mk (Below.refl w.heap.size w)
 have H : ((zo.f k l0).bind fun bt641 => (if bt641.2 = 0 then ((z8.f k l0).bind fun t643 => (some (t643, 0))) else (some (([] : List (S34)), bt641.2)))) = some (r1, r2) := h
 clear h
 replace H := zO H; obtain ⟨⟨t641, t642⟩, A2, H⟩ := H; try dsimp only at H
 by_cases c3 : t642 = 0
 ·rw [if_pos c3] at H
  have c3b0 := beq_iff_eq.mpr c3
  have c3b1 := bne_eq_false_iff_eq.mpr c3
  clear c3
  replace H := zO H; obtain ⟨t643, A4, H⟩ := H
  simp only [Option.some.injEq, Prod.mk.injEq] at H
  obtain ⟨rfl, rfl⟩ := H
  go_enter Tryd.func44, Tryd.ntmps44
  go_wp2_with (first | ((with_reducible refine zc (f := 18) rfl ?_); refine zh (some 8) rfl rfl Tryd.func18 (by kernel_rfl) rfl #[.slice A0 l0.length c0] rfl hq ?_; (with_reducible refine (zo.calls k _ _ l0 t641 t642 _ ?side3 ?side1 ?side2 A2.out).mono ?_); (case side1 => exact Kd.cx HR0.out); (case side2 => exact HC0.out); (case side3 => exact gb HG HB); rintro e w5 ⟨rfl, hb⟩; refine ⟨_, rfl, ?_⟩; replace HB := bst HB hb; (try clear hb)) | ((with_reducible refine zc (f := 36) rfl ?_); refine zh (some 15) rfl rfl Tryd.func36 (by kernel_rfl) rfl #[.slice A0 l0.length c0] rfl hq ?_; (with_reducible refine (z8.calls k _ _ l0 t643 _ ?side3 ?side1 ?side2 A4.out).mono ?_); (case side1 => exact Kd.cx (Kd.zF HR0.out HB.out)); (case side2 => exact HC0.out); (case side3 => exact gb HG HB); rintro e w6 ⟨v644, rfl, ho0, hb⟩; refine ⟨_, rfl, ?_⟩; have HO645 := zb.mk (Kd.rlo ho0 HB); replace HB := bst HB hb; (try clear hb); (try clear ho0)))
  go_ret2
  exact ⟨_, eq1, Kd.rx HO645.out, bl HB.out⟩
 ·rw [if_neg c3] at H
  have c3b0 := beq_eq_false_iff_ne.mpr c3
  have c3b1 := bne_iff_ne.mpr c3
  simp only [Option.some.injEq, Prod.mk.injEq] at H
  obtain ⟨rfl, rfl⟩ := H
  go_enter Tryd.func44, Tryd.ntmps44
  go_wp2_with (((with_reducible refine zc (f := 18) rfl ?_); refine zh (some 8) rfl rfl Tryd.func18 (by kernel_rfl) rfl #[.slice A0 l0.length c0] rfl hq ?_; (with_reducible refine (zo.calls k _ _ l0 t641 t642 _ ?side3 ?side1 ?side2 A2.out).mono ?_); (case side1 => exact Kd.cx HR0.out); (case side2 => exact HC0.out); (case side3 => exact gb HG HB); rintro e w7 ⟨rfl, hb⟩; refine ⟨_, rfl, ?_⟩; replace HB := bst HB hb; (try clear hb)))
  go_ret2
  exact ⟨_, eq1, by exact Kd.ji _ _ _ _ _, bl HB.out⟩
def qW.f (k : Nat) (l0 : List (S34)) : Option ((List (S34)) × Int) := (zo.f k l0).bind fun bt646 => (if bt646.2 = 0 then ((zZ.f k l0).bind fun t648 => (some (t648, 0))) else (some (([] : List (S34)), bt646.2)))
theorem qW.calls (k : Nat) (A0 : Option Addr) (c0 : Nat) (l0 r1 : List (S34)) (r2 : Int) (w : World) (hG : GW w) (hr0 : Kd.C k34 w A0 l0.length l0) (hc0 : l0.length ≤ c0) (h : qW.f k l0 = some (r1, r2)) :
  Calls Tryd.prog 45 #[.slice A0 l0.length c0] w fun e w' => ∃ v0_ : Value, e = .returned (.tuple #[v0_, .int .i64 r2]) ∧ Kd.R k34 34 w' w.heap.size (fun _ => True) v0_ r1 ∧ Below w.heap.size w w' := by
 have HR0 := zb.mk hr0
 have HC0 := zb.mk hc0
 clear hr0 hc0
 have HG := zb.mk hG
 clear hG
 have HB := zb.mk (Below.refl w.heap.size w)
 have H : ((zo.f k l0).bind fun bt646 => (if bt646.2 = 0 then ((zZ.f k l0).bind fun t648 => (some (t648, 0))) else (some (([] : List (S34)), bt646.2)))) = some (r1, r2) := h
 clear h
 replace H := zO H; obtain ⟨⟨t646, t647⟩, A2, H⟩ := H; try dsimp only at H
 by_cases c3 : t647 = 0
 ·rw [if_pos c3] at H
  have c3b0 := beq_iff_eq.mpr c3
  have c3b1 := bne_eq_false_iff_eq.mpr c3
  clear c3
  replace H := zO H; obtain ⟨t648, A4, H⟩ := H
  simp only [Option.some.injEq, Prod.mk.injEq] at H
  obtain ⟨rfl, rfl⟩ := H
  go_enter Tryd.func45, Tryd.ntmps45
  go_wp2_with (first | ((with_reducible refine zc (f := 18) rfl ?_); refine zh (some 8) rfl rfl Tryd.func18 (by kernel_rfl) rfl #[.slice A0 l0.length c0] rfl hq ?_; (with_reducible refine (zo.calls k _ _ l0 t646 t647 _ ?side3 ?side1 ?side2 A2.out).mono ?_); (case side1 => exact Kd.cx HR0.out); (case side2 => exact HC0.out); (case side3 => exact gb HG HB); rintro e w5 ⟨rfl, hb⟩; refine ⟨_, rfl, ?_⟩; replace HB := bst HB hb; (try clear hb)) | ((with_reducible refine zc (f := 35) rfl ?_); refine zh (some 15) rfl rfl Tryd.func35 (by kernel_rfl) rfl #[.slice A0 l0.length c0] rfl hq ?_; (with_reducible refine (zZ.calls k _ _ l0 t648 _ ?side3 ?side1 ?side2 A4.out).mono ?_); (case side1 => exact Kd.cx (Kd.zF HR0.out HB.out)); (case side2 => exact HC0.out); (case side3 => exact gb HG HB); rintro e w6 ⟨v649, rfl, ho0, hb⟩; refine ⟨_, rfl, ?_⟩; have HO650 := zb.mk (Kd.rlo ho0 HB); replace HB := bst HB hb; (try clear hb); (try clear ho0)))
  go_ret2
  exact ⟨_, eq1, Kd.rx HO650.out, bl HB.out⟩
 ·rw [if_neg c3] at H
  have c3b0 := beq_eq_false_iff_ne.mpr c3
  have c3b1 := bne_iff_ne.mpr c3
  simp only [Option.some.injEq, Prod.mk.injEq] at H
  obtain ⟨rfl, rfl⟩ := H
  go_enter Tryd.func45, Tryd.ntmps45
  go_wp2_with (((with_reducible refine zc (f := 18) rfl ?_); refine zh (some 8) rfl rfl Tryd.func18 (by kernel_rfl) rfl #[.slice A0 l0.length c0] rfl hq ?_; (with_reducible refine (zo.calls k _ _ l0 t646 t647 _ ?side3 ?side1 ?side2 A2.out).mono ?_); (case side1 => exact Kd.cx HR0.out); (case side2 => exact HC0.out); (case side3 => exact gb HG HB); rintro e w7 ⟨rfl, hb⟩; refine ⟨_, rfl, ?_⟩; replace HB := bst HB hb; (try clear hb)))
  go_ret2
  exact ⟨_, eq1, by exact Kd.ji _ _ _ _ _, bl HB.out⟩
def xe.f (k : Nat) (l0 : List (S34)) : Option (Bool) := (zG.f l0).bind fun t651 => ((xf.f k t651).bind fun bt654 => ((qV.f k l0).bind fun bt658 => ((xM.f k t651).bind fun bt662 => ((qW.f k l0).bind fun bt666 => ((zV.f k).bind fun t670 => (if t670 = true then ((zk.f k bt654.1 bt658.1).bind fun t671 => (if t671 = true then (if bt654.2 = bt658.2 then ((zk.f k bt662.1 bt666.1).bind fun t672 => (if t672 = true then (if bt662.2 = bt666.2 then ((qc.f k t651 l0).bind fun t673 => (some t673)) else (some false)) else (some false))) else (some false)) else (some false))) else (some false)))))))
theorem xe.calls (k : Nat) (A0 : Option Addr) (c0 : Nat) (l0 : List (S34)) (r : Bool) (w : World) (hG : GW w) (hr0 : Kd.C k34 w A0 l0.length l0) (hc0 : l0.length ≤ c0) (h : xe.f k l0 = some r) :
  Calls Tryd.prog 23 #[.slice A0 l0.length c0] w fun e w' => e = .returned (.bool r) ∧ Below w.heap.size w w' := by
 have HR0 := zb.mk hr0
 have HC0 := zb.mk hc0
 clear hr0 hc0
 have HG := zb.mk hG
 clear hG
 have HB := zb.mk (Below.refl w.heap.size w)
 have H : ((zG.f l0).bind fun t651 => ((xf.f k t651).bind fun bt654 => ((qV.f k l0).bind fun bt658 => ((xM.f k t651).bind fun bt662 => ((qW.f k l0).bind fun bt666 => ((zV.f k).bind fun t670 => (if t670 = true then ((zk.f k bt654.1 bt658.1).bind fun t671 => (if t671 = true then (if bt654.2 = bt658.2 then ((zk.f k bt662.1 bt666.1).bind fun t672 => (if t672 = true then (if bt662.2 = bt666.2 then ((qc.f k t651 l0).bind fun t673 => (some t673)) else (some false)) else (some false))) else (some false)) else (some false))) else (some false)))))))) = some r := h
 clear h
 replace H := zO H; obtain ⟨t651, A2, H⟩ := H
 replace H := zO H; obtain ⟨⟨t654, t655⟩, A3, H⟩ := H; try dsimp only at H
 replace H := zO H; obtain ⟨⟨t658, t659⟩, A4, H⟩ := H; try dsimp only at H
 replace H := zO H; obtain ⟨⟨t662, t663⟩, A5, H⟩ := H; try dsimp only at H
 replace H := zO H; obtain ⟨⟨t666, t667⟩, A6, H⟩ := H; try dsimp only at H
 replace H := zO H; obtain ⟨t670, A7, H⟩ := H
 by_cases c8 : t670 = true
 ·subst c8
  replace H := ifT H
  replace H := zO H; obtain ⟨t671, A9, H⟩ := H
  by_cases c10 : t671 = true
  ·subst c10
   replace H := ifT H
   by_cases c11 : t655 = t659
   ·rw [if_pos c11] at H
    have c11b0 := beq_iff_eq.mpr c11
    have c11b1 := bne_eq_false_iff_eq.mpr c11
    clear c11
    replace H := zO H; obtain ⟨t672, A12, H⟩ := H
    by_cases c13 : t672 = true
    ·subst c13
     replace H := ifT H
     by_cases c14 : t663 = t667
     ·rw [if_pos c14] at H
      have c14b0 := beq_iff_eq.mpr c14
      have c14b1 := bne_eq_false_iff_eq.mpr c14
      clear c14
      replace H := zO H; obtain ⟨t673, A15, H⟩ := H
      obtain rfl := Option.some.inj H
      go_enter Tryd.func23, Tryd.ntmps23
      go_wp2_with (first | ((with_reducible refine zc (f := 13) rfl ?_); refine zh (some 13) rfl rfl Tryd.func13 (by kernel_rfl) rfl #[.slice A0 l0.length c0] rfl hq ?_; (with_reducible refine (zG.calls _ _ l0 t651 _ ?side3 ?side1 ?side2 A2.out).mono ?_); (case side1 => exact Kd.cx HR0.out); (case side2 => exact HC0.out); (case side3 => exact gb HG HB); rintro e w16 ⟨v652, rfl, ho0, hx0, hb⟩; refine ⟨_, rfl, ?_⟩; have HO653 := zb.mk (Kd.rlo ho0 HB); have HX := zb.mk (Kd.rlo hx0 HB); clear hx0; replace HB := bst HB hb; (try clear hb); (try clear ho0); obtain ⟨Ao17, co17, eo17⟩ := Kd.zw HO653.out; subst eo17) | ((with_reducible refine zc (f := 9) rfl ?_); refine zh (some 16) rfl rfl Tryd.func9 (by kernel_rfl) rfl #[.slice Ao17 t651.length co17] rfl hq ?_; (with_reducible refine (xf.calls k _ _ t651 t654 t655 _ ?side3 ?side1 ?side2 A3.out).mono ?_); (case side1 => repeat (exact (Kd.zf HO653.out).2.2)); (case side2 => exact (Kd.zf HO653.out).2.1); (case side3 => exact gb HG HB); rintro e w18 ⟨v656, rfl, ho0, hb⟩; refine ⟨_, rfl, ?_⟩; have HO657 := zb.mk (Kd.rlo (Kd.zu ho0 (Kd.qg (Kd.rx HO653.out))) HB); replace HO653 := Kd.eld HO653 ho0 hb; replace HX := Kd.eld HX ho0 hb; replace HB := bst HB hb; (try clear hb); (try clear ho0)) | ((with_reducible refine zc (f := 44) rfl ?_); refine zh (some 21) rfl rfl Tryd.func44 (by kernel_rfl) rfl #[.slice A0 l0.length c0] rfl hq ?_; (with_reducible refine (qV.calls k _ _ l0 t658 t659 _ ?side3 ?side1 ?side2 A4.out).mono ?_); (case side1 => exact Kd.cx (Kd.zF HR0.out HB.out)); (case side2 => exact HC0.out); (case side3 => exact gb HG HB); rintro e w19 ⟨v660, rfl, ho0, hb⟩; refine ⟨_, rfl, ?_⟩; have HO661 := zb.mk (Kd.rlo (Kd.zu (Kd.zu ho0 (Kd.qg (Kd.rx HO653.out))) (Kd.qg (Kd.rx HO657.out))) HB); replace HO653 := Kd.eld HO653 ho0 hb; replace HX := Kd.eld HX ho0 hb; replace HO657 := Kd.eld HO657 ho0 hb; replace HB := bst HB hb; (try clear hb); (try clear ho0)) | ((with_reducible refine zc (f := 10) rfl ?_); refine zh (some 26) rfl rfl Tryd.func10 (by kernel_rfl) rfl #[.slice Ao17 t651.length co17] rfl hq ?_; (with_reducible refine (xM.calls k _ _ t651 t662 t663 _ ?side3 ?side1 ?side2 A5.out).mono ?_); (case side1 => repeat (exact (Kd.zf HO653.out).2.2)); (case side2 => exact (Kd.zf HO653.out).2.1); (case side3 => exact gb HG HB); rintro e w20 ⟨v664, rfl, ho0, hb⟩; refine ⟨_, rfl, ?_⟩; have HO665 := zb.mk (Kd.rlo (Kd.zu (Kd.zu (Kd.zu ho0 (Kd.qg (Kd.rx HO653.out))) (Kd.qg (Kd.rx HO657.out))) (Kd.qg (Kd.rx HO661.out))) HB); replace HO653 := Kd.eld HO653 ho0 hb; replace HX := Kd.eld HX ho0 hb; replace HO657 := Kd.eld HO657 ho0 hb; replace HO661 := Kd.eld HO661 ho0 hb; replace HB := bst HB hb; (try clear hb); (try clear ho0)) | ((with_reducible refine zc (f := 45) rfl ?_); refine zh (some 31) rfl rfl Tryd.func45 (by kernel_rfl) rfl #[.slice A0 l0.length c0] rfl hq ?_; (with_reducible refine (qW.calls k _ _ l0 t666 t667 _ ?side3 ?side1 ?side2 A6.out).mono ?_); (case side1 => exact Kd.cx (Kd.zF HR0.out HB.out)); (case side2 => exact HC0.out); (case side3 => exact gb HG HB); rintro e w21 ⟨v668, rfl, ho0, hb⟩; refine ⟨_, rfl, ?_⟩; have HO669 := zb.mk (Kd.rlo (Kd.zu (Kd.zu (Kd.zu (Kd.zu ho0 (Kd.qg (Kd.rx HO653.out))) (Kd.qg (Kd.rx HO657.out))) (Kd.qg (Kd.rx HO661.out))) (Kd.qg (Kd.rx HO665.out))) HB); replace HO653 := Kd.eld HO653 ho0 hb; replace HX := Kd.eld HX ho0 hb; replace HO657 := Kd.eld HO657 ho0 hb; replace HO661 := Kd.eld HO661 ho0 hb; replace HO665 := Kd.eld HO665 ho0 hb; replace HB := bst HB hb; (try clear hb); (try clear ho0)) | ((with_reducible refine zc (f := 11) rfl ?_); refine zh (some 34) rfl rfl Tryd.func11 (by kernel_rfl) rfl #[] rfl hq ?_; (with_reducible refine (zV.calls k  true _ ?side1 A7.out).mono ?_); (case side1 => exact gb HG HB); rintro e w22 ⟨rfl, hb⟩; refine ⟨_, rfl, ?_⟩; replace HO653 := Kd.rbl HO653 hb; replace HX := Kd.rbl HX hb; replace HO657 := Kd.rbl HO657 hb; replace HO661 := Kd.rbl HO661 hb; replace HO665 := Kd.rbl HO665 hb; replace HO669 := Kd.rbl HO669 hb; replace HB := bst HB hb; (try clear hb); obtain ⟨Ao23, co23, eo23⟩ := Kd.zw HO657.out; subst eo23; obtain ⟨Ao24, co24, eo24⟩ := Kd.zw HO661.out; subst eo24) | (go_at_call 16; (with_reducible refine (zk.calls k _ _ t654 _ _ t658 true _ ?side5 ?side1 ?side2 ?side3 ?side4 A9.out).mono ?_); (case side1 => repeat (exact (Kd.zf HO657.out).2.2)); (case side2 => exact (Kd.zf HO657.out).2.1); (case side3 => repeat (exact (Kd.zf HO661.out).2.2)); (case side4 => exact (Kd.zf HO661.out).2.1); (case side5 => exact gb HG HB); rintro e w' ⟨rfl, ⟨nd, rfl⟩⟩; obtain ⟨Ao25, co25, eo25⟩ := Kd.zw HO665.out; subst eo25; obtain ⟨Ao26, co26, eo26⟩ := Kd.zw HO669.out; subst eo26) | (go_at_call 16; (with_reducible refine (zk.calls k _ _ t662 _ _ t666 true _ ?side5 ?side1 ?side2 ?side3 ?side4 A12.out).mono ?_); (case side1 => repeat (exact (Kd.zf HO665.out).2.2)); (case side2 => exact (Kd.zf HO665.out).2.1); (case side3 => repeat (exact (Kd.zf HO669.out).2.2)); (case side4 => exact (Kd.zf HO669.out).2.1); (case side5 => exact gb HG HB); rintro e w' ⟨rfl, ⟨nd, rfl⟩⟩) | (go_at_call 17; (with_reducible refine (qc.calls k _ _ t651 _ _ l0 t673 _ ?side5 ?side1 ?side2 ?side3 ?side4 ?sideX ?sideY A15.out).mono ?_); (case sideX => repeat (exact (Kd.zf HX.out).2.2)); (case sideY => exact (Kd.zf (d := k34) (xs := t651 ++ [sentS]) HX.out).2.1); (case side1 => repeat (exact (Kd.zf HO653.out).2.2)); (case side2 => exact (Kd.zf HO653.out).2.1); (case side3 => exact Kd.cx (Kd.zF HR0.out HB.out)); (case side4 => exact HC0.out); (case side5 => exact gb HG HB); rintro e w' ⟨rfl, ⟨nd, rfl⟩⟩))
      go_ret
      exact ⟨eq1, bl HB.out⟩
     ·rw [if_neg c14] at H
      have c14b0 := beq_eq_false_iff_ne.mpr c14
      have c14b1 := bne_iff_ne.mpr c14
      obtain rfl := Option.some.inj H
      go_enter Tryd.func23, Tryd.ntmps23
      go_wp2_with (first | ((with_reducible refine zc (f := 13) rfl ?_); refine zh (some 13) rfl rfl Tryd.func13 (by kernel_rfl) rfl #[.slice A0 l0.length c0] rfl hq ?_; (with_reducible refine (zG.calls _ _ l0 t651 _ ?side3 ?side1 ?side2 A2.out).mono ?_); (case side1 => exact Kd.cx HR0.out); (case side2 => exact HC0.out); (case side3 => exact gb HG HB); rintro e w27 ⟨v652, rfl, ho0, hx0, hb⟩; refine ⟨_, rfl, ?_⟩; have HO653 := zb.mk (Kd.rlo ho0 HB); have HX := zb.mk (Kd.rlo hx0 HB); clear hx0; replace HB := bst HB hb; (try clear hb); (try clear ho0); obtain ⟨Ao28, co28, eo28⟩ := Kd.zw HO653.out; subst eo28) | ((with_reducible refine zc (f := 9) rfl ?_); refine zh (some 16) rfl rfl Tryd.func9 (by kernel_rfl) rfl #[.slice Ao28 t651.length co28] rfl hq ?_; (with_reducible refine (xf.calls k _ _ t651 t654 t655 _ ?side3 ?side1 ?side2 A3.out).mono ?_); (case side1 => repeat (exact (Kd.zf HO653.out).2.2)); (case side2 => exact (Kd.zf HO653.out).2.1); (case side3 => exact gb HG HB); rintro e w29 ⟨v656, rfl, ho0, hb⟩; refine ⟨_, rfl, ?_⟩; have HO657 := zb.mk (Kd.rlo (Kd.zu ho0 (Kd.qg (Kd.rx HO653.out))) HB); replace HO653 := Kd.eld HO653 ho0 hb; replace HX := Kd.eld HX ho0 hb; replace HB := bst HB hb; (try clear hb); (try clear ho0)) | ((with_reducible refine zc (f := 44) rfl ?_); refine zh (some 21) rfl rfl Tryd.func44 (by kernel_rfl) rfl #[.slice A0 l0.length c0] rfl hq ?_; (with_reducible refine (qV.calls k _ _ l0 t658 t659 _ ?side3 ?side1 ?side2 A4.out).mono ?_); (case side1 => exact Kd.cx (Kd.zF HR0.out HB.out)); (case side2 => exact HC0.out); (case side3 => exact gb HG HB); rintro e w30 ⟨v660, rfl, ho0, hb⟩; refine ⟨_, rfl, ?_⟩; have HO661 := zb.mk (Kd.rlo (Kd.zu (Kd.zu ho0 (Kd.qg (Kd.rx HO653.out))) (Kd.qg (Kd.rx HO657.out))) HB); replace HO653 := Kd.eld HO653 ho0 hb; replace HX := Kd.eld HX ho0 hb; replace HO657 := Kd.eld HO657 ho0 hb; replace HB := bst HB hb; (try clear hb); (try clear ho0)) | ((with_reducible refine zc (f := 10) rfl ?_); refine zh (some 26) rfl rfl Tryd.func10 (by kernel_rfl) rfl #[.slice Ao28 t651.length co28] rfl hq ?_; (with_reducible refine (xM.calls k _ _ t651 t662 t663 _ ?side3 ?side1 ?side2 A5.out).mono ?_); (case side1 => repeat (exact (Kd.zf HO653.out).2.2)); (case side2 => exact (Kd.zf HO653.out).2.1); (case side3 => exact gb HG HB); rintro e w31 ⟨v664, rfl, ho0, hb⟩; refine ⟨_, rfl, ?_⟩; have HO665 := zb.mk (Kd.rlo (Kd.zu (Kd.zu (Kd.zu ho0 (Kd.qg (Kd.rx HO653.out))) (Kd.qg (Kd.rx HO657.out))) (Kd.qg (Kd.rx HO661.out))) HB); replace HO653 := Kd.eld HO653 ho0 hb; replace HX := Kd.eld HX ho0 hb; replace HO657 := Kd.eld HO657 ho0 hb; replace HO661 := Kd.eld HO661 ho0 hb; replace HB := bst HB hb; (try clear hb); (try clear ho0)) | ((with_reducible refine zc (f := 45) rfl ?_); refine zh (some 31) rfl rfl Tryd.func45 (by kernel_rfl) rfl #[.slice A0 l0.length c0] rfl hq ?_; (with_reducible refine (qW.calls k _ _ l0 t666 t667 _ ?side3 ?side1 ?side2 A6.out).mono ?_); (case side1 => exact Kd.cx (Kd.zF HR0.out HB.out)); (case side2 => exact HC0.out); (case side3 => exact gb HG HB); rintro e w32 ⟨v668, rfl, ho0, hb⟩; refine ⟨_, rfl, ?_⟩; have HO669 := zb.mk (Kd.rlo (Kd.zu (Kd.zu (Kd.zu (Kd.zu ho0 (Kd.qg (Kd.rx HO653.out))) (Kd.qg (Kd.rx HO657.out))) (Kd.qg (Kd.rx HO661.out))) (Kd.qg (Kd.rx HO665.out))) HB); replace HO653 := Kd.eld HO653 ho0 hb; replace HX := Kd.eld HX ho0 hb; replace HO657 := Kd.eld HO657 ho0 hb; replace HO661 := Kd.eld HO661 ho0 hb; replace HO665 := Kd.eld HO665 ho0 hb; replace HB := bst HB hb; (try clear hb); (try clear ho0)) | ((with_reducible refine zc (f := 11) rfl ?_); refine zh (some 34) rfl rfl Tryd.func11 (by kernel_rfl) rfl #[] rfl hq ?_; (with_reducible refine (zV.calls k  true _ ?side1 A7.out).mono ?_); (case side1 => exact gb HG HB); rintro e w33 ⟨rfl, hb⟩; refine ⟨_, rfl, ?_⟩; replace HO653 := Kd.rbl HO653 hb; replace HX := Kd.rbl HX hb; replace HO657 := Kd.rbl HO657 hb; replace HO661 := Kd.rbl HO661 hb; replace HO665 := Kd.rbl HO665 hb; replace HO669 := Kd.rbl HO669 hb; replace HB := bst HB hb; (try clear hb); obtain ⟨Ao34, co34, eo34⟩ := Kd.zw HO657.out; subst eo34; obtain ⟨Ao35, co35, eo35⟩ := Kd.zw HO661.out; subst eo35) | (go_at_call 16; (with_reducible refine (zk.calls k _ _ t654 _ _ t658 true _ ?side5 ?side1 ?side2 ?side3 ?side4 A9.out).mono ?_); (case side1 => repeat (exact (Kd.zf HO657.out).2.2)); (case side2 => exact (Kd.zf HO657.out).2.1); (case side3 => repeat (exact (Kd.zf HO661.out).2.2)); (case side4 => exact (Kd.zf HO661.out).2.1); (case side5 => exact gb HG HB); rintro e w' ⟨rfl, ⟨nd, rfl⟩⟩; obtain ⟨Ao36, co36, eo36⟩ := Kd.zw HO665.out; subst eo36; obtain ⟨Ao37, co37, eo37⟩ := Kd.zw HO669.out; subst eo37) | (go_at_call 16; (with_reducible refine (zk.calls k _ _ t662 _ _ t666 true _ ?side5 ?side1 ?side2 ?side3 ?side4 A12.out).mono ?_); (case side1 => repeat (exact (Kd.zf HO665.out).2.2)); (case side2 => exact (Kd.zf HO665.out).2.1); (case side3 => repeat (exact (Kd.zf HO669.out).2.2)); (case side4 => exact (Kd.zf HO669.out).2.1); (case side5 => exact gb HG HB); rintro e w' ⟨rfl, ⟨nd, rfl⟩⟩))
      go_ret
      exact ⟨eq1, bl HB.out⟩
    ·replace c13 := Bool.eq_false_iff.mpr c13
     subst c13
     replace H := ifF H
     obtain rfl := Option.some.inj H
     go_enter Tryd.func23, Tryd.ntmps23
     go_wp2_with (first | ((with_reducible refine zc (f := 13) rfl ?_); refine zh (some 13) rfl rfl Tryd.func13 (by kernel_rfl) rfl #[.slice A0 l0.length c0] rfl hq ?_; (with_reducible refine (zG.calls _ _ l0 t651 _ ?side3 ?side1 ?side2 A2.out).mono ?_); (case side1 => exact Kd.cx HR0.out); (case side2 => exact HC0.out); (case side3 => exact gb HG HB); rintro e w38 ⟨v652, rfl, ho0, hx0, hb⟩; refine ⟨_, rfl, ?_⟩; have HO653 := zb.mk (Kd.rlo ho0 HB); have HX := zb.mk (Kd.rlo hx0 HB); clear hx0; replace HB := bst HB hb; (try clear hb); (try clear ho0); obtain ⟨Ao39, co39, eo39⟩ := Kd.zw HO653.out; subst eo39) | ((with_reducible refine zc (f := 9) rfl ?_); refine zh (some 16) rfl rfl Tryd.func9 (by kernel_rfl) rfl #[.slice Ao39 t651.length co39] rfl hq ?_; (with_reducible refine (xf.calls k _ _ t651 t654 t655 _ ?side3 ?side1 ?side2 A3.out).mono ?_); (case side1 => repeat (exact (Kd.zf HO653.out).2.2)); (case side2 => exact (Kd.zf HO653.out).2.1); (case side3 => exact gb HG HB); rintro e w40 ⟨v656, rfl, ho0, hb⟩; refine ⟨_, rfl, ?_⟩; have HO657 := zb.mk (Kd.rlo (Kd.zu ho0 (Kd.qg (Kd.rx HO653.out))) HB); replace HO653 := Kd.eld HO653 ho0 hb; replace HX := Kd.eld HX ho0 hb; replace HB := bst HB hb; (try clear hb); (try clear ho0)) | ((with_reducible refine zc (f := 44) rfl ?_); refine zh (some 21) rfl rfl Tryd.func44 (by kernel_rfl) rfl #[.slice A0 l0.length c0] rfl hq ?_; (with_reducible refine (qV.calls k _ _ l0 t658 t659 _ ?side3 ?side1 ?side2 A4.out).mono ?_); (case side1 => exact Kd.cx (Kd.zF HR0.out HB.out)); (case side2 => exact HC0.out); (case side3 => exact gb HG HB); rintro e w41 ⟨v660, rfl, ho0, hb⟩; refine ⟨_, rfl, ?_⟩; have HO661 := zb.mk (Kd.rlo (Kd.zu (Kd.zu ho0 (Kd.qg (Kd.rx HO653.out))) (Kd.qg (Kd.rx HO657.out))) HB); replace HO653 := Kd.eld HO653 ho0 hb; replace HX := Kd.eld HX ho0 hb; replace HO657 := Kd.eld HO657 ho0 hb; replace HB := bst HB hb; (try clear hb); (try clear ho0)) | ((with_reducible refine zc (f := 10) rfl ?_); refine zh (some 26) rfl rfl Tryd.func10 (by kernel_rfl) rfl #[.slice Ao39 t651.length co39] rfl hq ?_; (with_reducible refine (xM.calls k _ _ t651 t662 t663 _ ?side3 ?side1 ?side2 A5.out).mono ?_); (case side1 => repeat (exact (Kd.zf HO653.out).2.2)); (case side2 => exact (Kd.zf HO653.out).2.1); (case side3 => exact gb HG HB); rintro e w42 ⟨v664, rfl, ho0, hb⟩; refine ⟨_, rfl, ?_⟩; have HO665 := zb.mk (Kd.rlo (Kd.zu (Kd.zu (Kd.zu ho0 (Kd.qg (Kd.rx HO653.out))) (Kd.qg (Kd.rx HO657.out))) (Kd.qg (Kd.rx HO661.out))) HB); replace HO653 := Kd.eld HO653 ho0 hb; replace HX := Kd.eld HX ho0 hb; replace HO657 := Kd.eld HO657 ho0 hb; replace HO661 := Kd.eld HO661 ho0 hb; replace HB := bst HB hb; (try clear hb); (try clear ho0)) | ((with_reducible refine zc (f := 45) rfl ?_); refine zh (some 31) rfl rfl Tryd.func45 (by kernel_rfl) rfl #[.slice A0 l0.length c0] rfl hq ?_; (with_reducible refine (qW.calls k _ _ l0 t666 t667 _ ?side3 ?side1 ?side2 A6.out).mono ?_); (case side1 => exact Kd.cx (Kd.zF HR0.out HB.out)); (case side2 => exact HC0.out); (case side3 => exact gb HG HB); rintro e w43 ⟨v668, rfl, ho0, hb⟩; refine ⟨_, rfl, ?_⟩; have HO669 := zb.mk (Kd.rlo (Kd.zu (Kd.zu (Kd.zu (Kd.zu ho0 (Kd.qg (Kd.rx HO653.out))) (Kd.qg (Kd.rx HO657.out))) (Kd.qg (Kd.rx HO661.out))) (Kd.qg (Kd.rx HO665.out))) HB); replace HO653 := Kd.eld HO653 ho0 hb; replace HX := Kd.eld HX ho0 hb; replace HO657 := Kd.eld HO657 ho0 hb; replace HO661 := Kd.eld HO661 ho0 hb; replace HO665 := Kd.eld HO665 ho0 hb; replace HB := bst HB hb; (try clear hb); (try clear ho0)) | ((with_reducible refine zc (f := 11) rfl ?_); refine zh (some 34) rfl rfl Tryd.func11 (by kernel_rfl) rfl #[] rfl hq ?_; (with_reducible refine (zV.calls k  true _ ?side1 A7.out).mono ?_); (case side1 => exact gb HG HB); rintro e w44 ⟨rfl, hb⟩; refine ⟨_, rfl, ?_⟩; replace HO653 := Kd.rbl HO653 hb; replace HX := Kd.rbl HX hb; replace HO657 := Kd.rbl HO657 hb; replace HO661 := Kd.rbl HO661 hb; replace HO665 := Kd.rbl HO665 hb; replace HO669 := Kd.rbl HO669 hb; replace HB := bst HB hb; (try clear hb); obtain ⟨Ao45, co45, eo45⟩ := Kd.zw HO657.out; subst eo45; obtain ⟨Ao46, co46, eo46⟩ := Kd.zw HO661.out; subst eo46) | (go_at_call 16; (with_reducible refine (zk.calls k _ _ t654 _ _ t658 true _ ?side5 ?side1 ?side2 ?side3 ?side4 A9.out).mono ?_); (case side1 => repeat (exact (Kd.zf HO657.out).2.2)); (case side2 => exact (Kd.zf HO657.out).2.1); (case side3 => repeat (exact (Kd.zf HO661.out).2.2)); (case side4 => exact (Kd.zf HO661.out).2.1); (case side5 => exact gb HG HB); rintro e w' ⟨rfl, ⟨nd, rfl⟩⟩; obtain ⟨Ao47, co47, eo47⟩ := Kd.zw HO665.out; subst eo47; obtain ⟨Ao48, co48, eo48⟩ := Kd.zw HO669.out; subst eo48) | (go_at_call 16; (with_reducible refine (zk.calls k _ _ t662 _ _ t666 false _ ?side5 ?side1 ?side2 ?side3 ?side4 A12.out).mono ?_); (case side1 => repeat (exact (Kd.zf HO665.out).2.2)); (case side2 => exact (Kd.zf HO665.out).2.1); (case side3 => repeat (exact (Kd.zf HO669.out).2.2)); (case side4 => exact (Kd.zf HO669.out).2.1); (case side5 => exact gb HG HB); rintro e w' ⟨rfl, ⟨nd, rfl⟩⟩))
     go_ret
     exact ⟨eq1, bl HB.out⟩
   ·rw [if_neg c11] at H
    have c11b0 := beq_eq_false_iff_ne.mpr c11
    have c11b1 := bne_iff_ne.mpr c11
    obtain rfl := Option.some.inj H
    go_enter Tryd.func23, Tryd.ntmps23
    go_wp2_with (first | ((with_reducible refine zc (f := 13) rfl ?_); refine zh (some 13) rfl rfl Tryd.func13 (by kernel_rfl) rfl #[.slice A0 l0.length c0] rfl hq ?_; (with_reducible refine (zG.calls _ _ l0 t651 _ ?side3 ?side1 ?side2 A2.out).mono ?_); (case side1 => exact Kd.cx HR0.out); (case side2 => exact HC0.out); (case side3 => exact gb HG HB); rintro e w49 ⟨v652, rfl, ho0, hx0, hb⟩; refine ⟨_, rfl, ?_⟩; have HO653 := zb.mk (Kd.rlo ho0 HB); have HX := zb.mk (Kd.rlo hx0 HB); clear hx0; replace HB := bst HB hb; (try clear hb); (try clear ho0); obtain ⟨Ao50, co50, eo50⟩ := Kd.zw HO653.out; subst eo50) | ((with_reducible refine zc (f := 9) rfl ?_); refine zh (some 16) rfl rfl Tryd.func9 (by kernel_rfl) rfl #[.slice Ao50 t651.length co50] rfl hq ?_; (with_reducible refine (xf.calls k _ _ t651 t654 t655 _ ?side3 ?side1 ?side2 A3.out).mono ?_); (case side1 => repeat (exact (Kd.zf HO653.out).2.2)); (case side2 => exact (Kd.zf HO653.out).2.1); (case side3 => exact gb HG HB); rintro e w51 ⟨v656, rfl, ho0, hb⟩; refine ⟨_, rfl, ?_⟩; have HO657 := zb.mk (Kd.rlo (Kd.zu ho0 (Kd.qg (Kd.rx HO653.out))) HB); replace HO653 := Kd.eld HO653 ho0 hb; replace HX := Kd.eld HX ho0 hb; replace HB := bst HB hb; (try clear hb); (try clear ho0)) | ((with_reducible refine zc (f := 44) rfl ?_); refine zh (some 21) rfl rfl Tryd.func44 (by kernel_rfl) rfl #[.slice A0 l0.length c0] rfl hq ?_; (with_reducible refine (qV.calls k _ _ l0 t658 t659 _ ?side3 ?side1 ?side2 A4.out).mono ?_); (case side1 => exact Kd.cx (Kd.zF HR0.out HB.out)); (case side2 => exact HC0.out); (case side3 => exact gb HG HB); rintro e w52 ⟨v660, rfl, ho0, hb⟩; refine ⟨_, rfl, ?_⟩; have HO661 := zb.mk (Kd.rlo (Kd.zu (Kd.zu ho0 (Kd.qg (Kd.rx HO653.out))) (Kd.qg (Kd.rx HO657.out))) HB); replace HO653 := Kd.eld HO653 ho0 hb; replace HX := Kd.eld HX ho0 hb; replace HO657 := Kd.eld HO657 ho0 hb; replace HB := bst HB hb; (try clear hb); (try clear ho0)) | ((with_reducible refine zc (f := 10) rfl ?_); refine zh (some 26) rfl rfl Tryd.func10 (by kernel_rfl) rfl #[.slice Ao50 t651.length co50] rfl hq ?_; (with_reducible refine (xM.calls k _ _ t651 t662 t663 _ ?side3 ?side1 ?side2 A5.out).mono ?_); (case side1 => repeat (exact (Kd.zf HO653.out).2.2)); (case side2 => exact (Kd.zf HO653.out).2.1); (case side3 => exact gb HG HB); rintro e w53 ⟨v664, rfl, ho0, hb⟩; refine ⟨_, rfl, ?_⟩; have HO665 := zb.mk (Kd.rlo (Kd.zu (Kd.zu (Kd.zu ho0 (Kd.qg (Kd.rx HO653.out))) (Kd.qg (Kd.rx HO657.out))) (Kd.qg (Kd.rx HO661.out))) HB); replace HO653 := Kd.eld HO653 ho0 hb; replace HX := Kd.eld HX ho0 hb; replace HO657 := Kd.eld HO657 ho0 hb; replace HO661 := Kd.eld HO661 ho0 hb; replace HB := bst HB hb; (try clear hb); (try clear ho0)) | ((with_reducible refine zc (f := 45) rfl ?_); refine zh (some 31) rfl rfl Tryd.func45 (by kernel_rfl) rfl #[.slice A0 l0.length c0] rfl hq ?_; (with_reducible refine (qW.calls k _ _ l0 t666 t667 _ ?side3 ?side1 ?side2 A6.out).mono ?_); (case side1 => exact Kd.cx (Kd.zF HR0.out HB.out)); (case side2 => exact HC0.out); (case side3 => exact gb HG HB); rintro e w54 ⟨v668, rfl, ho0, hb⟩; refine ⟨_, rfl, ?_⟩; have HO669 := zb.mk (Kd.rlo (Kd.zu (Kd.zu (Kd.zu (Kd.zu ho0 (Kd.qg (Kd.rx HO653.out))) (Kd.qg (Kd.rx HO657.out))) (Kd.qg (Kd.rx HO661.out))) (Kd.qg (Kd.rx HO665.out))) HB); replace HO653 := Kd.eld HO653 ho0 hb; replace HX := Kd.eld HX ho0 hb; replace HO657 := Kd.eld HO657 ho0 hb; replace HO661 := Kd.eld HO661 ho0 hb; replace HO665 := Kd.eld HO665 ho0 hb; replace HB := bst HB hb; (try clear hb); (try clear ho0)) | ((with_reducible refine zc (f := 11) rfl ?_); refine zh (some 34) rfl rfl Tryd.func11 (by kernel_rfl) rfl #[] rfl hq ?_; (with_reducible refine (zV.calls k  true _ ?side1 A7.out).mono ?_); (case side1 => exact gb HG HB); rintro e w55 ⟨rfl, hb⟩; refine ⟨_, rfl, ?_⟩; replace HO653 := Kd.rbl HO653 hb; replace HX := Kd.rbl HX hb; replace HO657 := Kd.rbl HO657 hb; replace HO661 := Kd.rbl HO661 hb; replace HO665 := Kd.rbl HO665 hb; replace HO669 := Kd.rbl HO669 hb; replace HB := bst HB hb; (try clear hb); obtain ⟨Ao56, co56, eo56⟩ := Kd.zw HO657.out; subst eo56; obtain ⟨Ao57, co57, eo57⟩ := Kd.zw HO661.out; subst eo57) | (go_at_call 16; (with_reducible refine (zk.calls k _ _ t654 _ _ t658 true _ ?side5 ?side1 ?side2 ?side3 ?side4 A9.out).mono ?_); (case side1 => repeat (exact (Kd.zf HO657.out).2.2)); (case side2 => exact (Kd.zf HO657.out).2.1); (case side3 => repeat (exact (Kd.zf HO661.out).2.2)); (case side4 => exact (Kd.zf HO661.out).2.1); (case side5 => exact gb HG HB); rintro e w' ⟨rfl, ⟨nd, rfl⟩⟩))
    go_ret
    exact ⟨eq1, bl HB.out⟩
  ·replace c10 := Bool.eq_false_iff.mpr c10
   subst c10
   replace H := ifF H
   obtain rfl := Option.some.inj H
   go_enter Tryd.func23, Tryd.ntmps23
   go_wp2_with (first | ((with_reducible refine zc (f := 13) rfl ?_); refine zh (some 13) rfl rfl Tryd.func13 (by kernel_rfl) rfl #[.slice A0 l0.length c0] rfl hq ?_; (with_reducible refine (zG.calls _ _ l0 t651 _ ?side3 ?side1 ?side2 A2.out).mono ?_); (case side1 => exact Kd.cx HR0.out); (case side2 => exact HC0.out); (case side3 => exact gb HG HB); rintro e w58 ⟨v652, rfl, ho0, hx0, hb⟩; refine ⟨_, rfl, ?_⟩; have HO653 := zb.mk (Kd.rlo ho0 HB); have HX := zb.mk (Kd.rlo hx0 HB); clear hx0; replace HB := bst HB hb; (try clear hb); (try clear ho0); obtain ⟨Ao59, co59, eo59⟩ := Kd.zw HO653.out; subst eo59) | ((with_reducible refine zc (f := 9) rfl ?_); refine zh (some 16) rfl rfl Tryd.func9 (by kernel_rfl) rfl #[.slice Ao59 t651.length co59] rfl hq ?_; (with_reducible refine (xf.calls k _ _ t651 t654 t655 _ ?side3 ?side1 ?side2 A3.out).mono ?_); (case side1 => repeat (exact (Kd.zf HO653.out).2.2)); (case side2 => exact (Kd.zf HO653.out).2.1); (case side3 => exact gb HG HB); rintro e w60 ⟨v656, rfl, ho0, hb⟩; refine ⟨_, rfl, ?_⟩; have HO657 := zb.mk (Kd.rlo (Kd.zu ho0 (Kd.qg (Kd.rx HO653.out))) HB); replace HO653 := Kd.eld HO653 ho0 hb; replace HX := Kd.eld HX ho0 hb; replace HB := bst HB hb; (try clear hb); (try clear ho0)) | ((with_reducible refine zc (f := 44) rfl ?_); refine zh (some 21) rfl rfl Tryd.func44 (by kernel_rfl) rfl #[.slice A0 l0.length c0] rfl hq ?_; (with_reducible refine (qV.calls k _ _ l0 t658 t659 _ ?side3 ?side1 ?side2 A4.out).mono ?_); (case side1 => exact Kd.cx (Kd.zF HR0.out HB.out)); (case side2 => exact HC0.out); (case side3 => exact gb HG HB); rintro e w61 ⟨v660, rfl, ho0, hb⟩; refine ⟨_, rfl, ?_⟩; have HO661 := zb.mk (Kd.rlo (Kd.zu (Kd.zu ho0 (Kd.qg (Kd.rx HO653.out))) (Kd.qg (Kd.rx HO657.out))) HB); replace HO653 := Kd.eld HO653 ho0 hb; replace HX := Kd.eld HX ho0 hb; replace HO657 := Kd.eld HO657 ho0 hb; replace HB := bst HB hb; (try clear hb); (try clear ho0)) | ((with_reducible refine zc (f := 10) rfl ?_); refine zh (some 26) rfl rfl Tryd.func10 (by kernel_rfl) rfl #[.slice Ao59 t651.length co59] rfl hq ?_; (with_reducible refine (xM.calls k _ _ t651 t662 t663 _ ?side3 ?side1 ?side2 A5.out).mono ?_); (case side1 => repeat (exact (Kd.zf HO653.out).2.2)); (case side2 => exact (Kd.zf HO653.out).2.1); (case side3 => exact gb HG HB); rintro e w62 ⟨v664, rfl, ho0, hb⟩; refine ⟨_, rfl, ?_⟩; have HO665 := zb.mk (Kd.rlo (Kd.zu (Kd.zu (Kd.zu ho0 (Kd.qg (Kd.rx HO653.out))) (Kd.qg (Kd.rx HO657.out))) (Kd.qg (Kd.rx HO661.out))) HB); replace HO653 := Kd.eld HO653 ho0 hb; replace HX := Kd.eld HX ho0 hb; replace HO657 := Kd.eld HO657 ho0 hb; replace HO661 := Kd.eld HO661 ho0 hb; replace HB := bst HB hb; (try clear hb); (try clear ho0)) | ((with_reducible refine zc (f := 45) rfl ?_); refine zh (some 31) rfl rfl Tryd.func45 (by kernel_rfl) rfl #[.slice A0 l0.length c0] rfl hq ?_; (with_reducible refine (qW.calls k _ _ l0 t666 t667 _ ?side3 ?side1 ?side2 A6.out).mono ?_); (case side1 => exact Kd.cx (Kd.zF HR0.out HB.out)); (case side2 => exact HC0.out); (case side3 => exact gb HG HB); rintro e w63 ⟨v668, rfl, ho0, hb⟩; refine ⟨_, rfl, ?_⟩; have HO669 := zb.mk (Kd.rlo (Kd.zu (Kd.zu (Kd.zu (Kd.zu ho0 (Kd.qg (Kd.rx HO653.out))) (Kd.qg (Kd.rx HO657.out))) (Kd.qg (Kd.rx HO661.out))) (Kd.qg (Kd.rx HO665.out))) HB); replace HO653 := Kd.eld HO653 ho0 hb; replace HX := Kd.eld HX ho0 hb; replace HO657 := Kd.eld HO657 ho0 hb; replace HO661 := Kd.eld HO661 ho0 hb; replace HO665 := Kd.eld HO665 ho0 hb; replace HB := bst HB hb; (try clear hb); (try clear ho0)) | ((with_reducible refine zc (f := 11) rfl ?_); refine zh (some 34) rfl rfl Tryd.func11 (by kernel_rfl) rfl #[] rfl hq ?_; (with_reducible refine (zV.calls k  true _ ?side1 A7.out).mono ?_); (case side1 => exact gb HG HB); rintro e w64 ⟨rfl, hb⟩; refine ⟨_, rfl, ?_⟩; replace HO653 := Kd.rbl HO653 hb; replace HX := Kd.rbl HX hb; replace HO657 := Kd.rbl HO657 hb; replace HO661 := Kd.rbl HO661 hb; replace HO665 := Kd.rbl HO665 hb; replace HO669 := Kd.rbl HO669 hb; replace HB := bst HB hb; (try clear hb); obtain ⟨Ao65, co65, eo65⟩ := Kd.zw HO657.out; subst eo65; obtain ⟨Ao66, co66, eo66⟩ := Kd.zw HO661.out; subst eo66) | (go_at_call 16; (with_reducible refine (zk.calls k _ _ t654 _ _ t658 false _ ?side5 ?side1 ?side2 ?side3 ?side4 A9.out).mono ?_); (case side1 => repeat (exact (Kd.zf HO657.out).2.2)); (case side2 => exact (Kd.zf HO657.out).2.1); (case side3 => repeat (exact (Kd.zf HO661.out).2.2)); (case side4 => exact (Kd.zf HO661.out).2.1); (case side5 => exact gb HG HB); rintro e w' ⟨rfl, ⟨nd, rfl⟩⟩))
   go_ret
   exact ⟨eq1, bl HB.out⟩
 ·replace c8 := Bool.eq_false_iff.mpr c8
  subst c8
  replace H := ifF H
  obtain rfl := Option.some.inj H
  go_enter Tryd.func23, Tryd.ntmps23
  go_wp2_with (first | ((with_reducible refine zc (f := 13) rfl ?_); refine zh (some 13) rfl rfl Tryd.func13 (by kernel_rfl) rfl #[.slice A0 l0.length c0] rfl hq ?_; (with_reducible refine (zG.calls _ _ l0 t651 _ ?side3 ?side1 ?side2 A2.out).mono ?_); (case side1 => exact Kd.cx HR0.out); (case side2 => exact HC0.out); (case side3 => exact gb HG HB); rintro e w67 ⟨v652, rfl, ho0, hx0, hb⟩; refine ⟨_, rfl, ?_⟩; have HO653 := zb.mk (Kd.rlo ho0 HB); have HX := zb.mk (Kd.rlo hx0 HB); clear hx0; replace HB := bst HB hb; (try clear hb); (try clear ho0); obtain ⟨Ao68, co68, eo68⟩ := Kd.zw HO653.out; subst eo68) | ((with_reducible refine zc (f := 9) rfl ?_); refine zh (some 16) rfl rfl Tryd.func9 (by kernel_rfl) rfl #[.slice Ao68 t651.length co68] rfl hq ?_; (with_reducible refine (xf.calls k _ _ t651 t654 t655 _ ?side3 ?side1 ?side2 A3.out).mono ?_); (case side1 => repeat (exact (Kd.zf HO653.out).2.2)); (case side2 => exact (Kd.zf HO653.out).2.1); (case side3 => exact gb HG HB); rintro e w69 ⟨v656, rfl, ho0, hb⟩; refine ⟨_, rfl, ?_⟩; have HO657 := zb.mk (Kd.rlo (Kd.zu ho0 (Kd.qg (Kd.rx HO653.out))) HB); replace HO653 := Kd.eld HO653 ho0 hb; replace HX := Kd.eld HX ho0 hb; replace HB := bst HB hb; (try clear hb); (try clear ho0)) | ((with_reducible refine zc (f := 44) rfl ?_); refine zh (some 21) rfl rfl Tryd.func44 (by kernel_rfl) rfl #[.slice A0 l0.length c0] rfl hq ?_; (with_reducible refine (qV.calls k _ _ l0 t658 t659 _ ?side3 ?side1 ?side2 A4.out).mono ?_); (case side1 => exact Kd.cx (Kd.zF HR0.out HB.out)); (case side2 => exact HC0.out); (case side3 => exact gb HG HB); rintro e w70 ⟨v660, rfl, ho0, hb⟩; refine ⟨_, rfl, ?_⟩; have HO661 := zb.mk (Kd.rlo (Kd.zu (Kd.zu ho0 (Kd.qg (Kd.rx HO653.out))) (Kd.qg (Kd.rx HO657.out))) HB); replace HO653 := Kd.eld HO653 ho0 hb; replace HX := Kd.eld HX ho0 hb; replace HO657 := Kd.eld HO657 ho0 hb; replace HB := bst HB hb; (try clear hb); (try clear ho0)) | ((with_reducible refine zc (f := 10) rfl ?_); refine zh (some 26) rfl rfl Tryd.func10 (by kernel_rfl) rfl #[.slice Ao68 t651.length co68] rfl hq ?_; (with_reducible refine (xM.calls k _ _ t651 t662 t663 _ ?side3 ?side1 ?side2 A5.out).mono ?_); (case side1 => repeat (exact (Kd.zf HO653.out).2.2)); (case side2 => exact (Kd.zf HO653.out).2.1); (case side3 => exact gb HG HB); rintro e w71 ⟨v664, rfl, ho0, hb⟩; refine ⟨_, rfl, ?_⟩; have HO665 := zb.mk (Kd.rlo (Kd.zu (Kd.zu (Kd.zu ho0 (Kd.qg (Kd.rx HO653.out))) (Kd.qg (Kd.rx HO657.out))) (Kd.qg (Kd.rx HO661.out))) HB); replace HO653 := Kd.eld HO653 ho0 hb; replace HX := Kd.eld HX ho0 hb; replace HO657 := Kd.eld HO657 ho0 hb; replace HO661 := Kd.eld HO661 ho0 hb; replace HB := bst HB hb; (try clear hb); (try clear ho0)) | ((with_reducible refine zc (f := 45) rfl ?_); refine zh (some 31) rfl rfl Tryd.func45 (by kernel_rfl) rfl #[.slice A0 l0.length c0] rfl hq ?_; (with_reducible refine (qW.calls k _ _ l0 t666 t667 _ ?side3 ?side1 ?side2 A6.out).mono ?_); (case side1 => exact Kd.cx (Kd.zF HR0.out HB.out)); (case side2 => exact HC0.out); (case side3 => exact gb HG HB); rintro e w72 ⟨v668, rfl, ho0, hb⟩; refine ⟨_, rfl, ?_⟩; have HO669 := zb.mk (Kd.rlo (Kd.zu (Kd.zu (Kd.zu (Kd.zu ho0 (Kd.qg (Kd.rx HO653.out))) (Kd.qg (Kd.rx HO657.out))) (Kd.qg (Kd.rx HO661.out))) (Kd.qg (Kd.rx HO665.out))) HB); replace HO653 := Kd.eld HO653 ho0 hb; replace HX := Kd.eld HX ho0 hb; replace HO657 := Kd.eld HO657 ho0 hb; replace HO661 := Kd.eld HO661 ho0 hb; replace HO665 := Kd.eld HO665 ho0 hb; replace HB := bst HB hb; (try clear hb); (try clear ho0)) | ((with_reducible refine zc (f := 11) rfl ?_); refine zh (some 34) rfl rfl Tryd.func11 (by kernel_rfl) rfl #[] rfl hq ?_; (with_reducible refine (zV.calls k  false _ ?side1 A7.out).mono ?_); (case side1 => exact gb HG HB); rintro e w73 ⟨rfl, hb⟩; refine ⟨_, rfl, ?_⟩; replace HO653 := Kd.rbl HO653 hb; replace HX := Kd.rbl HX hb; replace HO657 := Kd.rbl HO657 hb; replace HO661 := Kd.rbl HO661 hb; replace HO665 := Kd.rbl HO665 hb; replace HO669 := Kd.rbl HO669 hb; replace HB := bst HB hb; (try clear hb)))
  go_ret
  exact ⟨eq1, bl HB.out⟩
def qb.l0 : Nat → List (S34) → Int → List (S34) → Int → Option (Bool)
 | 0, _, _, _, _ => none
 | k + 1, x0, x1, x5, x6 => if x6 < 2 then ((xD.f k x5).bind fun bt677 => ((zN.f k bt677.1 (-3)).bind fun _ => ((xo.f k x5).bind fun bt681 => ((zN.f k bt681.1 (-4)).bind fun _ => ((xf.f k x5).bind fun bt685 => ((zN.f k bt685.1 (-5)).bind fun _ => ((xM.f k x5).bind fun bt689 => ((zN.f k bt689.1 (-6)).bind fun _ => ((qf.f k x5 x1).bind fun bt693 => ((zN.f k bt693.1 (-7)).bind fun _ => (qb.l0 k x0 x1 x5 (wrap64 (x6 + 1))))))))))))) else ((qT.f k x0).bind fun t697 => (if t697 = true then ((xe.f k x0).bind fun t698 => (if t698 = true then ((xj.f k x0 x1).bind fun t699 => (if t699 = true then ((qc.f k x5 x0).bind fun t700 => (some t700)) else (some false))) else (some false))) else (some false)))
def qb.f (k : Nat) (l0 : List (S34)) (a1 : Int) : Option (Bool) := (zG.f l0).bind fun t674 => (qb.l0 k l0 a1 t674 0)
theorem qb.calls (k : Nat) (A0 : Option Addr) (c0 : Nat) (l0 : List (S34)) (a1 : Int) (r : Bool) (w : World) (hG : GW w) (hr0 : Kd.C k34 w A0 l0.length l0) (hc0 : l0.length ≤ c0) (h : qb.f k l0 a1 = some r) :
  Calls Tryd.prog 6 #[.slice A0 l0.length c0, .int .i64 a1] w fun e w' => e = .returned (.bool r) ∧ Below w.heap.size w w' := by
 have HR0 := zb.mk hr0
 have HC0 := zb.mk hc0
 clear hr0 hc0
 have HG := zb.mk hG
 clear hG
 have HB := zb.mk (Below.refl w.heap.size w)
 have H : ((zG.f l0).bind fun t674 => (qb.l0 k l0 a1 t674 0)) = some r := h
 clear h
 replace H := zO H; obtain ⟨t674, A3, H⟩ := H
 have H' := zb.mk H
 clear H
 go_enter Tryd.func6, Tryd.ntmps6
 go_wp2_with (((with_reducible refine zc (f := 13) rfl ?_); refine zh (some 18) rfl rfl Tryd.func13 (by kernel_rfl) rfl #[.slice A0 l0.length c0] rfl hq ?_; (with_reducible refine (zG.calls _ _ l0 t674 _ ?side3 ?side1 ?side2 A3.out).mono ?_); (case side1 => exact Kd.cx HR0.out); (case side2 => exact HC0.out); (case side3 => exact gb HG HB); rintro e w4 ⟨v675, rfl, ho0, hx0, hb⟩; refine ⟨_, rfl, ?_⟩; have HO676 := zb.mk (Kd.rlo ho0 HB); have HX := zb.mk (Kd.rlo hx0 HB); clear hx0; replace HB := bst HB hb; (try clear hb); (try clear ho0)))
 go_loopg [6] k (fun kq v6 w' => ∃ (x6_1 : Int), v6 = .int .i64 x6_1 ∧ zb (qb.l0 kq l0 a1 t674 x6_1 = some r) ∧ zb (kq ≤ k) ∧ zb (Kd.R k34 34 w' w.heap.size (fun _ => True) v675 t674) ∧ zb (Kd.R k34 34 w' w.heap.size (fun _ => True) (moreOf v675) (t674 ++ [sentS])) ∧ zb (Below w.heap.size w w'))
 case atStart => exact ⟨(0), eq0, H', ⟨Nat.le_refl _⟩, ⟨Kd.rx HO676.out⟩, ⟨Kd.rx HX.out⟩, ⟨bl HB.out⟩⟩
 case round =>
  clear H'
  obtain ⟨x6_1, rfl, HA, HK1, HO_5, HX, HB⟩ := hrel
  cases gk with
  | zero => exact absurd HA.out (by simp [qb.l0])
  | succ k1 =>
   have H := HA.out
   clear HA
   simp only [qb.l0] at H
   by_cases c5 : x6_1 < 2
   ·rw [if_pos c5] at H
    have c5b0 := decide_eq_true c5
    clear c5
    replace H := zO H; obtain ⟨⟨t677, t678⟩, A6, H⟩ := H; try dsimp only at H
    replace H := zO H; obtain ⟨_, A7, H⟩ := H
    replace H := zO H; obtain ⟨⟨t681, t682⟩, A8, H⟩ := H; try dsimp only at H
    replace H := zO H; obtain ⟨_, A9, H⟩ := H
    replace H := zO H; obtain ⟨⟨t685, t686⟩, A10, H⟩ := H; try dsimp only at H
    replace H := zO H; obtain ⟨_, A11, H⟩ := H
    replace H := zO H; obtain ⟨⟨t689, t690⟩, A12, H⟩ := H; try dsimp only at H
    replace H := zO H; obtain ⟨_, A13, H⟩ := H
    replace H := zO H; obtain ⟨⟨t693, t694⟩, A14, H⟩ := H; try dsimp only at H
    replace H := zO H; obtain ⟨_, A15, H⟩ := H
    have H' := zb.mk H
    clear H
    obtain ⟨Ao16, co16, eo16⟩ := Kd.zw HO_5.out
    subst eo16
    go_wp2_with (first | ((with_reducible refine zc (f := 7) rfl ?_); refine zh (some 25) rfl rfl Tryd.func7 (by kernel_rfl) rfl #[.slice Ao16 t674.length co16] rfl hq ?_; (with_reducible refine (xD.calls k1 _ _ t674 t677 t678 _ ?side3 ?side1 ?side2 A6.out).mono ?_); (case side1 => repeat (exact (Kd.zf HO_5.out).2.2)); (case side2 => exact (Kd.zf HO_5.out).2.1); (case side3 => exact gb HG HB); rintro e w17 ⟨v679, rfl, ho0, hb⟩; refine ⟨_, rfl, ?_⟩; have HO680 := zb.mk (Kd.rlo (Kd.zu ho0 (Kd.qg (Kd.rx HO_5.out))) HB); replace HO_5 := Kd.eld HO_5 ho0 hb; replace HX := Kd.eld HX ho0 hb; replace HB := bst HB hb; (try clear hb); (try clear ho0); obtain ⟨Ao18, co18, eo18⟩ := Kd.zw HO680.out; subst eo18) | ((with_reducible refine zc (f := 21) rfl ?_); refine zh (some 29) rfl rfl Tryd.func21 (by kernel_rfl) rfl #[.slice Ao18 t677.length co18, .int .i64 (-3)] rfl hq ?_; (with_reducible refine (zN.calls k1 (fun k_ => some k_ = (.slice Ao18 t677.length co18 : Value).ownBlock) (.slice Ao18 t677.length co18) t677 (-3)  w _ HG.out ?side1 ?side2 A7.out).mono ?_); (case side1 => repeat ((with_reducible exact HB.out))); (case side2 => exact Kd.jz rfl HO680.out); rintro e w19 ⟨rfl, hb, hkp⟩; refine ⟨_, rfl, ?_⟩; replace HO_5 := zb.mk (Kd.zH (ok' := fun k_ => True) (Kd.R_keptB (HO_5.out) hkp (fun k_ hk_ hs_ => (hk_.2) hs_)) (fun k_ hk_ => trivial)); replace HX := zb.mk (Kd.zH (ok' := fun k_ => True) (Kd.R_keptB (HX.out) hkp (fun k_ hk_ hs_ => (hk_.2) hs_)) (fun k_ hk_ => trivial)); replace HB := zb.mk (hb); clear HO680; (try clear hb); (try clear hkp)) | ((with_reducible refine zc (f := 8) rfl ?_); refine zh (some 32) rfl rfl Tryd.func8 (by kernel_rfl) rfl #[.slice Ao16 t674.length co16] rfl hq ?_; (with_reducible refine (xo.calls k1 _ _ t674 t681 t682 _ ?side3 ?side1 ?side2 A8.out).mono ?_); (case side1 => repeat (exact (Kd.zf HO_5.out).2.2)); (case side2 => exact (Kd.zf HO_5.out).2.1); (case side3 => exact gb HG HB); rintro e w20 ⟨v683, rfl, ho0, hb⟩; refine ⟨_, rfl, ?_⟩; have HO684 := zb.mk (Kd.rlo (Kd.zu ho0 (Kd.qg (Kd.rx HO_5.out))) HB); replace HO_5 := Kd.eld HO_5 ho0 hb; replace HX := Kd.eld HX ho0 hb; replace HB := bst HB hb; (try clear hb); (try clear ho0); obtain ⟨Ao21, co21, eo21⟩ := Kd.zw HO684.out; subst eo21) | ((with_reducible refine zc (f := 21) rfl ?_); refine zh (some 36) rfl rfl Tryd.func21 (by kernel_rfl) rfl #[.slice Ao21 t681.length co21, .int .i64 (-4)] rfl hq ?_; (with_reducible refine (zN.calls k1 (fun k_ => some k_ = (.slice Ao21 t681.length co21 : Value).ownBlock) (.slice Ao21 t681.length co21) t681 (-4)  w _ HG.out ?side1 ?side2 A9.out).mono ?_); (case side1 => repeat ((with_reducible exact HB.out))); (case side2 => exact Kd.jz rfl HO684.out); rintro e w22 ⟨rfl, hb, hkp⟩; refine ⟨_, rfl, ?_⟩; replace HO_5 := zb.mk (Kd.zH (ok' := fun k_ => True) (Kd.R_keptB (HO_5.out) hkp (fun k_ hk_ hs_ => (hk_.2) hs_)) (fun k_ hk_ => trivial)); replace HX := zb.mk (Kd.zH (ok' := fun k_ => True) (Kd.R_keptB (HX.out) hkp (fun k_ hk_ hs_ => (hk_.2) hs_)) (fun k_ hk_ => trivial)); replace HB := zb.mk (hb); clear HO684; (try clear hb); (try clear hkp)) | ((with_reducible refine zc (f := 9) rfl ?_); refine zh (some 39) rfl rfl Tryd.func9 (by kernel_rfl) rfl #[.slice Ao16 t674.length co16] rfl hq ?_; (with_reducible refine (xf.calls k1 _ _ t674 t685 t686 _ ?side3 ?side1 ?side2 A10.out).mono ?_); (case side1 => repeat (exact (Kd.zf HO_5.out).2.2)); (case side2 => exact (Kd.zf HO_5.out).2.1); (case side3 => exact gb HG HB); rintro e w23 ⟨v687, rfl, ho0, hb⟩; refine ⟨_, rfl, ?_⟩; have HO688 := zb.mk (Kd.rlo (Kd.zu ho0 (Kd.qg (Kd.rx HO_5.out))) HB); replace HO_5 := Kd.eld HO_5 ho0 hb; replace HX := Kd.eld HX ho0 hb; replace HB := bst HB hb; (try clear hb); (try clear ho0); obtain ⟨Ao24, co24, eo24⟩ := Kd.zw HO688.out; subst eo24) | ((with_reducible refine zc (f := 21) rfl ?_); refine zh (some 43) rfl rfl Tryd.func21 (by kernel_rfl) rfl #[.slice Ao24 t685.length co24, .int .i64 (-5)] rfl hq ?_; (with_reducible refine (zN.calls k1 (fun k_ => some k_ = (.slice Ao24 t685.length co24 : Value).ownBlock) (.slice Ao24 t685.length co24) t685 (-5)  w _ HG.out ?side1 ?side2 A11.out).mono ?_); (case side1 => repeat ((with_reducible exact HB.out))); (case side2 => exact Kd.jz rfl HO688.out); rintro e w25 ⟨rfl, hb, hkp⟩; refine ⟨_, rfl, ?_⟩; replace HO_5 := zb.mk (Kd.zH (ok' := fun k_ => True) (Kd.R_keptB (HO_5.out) hkp (fun k_ hk_ hs_ => (hk_.2) hs_)) (fun k_ hk_ => trivial)); replace HX := zb.mk (Kd.zH (ok' := fun k_ => True) (Kd.R_keptB (HX.out) hkp (fun k_ hk_ hs_ => (hk_.2) hs_)) (fun k_ hk_ => trivial)); replace HB := zb.mk (hb); clear HO688; (try clear hb); (try clear hkp)) | ((with_reducible refine zc (f := 10) rfl ?_); refine zh (some 46) rfl rfl Tryd.func10 (by kernel_rfl) rfl #[.slice Ao16 t674.length co16] rfl hq ?_; (with_reducible refine (xM.calls k1 _ _ t674 t689 t690 _ ?side3 ?side1 ?side2 A12.out).mono ?_); (case side1 => repeat (exact (Kd.zf HO_5.out).2.2)); (case side2 => exact (Kd.zf HO_5.out).2.1); (case side3 => exact gb HG HB); rintro e w26 ⟨v691, rfl, ho0, hb⟩; refine ⟨_, rfl, ?_⟩; have HO692 := zb.mk (Kd.rlo (Kd.zu ho0 (Kd.qg (Kd.rx HO_5.out))) HB); replace HO_5 := Kd.eld HO_5 ho0 hb; replace HX := Kd.eld HX ho0 hb; replace HB := bst HB hb; (try clear hb); (try clear ho0); obtain ⟨Ao27, co27, eo27⟩ := Kd.zw HO692.out; subst eo27) | ((with_reducible refine zc (f := 21) rfl ?_); refine zh (some 50) rfl rfl Tryd.func21 (by kernel_rfl) rfl #[.slice Ao27 t689.length co27, .int .i64 (-6)] rfl hq ?_; (with_reducible refine (zN.calls k1 (fun k_ => some k_ = (.slice Ao27 t689.length co27 : Value).ownBlock) (.slice Ao27 t689.length co27) t689 (-6)  w _ HG.out ?side1 ?side2 A13.out).mono ?_); (case side1 => repeat ((with_reducible exact HB.out))); (case side2 => exact Kd.jz rfl HO692.out); rintro e w28 ⟨rfl, hb, hkp⟩; refine ⟨_, rfl, ?_⟩; replace HO_5 := zb.mk (Kd.zH (ok' := fun k_ => True) (Kd.R_keptB (HO_5.out) hkp (fun k_ hk_ hs_ => (hk_.2) hs_)) (fun k_ hk_ => trivial)); replace HX := zb.mk (Kd.zH (ok' := fun k_ => True) (Kd.R_keptB (HX.out) hkp (fun k_ hk_ hs_ => (hk_.2) hs_)) (fun k_ hk_ => trivial)); replace HB := zb.mk (hb); clear HO692; (try clear hb); (try clear hkp)) | ((with_reducible refine zc (f := 14) rfl ?_); refine zh (some 54) rfl rfl Tryd.func14 (by kernel_rfl) rfl #[.slice Ao16 t674.length co16, .int .i64 a1] rfl hq ?_; (with_reducible refine (qf.calls k1 _ _ t674 a1 t693 t694 _ ?side3 ?side1 ?side2 A14.out).mono ?_); (case side1 => repeat (exact (Kd.zf HO_5.out).2.2)); (case side2 => exact (Kd.zf HO_5.out).2.1); (case side3 => exact gb HG HB); rintro e w29 ⟨v695, rfl, ho0, hb⟩; refine ⟨_, rfl, ?_⟩; have HO696 := zb.mk (Kd.rlo (Kd.zu ho0 (Kd.qg (Kd.rx HO_5.out))) HB); replace HO_5 := Kd.eld HO_5 ho0 hb; replace HX := Kd.eld HX ho0 hb; replace HB := bst HB hb; (try clear hb); (try clear ho0); obtain ⟨Ao30, co30, eo30⟩ := Kd.zw HO696.out; subst eo30) | ((with_reducible refine zc (f := 21) rfl ?_); refine zh (some 58) rfl rfl Tryd.func21 (by kernel_rfl) rfl #[.slice Ao30 t693.length co30, .int .i64 (-7)] rfl hq ?_; (with_reducible refine (zN.calls k1 (fun k_ => some k_ = (.slice Ao30 t693.length co30 : Value).ownBlock) (.slice Ao30 t693.length co30) t693 (-7)  w _ HG.out ?side1 ?side2 A15.out).mono ?_); (case side1 => repeat ((with_reducible exact HB.out))); (case side2 => exact Kd.jz rfl HO696.out); rintro e w31 ⟨rfl, hb, hkp⟩; refine ⟨_, rfl, ?_⟩; replace HO_5 := zb.mk (Kd.zH (ok' := fun k_ => True) (Kd.R_keptB (HO_5.out) hkp (fun k_ hk_ hs_ => (hk_.2) hs_)) (fun k_ hk_ => trivial)); replace HX := zb.mk (Kd.zH (ok' := fun k_ => True) (Kd.R_keptB (HX.out) hkp (fun k_ hk_ hs_ => (hk_.2) hs_)) (fun k_ hk_ => trivial)); replace HB := zb.mk (hb); clear HO696; (try clear hb); (try clear hkp)))
    go_roundg k1
    case measure => have := HK1.out; omega
    case rel => exact ⟨(wrap64 (x6_1 + 1)), eq0, H', ⟨by have := HK1.out; omega⟩, ⟨Kd.rx HO_5.out⟩, ⟨Kd.rx HX.out⟩, ⟨bl HB.out⟩⟩
   ·rw [if_neg c5] at H
    have c5b0 := decide_eq_false c5
    clear c5
    replace H := zO H; obtain ⟨t697, A32, H⟩ := H
    by_cases c33 : t697 = true
    ·subst c33
     replace H := ifT H
     replace H := zO H; obtain ⟨t698, A34, H⟩ := H
     by_cases c35 : t698 = true
     ·subst c35
      replace H := ifT H
      replace H := zO H; obtain ⟨t699, A36, H⟩ := H
      by_cases c37 : t699 = true
      ·subst c37
       replace H := ifT H
       replace H := zO H; obtain ⟨t700, A38, H⟩ := H
       obtain rfl := Option.some.inj H
       go_wp2_with (first | ((with_reducible refine zc (f := 22) rfl ?_); refine zh (some 60) rfl rfl Tryd.func22 (by kernel_rfl) rfl #[.slice A0 l0.length c0] rfl hq ?_; (with_reducible refine (qT.calls k1 _ _ l0 true _ ?side3 ?side1 ?side2 A32.out).mono ?_); (case side1 => exact Kd.cx (Kd.zF HR0.out HB.out)); (case side2 => exact HC0.out); (case side3 => exact gb HG HB); rintro e w39 ⟨rfl, hb⟩; refine ⟨_, rfl, ?_⟩; replace HO_5 := Kd.rbl HO_5 hb; replace HX := Kd.rbl HX hb; replace HB := bst HB hb; (try clear hb)) | (go_at_call 23; (with_reducible refine (xe.calls k1 _ _ l0 true _ ?side3 ?side1 ?side2 A34.out).mono ?_); (case side1 => exact Kd.cx (Kd.zF HR0.out HB.out)); (case side2 => exact HC0.out); (case side3 => exact gb HG HB); rintro e w40 ⟨rfl, hb⟩; replace HO_5 := Kd.rbl HO_5 hb; replace HX := Kd.rbl HX hb; replace HB := bst HB hb; (try clear hb)) | (go_at_call 4; (with_reducible refine (xj.calls k1 _ _ l0 a1 true _ ?side3 ?side1 ?side2 A36.out).mono ?_); (case side1 => exact Kd.cx (Kd.zF HR0.out HB.out)); (case side2 => exact HC0.out); (case side3 => exact gb HG HB); rintro e w41 ⟨rfl, hb⟩; replace HO_5 := Kd.rbl HO_5 hb; replace HX := Kd.rbl HX hb; replace HB := bst HB hb; (try clear hb); obtain ⟨Ao42, co42, eo42⟩ := Kd.zw HO_5.out; subst eo42) | (go_at_call 17; (with_reducible refine (qc.calls k1 _ _ t674 _ _ l0 t700 _ ?side5 ?side1 ?side2 ?side3 ?side4 ?sideX ?sideY A38.out).mono ?_); (case sideX => repeat (exact (Kd.zf HX.out).2.2)); (case sideY => exact (Kd.zf (d := k34) (xs := t674 ++ [sentS]) HX.out).2.1); (case side1 => repeat (exact (Kd.zf HO_5.out).2.2)); (case side2 => exact (Kd.zf HO_5.out).2.1); (case side3 => exact Kd.cx (Kd.zF HR0.out HB.out)); (case side4 => exact HC0.out); (case side5 => exact gb HG HB); rintro e w' ⟨rfl, ⟨nd, rfl⟩⟩))
       go_ret
       exact ⟨eq1, bl HB.out⟩
      ·replace c37 := Bool.eq_false_iff.mpr c37
       subst c37
       replace H := ifF H
       obtain rfl := Option.some.inj H
       go_wp2_with (first | ((with_reducible refine zc (f := 22) rfl ?_); refine zh (some 60) rfl rfl Tryd.func22 (by kernel_rfl) rfl #[.slice A0 l0.length c0] rfl hq ?_; (with_reducible refine (qT.calls k1 _ _ l0 true _ ?side3 ?side1 ?side2 A32.out).mono ?_); (case side1 => exact Kd.cx (Kd.zF HR0.out HB.out)); (case side2 => exact HC0.out); (case side3 => exact gb HG HB); rintro e w43 ⟨rfl, hb⟩; refine ⟨_, rfl, ?_⟩; replace HO_5 := Kd.rbl HO_5 hb; replace HX := Kd.rbl HX hb; replace HB := bst HB hb; (try clear hb)) | (go_at_call 23; (with_reducible refine (xe.calls k1 _ _ l0 true _ ?side3 ?side1 ?side2 A34.out).mono ?_); (case side1 => exact Kd.cx (Kd.zF HR0.out HB.out)); (case side2 => exact HC0.out); (case side3 => exact gb HG HB); rintro e w44 ⟨rfl, hb⟩; replace HO_5 := Kd.rbl HO_5 hb; replace HX := Kd.rbl HX hb; replace HB := bst HB hb; (try clear hb)) | (go_at_call 4; (with_reducible refine (xj.calls k1 _ _ l0 a1 false _ ?side3 ?side1 ?side2 A36.out).mono ?_); (case side1 => exact Kd.cx (Kd.zF HR0.out HB.out)); (case side2 => exact HC0.out); (case side3 => exact gb HG HB); rintro e w45 ⟨rfl, hb⟩; replace HO_5 := Kd.rbl HO_5 hb; replace HX := Kd.rbl HX hb; replace HB := bst HB hb; (try clear hb)))
       go_ret
       exact ⟨eq1, bl HB.out⟩
     ·replace c35 := Bool.eq_false_iff.mpr c35
      subst c35
      replace H := ifF H
      obtain rfl := Option.some.inj H
      go_wp2_with (first | ((with_reducible refine zc (f := 22) rfl ?_); refine zh (some 60) rfl rfl Tryd.func22 (by kernel_rfl) rfl #[.slice A0 l0.length c0] rfl hq ?_; (with_reducible refine (qT.calls k1 _ _ l0 true _ ?side3 ?side1 ?side2 A32.out).mono ?_); (case side1 => exact Kd.cx (Kd.zF HR0.out HB.out)); (case side2 => exact HC0.out); (case side3 => exact gb HG HB); rintro e w46 ⟨rfl, hb⟩; refine ⟨_, rfl, ?_⟩; replace HO_5 := Kd.rbl HO_5 hb; replace HX := Kd.rbl HX hb; replace HB := bst HB hb; (try clear hb)) | (go_at_call 23; (with_reducible refine (xe.calls k1 _ _ l0 false _ ?side3 ?side1 ?side2 A34.out).mono ?_); (case side1 => exact Kd.cx (Kd.zF HR0.out HB.out)); (case side2 => exact HC0.out); (case side3 => exact gb HG HB); rintro e w47 ⟨rfl, hb⟩; replace HO_5 := Kd.rbl HO_5 hb; replace HX := Kd.rbl HX hb; replace HB := bst HB hb; (try clear hb)))
      go_ret
      exact ⟨eq1, bl HB.out⟩
    ·replace c33 := Bool.eq_false_iff.mpr c33
     subst c33
     replace H := ifF H
     obtain rfl := Option.some.inj H
     go_wp2_with (((with_reducible refine zc (f := 22) rfl ?_); refine zh (some 60) rfl rfl Tryd.func22 (by kernel_rfl) rfl #[.slice A0 l0.length c0] rfl hq ?_; (with_reducible refine (qT.calls k1 _ _ l0 false _ ?side3 ?side1 ?side2 A32.out).mono ?_); (case side1 => exact Kd.cx (Kd.zF HR0.out HB.out)); (case side2 => exact HC0.out); (case side3 => exact gb HG HB); rintro e w48 ⟨rfl, hb⟩; refine ⟨_, rfl, ?_⟩; replace HO_5 := Kd.rbl HO_5 hb; replace HX := Kd.rbl HX hb; replace HB := bst HB hb; (try clear hb)))
     go_ret
     exact ⟨eq1, bl HB.out⟩
end Go.Proofs.YtnpeabmlcakegaaDoor.PAll
namespace Go.Proofs.YtnpeabmlcakegaaDoor.PAll
open Go.RowKit Go.Proofs.YtnpeabmlcakegaaDoorW.PrintWords
set_option linter.unusedVariables false
set_option linter.unusedSimpArgs false
section
variable {α β : Type} {c : Prop} [Decidable c] {a b : Nat → Option α} {r : α}
theorem zd (h : c) (k : Ev a r) : Ev (fun n => if c then a n else b n) r := by simpa only [if_pos h] using k
theorem ze (h : ¬ c) (k : Ev b r) : Ev (fun n => if c then a n else b n) r := by simpa only [if_neg h] using k
theorem zm : Ev (fun _ => some r) r := Ev.now r
theorem zs {g : Nat → Option β} {f : Nat → β → Option α} {y : β} (h : Ev g y) (k : Ev (fun n => f n y) r) : Ev (fun n => (g n).bind (f n)) r := Ev.bind h k
theorem zA {g : Option β} {f : Nat → β → Option α} {y : β} (h : g = some y) (k : Ev (fun n => f n y) r) : Ev (fun n => g.bind (f n)) r := Ev.bind ⟨0, fun _ _ => h⟩ k
theorem zy {g f : Nat → Option α} (h : ∀ k, g (k + 1) = f k) (k : Ev f r) : Ev g r := Ev.step h k
theorem ev_same {g : Nat → Option α} {r q : α} (h : Ev g r) (h' : Ev g q) : r = q := by
  obtain ⟨K, h⟩ := h
  obtain ⟨K', h'⟩ := h'
  have h1 := h (max K K') (Nat.le_max_left _ _)
  rw [h' (max K K') (Nat.le_max_right _ _)] at h1
  exact (Option.some.inj h1).symm
end
theorem xh {x : Int} (h0 : -9223372036854775808 ≤ x) (h1 : x ≤ 9223372036854775807) : wrap64 x = x := by unfold wrap64; omega
theorem qE {i : Nat} (h : i < 9223372036854775807) : wrap64 ((i : Int) + 1) = ((i + 1 : Nat) : Int) := by rw [xh (by omega) (by omega)]; omega
def arF (op : Int) : Int := if op = 7 ∨ op = 8 then 2 else if (1 ≤ op ∧ op ≤ 6) ∨ op = 17 then 0 else if 8 < op ∧ op ≤ 23 then 1 else -1
theorem arity_j1 (op : Int) (b : Bool) : Ev (fun k => qq.j1 k op b) (if b = true then 0 else if 8 < op ∧ op ≤ 23 then 1 else -1) := by
  refine zy (fun k => qq.j1.eq_2 _ _ _) ?_
  cases b with
  | true => refine zd rfl ?_; exact zm
  | false =>
    refine ze (by decide) ?_
    by_cases h1 : op > 8
    · refine zd h1 ?_
      by_cases h2 : op ≤ 23
      · refine zd h2 ?_
        simp only [Bool.false_eq_true, if_false]
        rw [if_pos ⟨by omega, h2⟩]
        exact zm
      · refine ze h2 ?_
        simp only [Bool.false_eq_true, if_false]
        rw [if_neg (by omega)]
        exact zm
    · refine ze h1 ?_
      simp only [Bool.false_eq_true, if_false]
      rw [if_neg (by omega)]
      exact zm
theorem arity_j0 (op : Int) (b : Bool) : Ev (fun k => qq.j0 k op b) (if b = true then 2 else if (1 ≤ op ∧ op ≤ 6) ∨ op = 17 then 0 else if 8 < op ∧ op ≤ 23 then 1 else -1) := by
  refine zy (fun k => qq.j0.eq_2 _ _ _) ?_
  cases b with
  | true => refine zd rfl ?_; exact zm
  | false =>
    refine ze (by decide) ?_
    simp only [Bool.false_eq_true, if_false]
    by_cases h1 : op ≥ 1
    · refine zd h1 ?_
      by_cases h2 : op ≤ 6
      · refine zd h2 ?_
        rw [if_pos (Or.inl ⟨h1, h2⟩)]
        exact arity_j1 op true
      · refine ze h2 ?_
        by_cases h3 : op = 17
        · rw [if_pos (Or.inr h3), show (op == 17) = true by simpa using h3]
          exact arity_j1 op true
        · rw [if_neg (by omega), show (op == 17) = false by simpa using h3]
          exact arity_j1 op false
    · refine ze h1 ?_
      rw [if_neg (by omega), show (op == 17) = false by simp; omega]
      exact arity_j1 op false
theorem arity_ev (op : Int) : Ev (fun k => qq.f k op) (arF op) := by
  unfold qq.f arF
  by_cases h : op = 7
  · refine zd h ?_
    rw [if_pos (Or.inl h)]
    exact arity_j0 op true
  · refine ze h ?_
    by_cases h8 : op = 8
    · rw [if_pos (Or.inr h8), show (op == 8) = true by simpa using h8]
      exact arity_j0 op true
    · rw [if_neg (by omega), show (op == 8) = false by simpa using h8]
      exact arity_j0 op false
theorem head_some (c : Int) : ∃ b, xy.f c = some b := by
  unfold xy.f
  repeat' split
  all_goals exact ⟨_, rfl⟩
theorem counted_some (c : Int) : ∃ b, xP.f c = some b := by
  unfold xP.f
  repeat' split
  all_goals exact ⟨_, rfl⟩
theorem name_loop (s : ByteArray) (hs : s.size ≤ 140737488351232) (d : Nat) : ∀ i : Nat, i + d = s.size → ∃ b, Ev (fun k => zK.l0 k s (s.size : Int) (i : Int)) b := by
  induction d with
  | zero =>
    intro i hi
    refine ⟨true, zy (fun k => zK.l0.eq_2 _ _ _ _) ?_⟩
    refine ze (by omega) ?_
    exact zm
  | succ d ih =>
    intro i hi
    obtain ⟨b, hb⟩ := head_some (bt s (i : Int))
    obtain ⟨q, hq⟩ := ih (i + 1) (by omega)
    have hw := qE (i := i) (by omega)
    have pre : ∀ r, Ev (fun k => if b = true then zK.l0 k s (s.size : Int) (wrap64 ((i : Int) + 1)) else if bt s (i : Int) < 48 then some false else if bt s (i : Int) > 57 then some false else zK.l0 k s (s.size : Int) (wrap64 ((i : Int) + 1))) r → Ev (fun k => zK.l0 k s (s.size : Int) (i : Int)) r := by
      intro r h
      refine zy (fun k => zK.l0.eq_2 _ _ _ _) ?_
      refine zd (by omega) ?_
      refine zd (by omega) ?_
      refine zd (by omega) ?_
      exact zA hb h
    cases b with
    | true =>
      refine ⟨q, pre _ ?_⟩
      refine zd rfl ?_
      rw [hw]; exact hq
    | false =>
      by_cases h1 : bt s (i : Int) < 48
      · refine ⟨false, pre _ ?_⟩
        refine ze (by decide) ?_
        refine zd h1 ?_
        exact zm
      · by_cases h2 : bt s (i : Int) > 57
        · refine ⟨false, pre _ ?_⟩
          refine ze (by decide) ?_
          refine ze h1 ?_
          refine zd h2 ?_
          exact zm
        · refine ⟨q, pre _ ?_⟩
          refine ze (by decide) ?_
          refine ze h1 ?_
          refine ze h2 ?_
          rw [hw]; exact hq
theorem name_j0 (s : ByteArray) (hs : s.size ≤ 140737488351232) (b : Bool) : ∃ r, Ev (fun k => zK.j0 k s b) r := by
  cases b with
  | true =>
    refine ⟨false, zy (fun k => zK.j0.eq_2 _ _ _) ?_⟩
    refine zd rfl ?_
    exact zm
  | false =>
    obtain ⟨q, hq⟩ := name_loop s hs s.size 0 (by omega)
    refine ⟨q, zy (fun k => zK.j0.eq_2 _ _ _) ?_⟩
    refine ze (by decide) ?_
    exact hq
theorem name_total (s : ByteArray) (hs : s.size ≤ 140737488351232) : ∃ r, Ev (fun k => zK.f k s) r := by
  unfold zK.f
  by_cases h : s.toList = ([] : List UInt8)
  · obtain ⟨r, hr⟩ := name_j0 s hs true
    exact ⟨r, zd h hr⟩
  · by_cases h1 : (s.size : Int) > 32
    · obtain ⟨r, hr⟩ := name_j0 s hs true
      exact ⟨r, ze h (zd h1 hr)⟩
    · have h2 : 0 < (s.size : Int) := by
        rcases Nat.eq_zero_or_pos s.size with h0 | h0
        · exfalso
          apply h
          have : s.toList.length = 0 := by rw [ByteArray.toList_eq]; simpa using h0
          exact List.eq_nil_of_length_eq_zero this
        · omega
      obtain ⟨b, hb⟩ := head_some (bt s 0)
      obtain ⟨r, hr⟩ := name_j0 s hs (!b)
      exact ⟨r, ze h (ze h1 (zd h2 (zA hb hr)))⟩
theorem template_loop (s : ByteArray) (hs : s.size ≤ 140737488351232) (d : Nat) : ∀ i : Nat, s.size ≤ i + d → i ≤ s.size + 1 → ∃ b, Ev (fun k => zQ.l0 k s (i : Int)) b := by
  induction d with
  | zero =>
    intro i hi _
    refine ⟨true, zy (fun k => zQ.l0.eq_2 _ _ _) ?_⟩
    refine ze (by omega) ?_
    exact zm
  | succ d ih =>
    intro i hi hi2
    by_cases h0 : (i : Int) < (s.size : Int)
    · have hw := qE (i := i) (by omega)
      have hw2 := qE (i := i + 1) (by omega)
      have pre : ∀ r, Ev (fun k => if bt s (i : Int) = 37 then (if (((i + 1 : Nat) : Int)) = (s.size : Int) then some false else if 0 ≤ ((i + 1 : Nat) : Int) then if ((i + 1 : Nat) : Int) < (s.size : Int) then if bt s ((i + 1 : Nat) : Int) = 37 then zQ.l0 k s (((i + 1 + 1 : Nat) : Int)) else if bt s ((i + 1 : Nat) : Int) < 48 then some false else if bt s ((i + 1 : Nat) : Int) > 57 then some false else zQ.l0 k s (((i + 1 + 1 : Nat) : Int)) else none else none) else zQ.l0 k s ((i + 1 : Nat) : Int)) r → Ev (fun k => zQ.l0 k s (i : Int)) r := by
        intro r h
        refine zy (fun k => zQ.l0.eq_2 _ _ _) ?_
        refine zd h0 ?_
        refine zd (by omega) ?_
        rw [hw, hw2]
        exact h
      obtain ⟨q, hq⟩ := ih (i + 1) (by omega) (by omega)
      by_cases h1 : bt s (i : Int) = 37
      · by_cases h2 : (((i + 1 : Nat) : Int)) = (s.size : Int)
        · exact ⟨false, pre _ (zd h1 (zd h2 zm))⟩
        · obtain ⟨q2, hq2⟩ := ih (i + 1 + 1) (by omega) (by omega)
          by_cases h3 : bt s ((i + 1 : Nat) : Int) = 37
          · exact ⟨q2, pre _ (zd h1 (ze h2 (zd (by omega) (zd (by omega) (zd h3 hq2)))))⟩
          · by_cases h4 : bt s ((i + 1 : Nat) : Int) < 48
            · exact ⟨false, pre _ (zd h1 (ze h2 (zd (by omega) (zd (by omega) (ze h3 (zd h4 zm))))))⟩
            · by_cases h5 : bt s ((i + 1 : Nat) : Int) > 57
              · exact ⟨false, pre _ (zd h1 (ze h2 (zd (by omega) (zd (by omega) (ze h3 (ze h4 (zd h5 zm)))))))⟩
              · exact ⟨q2, pre _ (zd h1 (ze h2 (zd (by omega) (zd (by omega) (ze h3 (ze h4 (ze h5 hq2)))))))⟩
      · exact ⟨q, pre _ (ze h1 hq)⟩
    · refine ⟨true, zy (fun k => zQ.l0.eq_2 _ _ _) ?_⟩
      exact ze h0 zm
theorem jC (s : ByteArray) (hs : s.size ≤ 140737488351232) : ∃ r, Ev (fun k => zQ.f k s) r := by
  unfold zQ.f
  by_cases h : (s.size : Int) > 255
  · exact ⟨false, zd h zm⟩
  · obtain ⟨q, hq⟩ := template_loop s hs s.size 0 (by omega) (by omega)
    exact ⟨q, ze h hq⟩
theorem fields_j1 (x : Bool) (op n : Int) (s : ByteArray) (hs : s.size ≤ 140737488351232) (w0 w1 w2 w3 : Int) : ∃ r, Ev (fun k => zJ.j1 k x op n s w0 w1 w2 w3) r := by
  have pre : ∀ r, Ev (fun k => if x = true then some false else if op = 4 then (if s.toList = ([] : List UInt8) then some false else some (decide ((s.size : Int) ≤ 255))) else if op = 6 then (zK.f k s).bind fun t => some t else if op = 19 then (if s.toList = ([] : List UInt8) then some true else (zK.f k s).bind fun t => some t) else if op = 22 then (zQ.f k s).bind fun t => some t else some (s.toList == ([] : List UInt8))) r → Ev (fun k => zJ.j1 k x op n s w0 w1 w2 w3) r :=
    fun r h => zy (fun k => zJ.j1.eq_2 _ _ _ _ _ _ _ _ _) h
  obtain ⟨a, ha⟩ := name_total s hs
  obtain ⟨b, hb⟩ := jC s hs
  cases x with
  | true => exact ⟨_, pre _ (zd rfl zm)⟩
  | false =>
    by_cases h4 : op = 4
    · by_cases he : s.toList = ([] : List UInt8)
      · exact ⟨_, pre _ (ze (by decide) (zd h4 (zd he zm)))⟩
      · exact ⟨_, pre _ (ze (by decide) (zd h4 (ze he zm)))⟩
    · by_cases h6 : op = 6
      · exact ⟨_, pre _ (ze (by decide) (ze h4 (zd h6 (zs ha zm))))⟩
      · by_cases h19 : op = 19
        · by_cases he : s.toList = ([] : List UInt8)
          · exact ⟨_, pre _ (ze (by decide) (ze h4 (ze h6 (zd h19 (zd he zm)))))⟩
          · exact ⟨_, pre _ (ze (by decide) (ze h4 (ze h6 (zd h19 (ze he (zs ha zm))))))⟩
        · by_cases h22 : op = 22
          · exact ⟨_, pre _ (ze (by decide) (ze h4 (ze h6 (ze h19 (zd h22 (zs hb zm))))))⟩
          · exact ⟨_, pre _ (ze (by decide) (ze h4 (ze h6 (ze h19 (ze h22 zm)))))⟩
theorem fields_j0 (x : Bool) (op n : Int) (s : ByteArray) (hs : s.size ≤ 140737488351232) (w0 w1 w2 w3 : Int) : ∃ r, Ev (fun k => zJ.j0 k x op n s w0 w1 w2 w3) r := by
  have pre : ∀ r, Ev (fun k => if x = true then some false else if n < 0 then zJ.j1 k true op n s w0 w1 w2 w3 else if n > 50 then zJ.j1 k true op n s w0 w1 w2 w3 else if n > 0 then (xP.f op).bind fun t => zJ.j1 k (!t) op n s w0 w1 w2 w3 else zJ.j1 k false op n s w0 w1 w2 w3) r → Ev (fun k => zJ.j0 k x op n s w0 w1 w2 w3) r :=
    fun r h => zy (fun k => zJ.j0.eq_2 _ _ _ _ _ _ _ _ _) h
  cases x with
  | true => exact ⟨_, pre _ (zd rfl zm)⟩
  | false =>
    obtain ⟨a, ha⟩ := fields_j1 true op n s hs w0 w1 w2 w3
    obtain ⟨b, hb⟩ := fields_j1 false op n s hs w0 w1 w2 w3
    by_cases h1 : n < 0
    · exact ⟨_, pre _ (ze (by decide) (zd h1 ha))⟩
    · by_cases h2 : n > 50
      · exact ⟨_, pre _ (ze (by decide) (ze h1 (zd h2 ha)))⟩
      · by_cases h3 : n > 0
        · obtain ⟨c, hc⟩ := counted_some op
          obtain ⟨d, hd⟩ := fields_j1 (!c) op n s hs w0 w1 w2 w3
          exact ⟨_, pre _ (ze (by decide) (ze h1 (ze h2 (zd h3 (zA hc hd)))))⟩
        · exact ⟨_, pre _ (ze (by decide) (ze h1 (ze h2 (ze h3 hb))))⟩
theorem fields_total (op n : Int) (s : ByteArray) (hs : s.size ≤ 140737488351232) (w0 w1 w2 w3 : Int) : ∃ r, Ev (fun k => zJ.f k op n s w0 w1 w2 w3) r := by
  unfold zJ.f
  by_cases h : op = 5
  · obtain ⟨r, hr⟩ := fields_j0 false op n s hs w0 w1 w2 w3
    exact ⟨r, zd h hr⟩
  · obtain ⟨r, hr⟩ := fields_j0 _ op n s hs w0 w1 w2 w3
    exact ⟨r, ze h hr⟩
def pany : S63 := ⟨3, 0, ⟨#[]⟩, ⟨0, 0, 0, 0⟩⟩
theorem any_fields : Ev (fun k => zJ.f k 3 0 ⟨#[]⟩ 0 0 0 0) true := by
  unfold zJ.f
  refine ze (by decide) ?_
  refine zy (fun k => zJ.j0.eq_2 _ _ _ _ _ _ _ _ _) ?_
  refine ze (by decide) (ze (by decide) (ze (by decide) (ze (by decide) ?_)))
  refine zy (fun k => zJ.j1.eq_2 _ _ _ _ _ _ _ _ _) ?_
  refine ze (by decide) (ze (by decide) (ze (by decide) (ze (by decide) (ze (by decide) ?_))))
  have h : ((⟨#[]⟩ : ByteArray).toList == ([] : List UInt8)) = true := by decide +kernel
  rw [h]
  exact zm
theorem w01 : wrap64 (0 + 1) = 1 := xh (by decide) (by decide)
theorem w11 : wrap64 (1 + 1) = 2 := xh (by decide) (by decide)
theorem w1m : wrap64 (1 - 1) = 0 := xh (by decide) (by decide)
theorem w2m : wrap64 (2 - 1) = 1 := xh (by decide) (by decide)
theorem each_any (rest : List S63) (r : Int × Int)
    (h : Ev (fun k => qj.l0 k (pany :: rest) [⟨0, 1⟩] (pany :: rest) (((pany :: rest).length : Nat) : Int) 1) r) :
    Ev (fun k => qj.l0 k (pany :: rest) [] (pany :: rest) (((pany :: rest).length : Nat) : Int) 0) r := by
  have hl : (((pany :: rest).length : Nat) : Int) = (rest.length : Int) + 1 := by simp
  have hr : zl (pany :: rest) 0 = pany := rfl
  refine zy (fun k => qj.l0.eq_2 _ _ _ _ _ _) ?_
  refine zd (by omega) (zd (by omega) (zd (by omega) ?_))
  rw [hr]
  refine zs (y := 0) (arity_ev 3) ?_
  refine ze (by decide) ?_
  refine zs (y := true) any_fields ?_
  refine zd rfl ?_
  refine zy (fun k => qj.l1.eq_2 _ _ _ _ _ _ _ _ _ _ _ _ _ _ _ _ _ _) ?_
  refine ze (by decide) ?_
  rw [w01]
  refine ze (by decide) (zd (by decide) ?_)
  exact zA (y := ()) rfl h
theorem check_any : Ev (fun k => xI.f k [pany]) (0, 0) := by
  unfold xI.f
  refine ze (by decide) ?_
  refine zs (y := (0, 0)) ?_ zm
  unfold qj.f
  refine zd (by decide) (zd (by decide) ?_)
  refine each_any [] _ ?_
  refine zy (fun k => qj.l0.eq_2 _ _ _ _ _ _) ?_
  have hl : (([pany].length : Nat) : Int) = 1 := rfl
  rw [hl, w1m]
  refine ze (by decide) (ze (by decide) ?_)
  refine zd (by decide) (zd (by decide) (zd (by decide) ?_))
  exact zm
theorem check_pair (op n : Int) (s : ByteArray) (w0 w1 w2 w3 : Int) (har : arF op = 1) (b : Bool) (hb : Ev (fun k => zJ.f k op n s w0 w1 w2 w3) b) :
    Ev (fun k => xI.f k [pany, ⟨op, n, s, ⟨w0, w1, w2, w3⟩⟩]) (if b = true then (0, 0) else (1, 41)) := by
  unfold xI.f
  refine ze (by simp) ?_
  refine zs (y := (if b = true then (0, 0) else (1, 41))) ?_ zm
  unfold qj.f
  refine zd (by simp) (zd (by simp) ?_)
  refine each_any [⟨op, n, s, ⟨w0, w1, w2, w3⟩⟩] _ ?_
  have hr : zl [pany, ⟨op, n, s, ⟨w0, w1, w2, w3⟩⟩] 1 = ⟨op, n, s, ⟨w0, w1, w2, w3⟩⟩ := rfl
  refine zy (fun k => qj.l0.eq_2 _ _ _ _ _ _) ?_
  refine zd (by simp) (zd (by decide) (zd (by simp) ?_))
  rw [hr]
  refine zs (y := 1) (har ▸ arity_ev op) ?_
  refine ze (by decide) ?_
  refine zs hb ?_
  cases b with
  | false => exact ze (by decide) zm
  | true =>
    refine zd rfl ?_
    simp only [if_true]
    refine zy (fun k => qj.l1.eq_2 _ _ _ _ _ _ _ _ _ _ _ _ _ _ _ _ _ _) ?_
    rw [w1m, w01]
    refine zd (by decide) (ze (by decide) (zd (by decide) (zd (by decide) (ze (by decide) ?_))))
    refine zy (fun k => qj.l1.eq_2 _ _ _ _ _ _ _ _ _ _ _ _ _ _ _ _ _ _) ?_
    have hm : mx 0 ((z5 [⟨0, 1⟩] 0).f1) = 1 := by decide
    rw [hm, w11]
    refine ze (by decide) (ze (by decide) (zd (by decide) ?_))
    refine zA (y := ()) rfl ?_
    refine zy (fun k => qj.l0.eq_2 _ _ _ _ _ _) ?_
    have hl : (([pany, ⟨op, n, s, ⟨w0, w1, w2, w3⟩⟩].length : Nat) : Int) = 2 := rfl
    rw [hl, w2m]
    refine ze (by decide) (ze (by decide) (zd (by decide) (zd (by decide) (zd (by decide) ?_))))
    exact zm
theorem join_ev (op n : Int) (s : ByteArray) (w0 w1 w2 w3 : Int) (har : arF op = 1) (b : Bool) (hb : Ev (fun k => zJ.f k op n s w0 w1 w2 w3) b) :
    ∃ l, Ev (fun k => xv.f k op n s w0 w1 w2 w3 [[pany]]) (l, if b = true then 0 else 41) := by
  unfold xv.f
  cases b with
  | false =>
    refine ⟨[], ?_⟩
    refine zs (y := 1) (har ▸ arity_ev op) ?_
    refine ze (by decide) (zs hb ?_)
    exact ze (by decide) zm
  | true =>
    refine ⟨[pany, ⟨op, n, s, ⟨w0, w1, w2, w3⟩⟩], ?_⟩
    refine zs (y := 1) (har ▸ arity_ev op) ?_
    refine ze (by decide) (zs hb ?_)
    refine zd rfl (zd (by decide) ?_)
    refine zy (fun k => xv.l0.eq_2 _ _ _ _ _ _ _ _ _ _ _ _) ?_
    refine zd (by decide) (zd (by decide) (zd (by decide) ?_))
    have hr : rd_L6 [[pany]] 0 = [pany] := rfl
    rw [hr]
    refine zs check_any ?_
    refine zd rfl (zd (by decide) ?_)
    rw [w01]
    refine zy (fun k => xv.l0.eq_2 _ _ _ _ _ _ _ _ _ _ _ _) ?_
    refine ze (by decide) (zd (by decide) ?_)
    refine zs (y := ([pany, ⟨op, n, s, ⟨w0, w1, w2, w3⟩⟩], 0)) ?_ zm
    unfold jF.f
    refine zs (check_pair op n s w0 w1 w2 w3 har true hb) ?_
    exact zd rfl zm
theorem capture_ev (c n : Int) (s : ByteArray) (h2 : 2 ≤ c) (h7 : c ≤ 7) (b : Bool) (hb : Ev (fun k => zJ.f k (c + 16) n s 0 0 0 0) b) : Ev (fun k => qQ.f k c n s) b := by
  unfold qQ.f
  refine ze (by omega) ?_
  have hw : wrap64 (wrap64 (c - 2) + 18) = c + 16 := by rw [xh (x := c - 2) (by omega) (by omega), xh (by omega) (by omega)]; omega
  rw [hw]
  have har : arF (c + 16) = 1 := by
    unfold arF
    rw [if_neg (by omega), if_neg (by omega), if_pos (by omega)]
  obtain ⟨l, hl⟩ := join_ev (c + 16) n s 0 0 0 0 har b hb
  refine zs hl ?_
  cases b with
  | true => exact zm
  | false => exact zm
theorem capture_total (c n : Int) (s : ByteArray) (hs : s.size ≤ 140737488351232) (h1 : 1 ≤ c) (h7 : c ≤ 7) : ∃ b, Ev (fun k => qQ.f k c n s) b := by
  by_cases hc : c = 1
  · subst hc
    unfold qQ.f
    by_cases hn : n = 0
    · exact ⟨_, zd rfl (zd hn zm)⟩
    · exact ⟨_, zd rfl (ze hn zm)⟩
  · obtain ⟨b, hb⟩ := fields_total (c + 16) n s hs 0 0 0 0
    exact ⟨b, capture_ev c n s (by omega) h7 b hb⟩
theorem fits_j0 (op : Int) (x9 : Bool) (a0 a1 a2 a3 : Int) (a4 : ByteArray) (a5 a6 a7 a8 : Int) (hs : a4.size ≤ 140737488351232) : ∃ b, Ev (fun k => qv.j0 k op x9 a0 a1 a2 a3 a4 a5 a6 a7 a8) b := by
  have pre : ∀ r, Ev (fun k => if x9 = true then (if a2 ≥ 0 then some (decide (a2 ≤ 255)) else some false) else if op = 18 then (if a2 ≥ 2 then (if a2 ≤ 7 then (qQ.f k a2 a3 a4).bind fun t => some t else some false) else some false) else if op = 20 then (if a2 < 1 then some false else if a2 > 7 then some false else if a1 < 0 then some false else if a1 > 255 then some false else if a2 = 1 then (if a1 > 0 then some false else (qQ.f k a2 a3 a4).bind fun t => some t) else (qQ.f k a2 a3 a4).bind fun t => some t) else some true) r → Ev (fun k => qv.j0 k op x9 a0 a1 a2 a3 a4 a5 a6 a7 a8) r :=
    fun r h => zy (fun k => qv.j0.eq_2 _ _ _ _ _ _ _ _ _ _ _ _) h
  cases x9 with
  | true =>
    by_cases h : a2 ≥ 0
    · exact ⟨_, pre _ (zd rfl (zd h zm))⟩
    · exact ⟨_, pre _ (zd rfl (ze h zm))⟩
  | false =>
    by_cases h18 : op = 18
    · by_cases h2 : a2 ≥ 2
      · by_cases h7 : a2 ≤ 7
        · obtain ⟨b, hb⟩ := capture_total a2 a3 a4 hs (by omega) h7
          exact ⟨_, pre _ (ze (by decide) (zd h18 (zd h2 (zd h7 (zs hb zm)))))⟩
        · exact ⟨_, pre _ (ze (by decide) (zd h18 (zd h2 (ze h7 zm))))⟩
      · exact ⟨_, pre _ (ze (by decide) (zd h18 (ze h2 zm)))⟩
    · by_cases h20 : op = 20
      · by_cases c1 : a2 < 1
        · exact ⟨_, pre _ (ze (by decide) (ze h18 (zd h20 (zd c1 zm))))⟩
        · by_cases c2 : a2 > 7
          · exact ⟨_, pre _ (ze (by decide) (ze h18 (zd h20 (ze c1 (zd c2 zm)))))⟩
          · by_cases c3 : a1 < 0
            · exact ⟨_, pre _ (ze (by decide) (ze h18 (zd h20 (ze c1 (ze c2 (zd c3 zm))))))⟩
            · by_cases c4 : a1 > 255
              · exact ⟨_, pre _ (ze (by decide) (ze h18 (zd h20 (ze c1 (ze c2 (ze c3 (zd c4 zm)))))))⟩
              · obtain ⟨b, hb⟩ := capture_total a2 a3 a4 hs (by omega) (by omega)
                by_cases c5 : a2 = 1
                · by_cases c6 : a1 > 0
                  · exact ⟨_, pre _ (ze (by decide) (ze h18 (zd h20 (ze c1 (ze c2 (ze c3 (ze c4 (zd c5 (zd c6 zm)))))))))⟩
                  · exact ⟨_, pre _ (ze (by decide) (ze h18 (zd h20 (ze c1 (ze c2 (ze c3 (ze c4 (zd c5 (ze c6 (zs hb zm))))))))))⟩
                · exact ⟨_, pre _ (ze (by decide) (ze h18 (zd h20 (ze c1 (ze c2 (ze c3 (ze c4 (ze c5 (zs hb zm)))))))))⟩
      · exact ⟨_, pre _ (ze (by decide) (ze h18 (ze h20 zm)))⟩
theorem fits_total (x : S34) (h0 : 1 ≤ x.f0) (h1 : x.f0 ≤ 20) (hs : x.f4.size ≤ 140737488351232) : ∃ b, Ev (fun k => qv.f k x.f0 x.f1 x.f2 x.f3 x.f4 x.f5.f0 x.f5.f1 x.f5.f2 x.f5.f3) b := by
  unfold qv.f
  have hp : ∃ t, qx.f x.f0 x.f1 x.f2 x.f3 x.f4 x.f5.f0 x.f5.f1 x.f5.f2 x.f5.f3 = some t := by
    unfold qx.f
    rw [if_pos (by omega), if_pos (by omega)]
    exact ⟨_, rfl⟩
  obtain ⟨t, ht⟩ := hp
  have key : ∀ c : Bool, ∃ b, Ev (fun k => if c = true then some false else if x.f0 = 2 then qv.j0 k x.f0 (x.f0 == 2) x.f0 x.f1 x.f2 x.f3 x.f4 x.f5.f0 x.f5.f1 x.f5.f2 x.f5.f3 else qv.j0 k x.f0 (x.f0 == 5) x.f0 x.f1 x.f2 x.f3 x.f4 x.f5.f0 x.f5.f1 x.f5.f2 x.f5.f3) b := by
    intro c
    cases c with
    | true => exact ⟨_, zd rfl zm⟩
    | false =>
      by_cases h2 : x.f0 = 2
      · obtain ⟨b, hb⟩ := fits_j0 x.f0 (x.f0 == 2) x.f0 x.f1 x.f2 x.f3 x.f4 x.f5.f0 x.f5.f1 x.f5.f2 x.f5.f3 hs
        exact ⟨b, ze (by decide) (zd h2 hb)⟩
      · obtain ⟨b, hb⟩ := fits_j0 x.f0 (x.f0 == 5) x.f0 x.f1 x.f2 x.f3 x.f4 x.f5.f0 x.f5.f1 x.f5.f2 x.f5.f3 hs
        exact ⟨b, ze (by decide) (ze h2 hb)⟩
  obtain ⟨b, hb⟩ := key _
  exact ⟨b, zA ht hb⟩
theorem has_ev (op bit : Int) (h0 : 0 ≤ op) (h1 : op < 21) : zI.f op bit = some (hasB op bit) := by
  unfold zI.f
  rw [if_pos h0, if_pos h1]
  rfl
structure xl (l : List S34) : Prop where
  pos : 0 < l.length
  len : l.length ≤ 8192
  op : ∀ (i : Nat) (h : i < l.length), 1 ≤ l[i].f0 ∧ l[i].f0 ≤ 20
  goes : ∀ (i : Nat) (h : i < l.length), hasB l[i].f0 32 = true → 0 ≤ (i : Int) + l[i].f1 ∧ (i : Int) + l[i].f1 < l.length
  last : ∀ (h : l.length - 1 < l.length), hasB l[l.length - 1].f0 64 = false
theorem rd34 (l : List S34) (i : Nat) (h : i < l.length) : za l (i : Int) = l[i] := by simp [za, List.getD_eq_getElem?_getD, List.getElem?_eq_getElem h]
theorem check_loop (l : List S34) (hl : l.length ≤ 8192) (hp : 0 < l.length) (hs : ∀ x ∈ l, x.f4.size ≤ 140737488351232) (d : Nat) : ∀ i : Nat, i + d = l.length →
    (∀ (j : Nat) (h : j < l.length), j < i → (1 ≤ l[j].f0 ∧ l[j].f0 ≤ 20) ∧ (hasB l[j].f0 32 = true → 0 ≤ (j : Int) + l[j].f1 ∧ (j : Int) + l[j].f1 < l.length)) →
    ∃ r : Int × Int, Ev (fun k => zC.l0 k l l (l.length : Int) (i : Int)) r ∧ (r.2 = 0 → r = (0, 0) ∧ xl l) := by
  induction d with
  | zero =>
    intro i hi hj
    have hw : wrap64 ((l.length : Int) - 1) = ((l.length - 1 : Nat) : Int) := by rw [xh (by omega) (by omega)]; omega
    have hlast := (hj (l.length - 1) (by omega) (by omega)).1
    have hh := has_ev (l[l.length - 1].f0) 64 (by omega) (by omega)
    have pre : ∀ r, Ev (fun k => if hasB l[l.length - 1].f0 64 = true then some (((l.length - 1 : Nat) : Int), (163 : Int)) else some (0, 0)) r → Ev (fun k => zC.l0 k l l (l.length : Int) (i : Int)) r := by
      intro r h
      refine zy (fun k => zC.l0.eq_2 _ _ _ _ _) ?_
      refine ze (by omega) ?_
      rw [hw, rd34 l (l.length - 1) (by omega)]
      refine zd (by omega) (zd (by omega) ?_)
      exact zA hh h
    cases hb : hasB l[l.length - 1].f0 64 with
    | true =>
      exact ⟨(((l.length - 1 : Nat) : Int), (163 : Int)), pre _ (zd hb zm), fun h => absurd h (by simp)⟩
    | false =>
      exact ⟨(0, 0), pre _ (ze (by rw [hb]; decide) zm), fun _ => ⟨rfl, hp, hl, fun j h => (hj j h (by omega)).1, fun j h => (hj j h (by omega)).2, fun _ => hb⟩⟩
  | succ d ih =>
    intro i hi hj
    have hil : i < l.length := by omega
    have hw := qE (i := i) (by omega)
    have hrd := rd34 l i hil
    have hn : wrap64 (-(i : Int)) = -(i : Int) := xh (by omega) (by omega)
    have hn2 : wrap64 ((l.length : Int) - (i : Int)) = (l.length : Int) - (i : Int) := xh (by omega) (by omega)
    have pre : ∀ r, Ev (fun k => (xU.f l[i].f0).bind fun t => if t = true then ((qv.f k l[i].f0 l[i].f1 l[i].f2 l[i].f3 l[i].f4 l[i].f5.f0 l[i].f5.f1 l[i].f5.f2 l[i].f5.f3).bind fun t => if t = true then ((zI.f l[i].f0 32).bind fun t => if t = true then (if l[i].f1 < -(i : Int) then some ((i : Int), (162 : Int)) else if l[i].f1 ≥ (l.length : Int) - (i : Int) then some ((i : Int), 162) else zC.l0 k l l (l.length : Int) ((i + 1 : Nat) : Int)) else zC.l0 k l l (l.length : Int) ((i + 1 : Nat) : Int)) else some ((i : Int), 161)) else some ((i : Int), 160)) r → Ev (fun k => zC.l0 k l l (l.length : Int) (i : Int)) r := by
      intro r h
      refine zy (fun k => zC.l0.eq_2 _ _ _ _ _) ?_
      refine zd (by omega) (zd (by omega) (zd (by omega) ?_))
      rw [hrd, hw, hn, hn2]
      exact h
    have his : xU.f l[i].f0 = some (decide (1 ≤ l[i].f0 ∧ l[i].f0 ≤ 20)) := by
      unfold xU.f
      by_cases h1 : l[i].f0 ≥ 1
      · rw [if_pos h1]; congr 1; simp; omega
      · rw [if_neg h1]; congr 1; simp; omega
    by_cases hop : 1 ≤ l[i].f0 ∧ l[i].f0 ≤ 20
    · rw [decide_eq_true hop] at his
      obtain ⟨b, hb⟩ := fits_total l[i] hop.1 hop.2 (hs _ (List.getElem_mem hil))
      have hh := has_ev l[i].f0 32 (by omega) (by omega)
      cases b with
      | false => exact ⟨_, pre _ (zA his (zd rfl (zs hb (ze (by decide) zm)))), fun h => absurd h (by simp)⟩
      | true =>
        cases hg : hasB l[i].f0 32 with
        | false =>
          obtain ⟨r, hr, hr2⟩ := ih (i + 1) (by omega) (fun j h hj1 => by
            by_cases hji : j < i
            · exact hj j h hji
            · obtain rfl : j = i := by omega
              exact ⟨hop, fun h => by rw [hg] at h; cases h⟩)
          rw [hg] at hh
          exact ⟨r, pre _ (zA his (zd rfl (zs hb (zd rfl (zA hh (ze (by decide) hr)))))), hr2⟩
        | true =>
          rw [hg] at hh
          by_cases c1 : l[i].f1 < -(i : Int)
          · exact ⟨_, pre _ (zA his (zd rfl (zs hb (zd rfl (zA hh (zd rfl (zd c1 zm))))))), fun h => absurd h (by simp)⟩
          · by_cases c2 : l[i].f1 ≥ (l.length : Int) - (i : Int)
            · exact ⟨_, pre _ (zA his (zd rfl (zs hb (zd rfl (zA hh (zd rfl (ze c1 (zd c2 zm)))))))), fun h => absurd h (by simp)⟩
            · obtain ⟨r, hr, hr2⟩ := ih (i + 1) (by omega) (fun j h hj1 => by
                by_cases hji : j < i
                · exact hj j h hji
                · obtain rfl : j = i := by omega
                  exact ⟨hop, fun _ => by omega⟩)
              exact ⟨r, pre _ (zA his (zd rfl (zs hb (zd rfl (zA hh (zd rfl (ze c1 (ze c2 hr)))))))), hr2⟩
    · rw [decide_eq_false hop] at his
      exact ⟨_, pre _ (zA his (ze (by decide) zm)), fun h => absurd h (by simp)⟩
theorem check_total (l : List S34) (hs : ∀ x ∈ l, x.f4.size ≤ 140737488351232) : ∃ r : Int × Int, Ev (fun k => zC.f k l) r ∧ (r.2 = 0 → r = (0, 0) ∧ xl l) := by
  unfold zC.f
  by_cases h1 : (l.length : Int) > 8192
  · exact ⟨_, zd h1 zm, fun h => absurd h (by simp)⟩
  · by_cases h2 : (l.length : Int) = 0
    · exact ⟨_, ze h1 (zd h2 zm), fun h => absurd h (by simp)⟩
    · obtain ⟨r, hr, hr2⟩ := check_loop l (by omega) (by omega) hs l.length 0 (by omega) (fun j h hj => absurd hj (by omega))
      exact ⟨r, ze h1 (ze h2 hr), hr2⟩
end Go.Proofs.YtnpeabmlcakegaaDoor.PAll
