/- Part 3 of the proof: words, walks and plain laws that the statement's own text (YtnpeabmlcakegaaDoorMine) uses. No condition of its own. -/
import Derived.Test.YtnpeabmlcakegaaDoorMine2
set_option maxHeartbeats 8000000
set_option maxRecDepth 100000
namespace Go.Proofs.YtnpeabmlcakegaaDoor.PAll
open Go.RowKit Go.Proofs.YtnpeabmlcakegaaDoorW.PrintWords Go.Proofs.YtnpeabmlcakegaaDoorW.PrintLast Go.Proofs.YtnpeabmlcakegaaDoorW.PrintMore
attribute [local go_sem] z9 qe ql xb xa xp xn qL qK qZ qY
set_option linter.unusedVariables false
set_option linter.unusedSimpArgs false
mutual
def zP.l0 : Nat → List (S34) → List Bool → List Int → Int → Int → Option ((List (S34)))
 | 0, _, _, _, _, _ => none
 | k + 1, x0, x1, x5, x15, x16 => if x16 < x15 then (if 0 ≤ x16 then (if x16 < (x5.length : Int) then (if 0 ≤ (wrap64 (x16 + 1)) then (if (wrap64 (x16 + 1)) < (x5.length : Int) then ((some (x5.set ((wrap64 (x16 + 1)) : Int).toNat (rd x5 x16) : List Int)).bind fun y248 => (if x16 < (x1.length : Int) then (if rdOf false x1 x16 = true then (zP.l0 k x0 x1 y248 x15 (wrap64 (x16 + 1))) else (zP.l0 k x0 x1 (y248.set ((wrap64 (x16 + 1)) : Int).toNat (wrap64 ((rd y248 (wrap64 (x16 + 1))) + 1))) x15 (wrap64 (x16 + 1)))) else (none))) else (none)) else (none)) else (none)) else (none)) else (if 0 ≤ (x0.length : Int) then (if (x0.length : Int) < (x5.length : Int) then (if 0 ≤ (rd x5 (x0.length : Int)) then (if (rd x5 (x0.length : Int) : Int).toNat ≤ 3518437208883 then (zP.l1 k x1 x5 (([] : List (S34))) x0 (x0.length : Int) 0) else (none)) else (none)) else (none)) else (none))
def zP.l1 : Nat → List Bool → List Int → List (S34) → List (S34) → Int → Int → Option ((List (S34)))
 | 0, _, _, _, _, _, _ => none
 | k + 1, x1, x5, x7, x46, x47, x48 => if x48 < x47 then (if 0 ≤ x48 then (if x48 < (x46.length : Int) then (if x48 < (x1.length : Int) then (if rdOf false x1 x48 = true then (zP.l1 k x1 x5 x7 x46 x47 (wrap64 (x48 + 1))) else ((jk.f ((za x46 x48).f0)).bind fun t259 => (if t259 = true then (if 0 ≤ (wrap64 (x48 + ((za x46 x48).f1))) then (if (wrap64 (x48 + ((za x46 x48).f1))) < (x5.length : Int) then (if x48 < (x5.length : Int) then (if x7.length < 1759218604441 then (zP.l1 k x1 x5 (x7 ++ [(⟨(za x46 x48).f0, wrap64 ((rd x5 (wrap64 (x48 + ((za x46 x48).f1)))) - (rd x5 x48)), (za x46 x48).f2, (za x46 x48).f3, (za x46 x48).f4, (⟨(za x46 x48).f5.f0, (za x46 x48).f5.f1, (za x46 x48).f5.f2, (za x46 x48).f5.f3⟩ : S32)⟩ : S34)]) x46 x47 (wrap64 (x48 + 1))) else (none)) else (none)) else (none)) else (none)) else (if x7.length < 1759218604441 then (zP.l1 k x1 x5 (x7 ++ [(⟨(za x46 x48).f0, (za x46 x48).f1, (za x46 x48).f2, (za x46 x48).f3, (za x46 x48).f4, (⟨(za x46 x48).f5.f0, (za x46 x48).f5.f1, (za x46 x48).f5.f2, (za x46 x48).f5.f3⟩ : S32)⟩ : S34)]) x46 x47 (wrap64 (x48 + 1))) else (none))))) else (none)) else (none)) else (none)) else (some x7)
end
def zP.f (k : Nat) (l0 : List (S34)) (l1 : List Bool) : Option ((List (S34))) := if 0 ≤ (wrap64 ((l0.length : Int) + 1)) then (if (wrap64 ((l0.length : Int) + 1) : Int).toNat ≤ 35184372088832 then (zP.l0 k l0 l1 (List.replicate (wrap64 ((l0.length : Int) + 1) : Int).toNat 0) (l0.length : Int) 0) else (none)) else (none)
def zP.T15 : Bool × List (List Nat × List Nat) := (true, [([], []), ([], []), ([], []), ([2], [2]), ([1, 3], [1, 3]), ([0, 4], [0, 4]), ([5], [5]), ([], []), ([], []), ([7, 8], [7, 8]), ([9], [9]), ([6, 10], [6, 10]), ([0, 1, 2, 3, 4, 5, 6, 7, 8, 9, 10, 11], []), ([12, 11, 0, 1, 2, 3, 4, 5, 6, 7, 8, 9, 10, 11], [11, 12])])
def zP.B15 : List Nat := [0, 0, 0, 4, 14, 31, 63, 0, 0, 384, 896, 2047, 4095, 8191]
theorem zP.tab15 : rtab .any (opsOf Tryd.f48 15) = zP.T15 := by kernel_rfl
theorem zP.bits15 : waitsOk zP.T15.2 zP.B15 = true := by kernel_rfl
theorem zP.calls (k : Nat) (A0 : Option Addr) (c0 : Nat) (l0 : List (S34)) (A1 : Option Addr) (c1 : Nat) (l1 : List Bool) (r : List (S34)) (w : World) (hG : GW w) (hr0 : Kd.C k34 w A0 l0.length l0) (hc0 : l0.length ≤ c0) (hr1 : Kd.C Kd.bool w A1 l1.length l1) (hc1 : l1.length ≤ c1) (h : zP.f k l0 l1 = some r) :
  Calls Tryd.prog 48 #[.slice A0 l0.length c0, .slice A1 l1.length c1] w fun e w' => ∃ v0_ : Value, e = .returned (v0_) ∧ Kd.R k34 34 w' w.heap.size (fun _ => True) v0_ r ∧ Below w.heap.size w w' := by
 have hu34 := Tryd.underlying34
 have HR0 := zb.mk hr0
 have HC0 := zb.mk hc0
 clear hr0 hc0
 have HR1 := zb.mk hr1
 have HC1 := zb.mk hc1
 clear hr1 hc1
 have HG := zb.mk hG
 clear hG
 have HB := zb.mk (Below.refl w.heap.size w)
 have H : (if 0 ≤ (wrap64 ((l0.length : Int) + 1)) then (if (wrap64 ((l0.length : Int) + 1) : Int).toNat ≤ 35184372088832 then (zP.l0 k l0 l1 (List.replicate (wrap64 ((l0.length : Int) + 1) : Int).toNat 0) (l0.length : Int) 0) else (none)) else (none)) = some r := h
 clear h
 obtain ⟨ji3, hji3⟩ : ∃ j_ : Int, (wrap64 ((l0.length : Int) + 1)) = j_ := ⟨_, rfl⟩
 rw [hji3] at H
 have hji3w : (IntKind.i64.wrap ((l0.length : Int) + 1)) = ji3 := (qd _).trans hji3
 by_cases c4 : 0 ≤ (ji3)
 ·rw [if_pos c4] at H
  have c4b0 := eq_true c4
  have c4b1 := decide_eq_true c4
  clear c4
  replace H := qh H; obtain ⟨c5, H⟩ := H
  have c5b0 := eq_true c5
  have c5b1 := decide_eq_true c5
  clear c5
  obtain ⟨y244, hy244⟩ : ∃ y_ : List Int, y_ = (List.replicate (ji3 : Int).toNat 0) := ⟨_, rfl⟩
  replace H : (zP.l0 k l0 l1 y244 (l0.length : Int) 0) = some r := by (rw [hy244]; with_reducible exact H)
  have Ny244 := zb.mk hy244
  clear hy244
  have H' := zb.mk H
  clear H
  go_enter Tryd.func48, Tryd.ntmps48
  go_wp2_with (((with_reducible refine z3 (N := 13) rfl ?_); refine Kd.R_make (Kd.int .i64) _ 3 rfl (N := 13) rfl 45 _ _ rfl ji3 rfl rfl Tryd.underlying45 (.int .i64 0) 8 info3 rfl (by decide) (by omega) 0 (ok := fun _ => True) (okp := fun _ => True) rfl (fun _ hk => hk) trivial (dq) (Nat.le_trans (Nat.mul_le_mul_right _ (dq : ji3.toNat ≤ 35184372088832)) (by omega)) (Below.refl _ _) (Nat.le_refl _) ?_; intro v245 w6 ho7 hb hg_ hnew_; clear hg_ hnew_; (rw [← Ny244.out] at ho7); have HO246 := zb.mk (Kd.rlo ho7 HB); replace HB := bst HB hb; clear hb ho7))
  go_loopg [16] k (fun kq v16 w' => ∃ (x5_1 : List Int) (x16_1 : Int), v16 = .int .i64 x16_1 ∧ zb (zP.l0 kq l0 l1 x5_1 (l0.length : Int) x16_1 = some r) ∧ zb (kq ≤ k) ∧ zb (Kd.R (Kd.int .i64) 3 w' w.heap.size (fun _ => True) v245 x5_1) ∧ zb (Below w.heap.size w w'))
  case atStart => exact ⟨(y244), (0), eq0, H', ⟨Nat.le_refl _⟩, ⟨Kd.rx HO246.out⟩, ⟨bl HB.out⟩⟩
  case round =>
   clear H'
   (try clear c4b0); (try clear c4b1); (try clear c5b0); (try clear c5b1); (try clear hji3w); (try clear hji3)
   obtain ⟨x5_1, x16_1, rfl, HA, HK1, HO_5, HB⟩ := hrel
   cases gk with
   | zero => exact absurd HA.out (by simp [zP.l0])
   | succ k1 =>
    have H := HA.out
    clear HA
    simp only [zP.l0] at H
    by_cases c8 : x16_1 < (l0.length : Int)
    ·rw [if_pos c8] at H
     have c8b0 := decide_eq_true c8
     clear c8
     replace H := qh H; obtain ⟨c9, H⟩ := H
     have c9b0 := decide_eq_true c9
     clear c9
     replace H := qh H; obtain ⟨c10, H⟩ := H
     have c10b0 := decide_eq_true c10
     clear c10
     obtain ⟨ji11, hji11⟩ : ∃ j_ : Int, (wrap64 (x16_1 + 1)) = j_ := ⟨_, rfl⟩
     rw [hji11] at H
     have hji11w : (IntKind.i64.wrap (x16_1 + 1)) = ji11 := (qd _).trans hji11
     replace H := qh H; obtain ⟨c12, H⟩ := H
     have c12b0 := decide_eq_true c12
     clear c12
     replace H := qh H; obtain ⟨c13, H⟩ := H
     have c13b0 := decide_eq_true c13
     clear c13
     obtain ⟨y248, Ny248, H⟩ := bindY H; try dsimp only at H
     replace H := qh H; obtain ⟨c15, H⟩ := H
     have c15b0 := decide_eq_true c15
     clear c15
     obtain ⟨bq16, hbq16⟩ : ∃ b_ : Bool, b_ = (rdOf false l1 x16_1) := ⟨_, rfl⟩
     rw [← hbq16] at H
     have Nbq16 := zb.mk hbq16
     clear hbq16
     by_cases c17 : bq16 = true
     ·subst c17
      replace H := ifT H
      have H' := zb.mk H
      clear H
      obtain ⟨Ao18, co18, eo18⟩ := Kd.zw HO_5.out
      subst eo18
      have p247 : 0 ≤ (x16_1 : Int) := dq
      have q247 : x16_1 < (x5_1.length : Int) := dq
      obtain ⟨ad247, e247, hx247_0⟩ := Kd.xO (Kd.zf HO_5.out).2.2 x16_1 p247 q247
      cases e247
      replace p247 := eq_true p247
      replace q247 := eq_true q247
      have p14 : 0 ≤ ((ji11) : Int) := dq
      have q14 : ((ji11) : Int) < ((x5_1.length : Int) : Int) := dq
      obtain ⟨go14, co14, eo14, gb14, gl14, cl14, HG14⟩ := Kd.xR HO_5.out (by omega)
      (cases eo14)
      have GB14 := zb.mk gb14
      have GG14 := zb.mk HG14
      clear gb14 gl14 HG14
      (simp only [add_plain] at hx247_0)
      obtain ⟨hx14_0, hf14_0⟩ := Kd.xG 0 HO_5.out ((ji11) : Int) p14 q14
      replace p14 := eq_true p14
      replace q14 := eq_true q14
      have HP19 := Kd.jL HO_5.out ((ji11) : Int) (rd x5_1 x16_1)
      go_wp2_with (((with_reducible refine zM (t := 3) (p := 26) rfl ?_); refine zB (t := 3) (p := 26) (v := ?vo_w20) (w1 := (wr.setCell ⟨go14, ((ji11) : Int).toNat, none⟩ (.int .i64 (rd x5_1 x16_1)))) ?hg ?ho ?hn ?hr ?_; (case ho => rfl); (case hg => rfl); (case hn => rfl); (case hr => (go_simp; done)); intro w20 hw; have hg : wr.grownBy w20 (some go14) := (by rw [hw]; exact HP19.2); have hp_ : Kd.R (Kd.int .i64) 3 w20 w.heap.size (fun _ => True) (.slice (some ⟨go14, 0, none⟩) x5_1.length co18) y248 := (by rw [hw, Ny248.out]; exact HP19.1); clear HP19; replace HO_5 := zb.mk (hp_); replace HB := zb.mk ((by rw [hw]; exact zz (HB.out) GB14.out : Below w.heap.size w w20)); clear hg hw hp_; have p249 : 0 ≤ (x16_1 : Int) := dq; have q249 : x16_1 < (l1.length : Int) := dq; obtain ⟨ad249, e249, hx249_0⟩ := Kd.je HR1.out x16_1 p249 q249; (try rw [← Nbq16.out] at hx249_0); cases e249; replace hx249_0 := cb HB.out hx249_0; replace p249 := eq_true p249; replace q249 := eq_true q249))
      go_roundg k1
      case measure => have := HK1.out; omega
      case rel => exact ⟨(y248), (ji11), (by rfl), H', ⟨by have := HK1.out; omega⟩, ⟨Kd.rx HO_5.out⟩, ⟨bl HB.out⟩⟩
     ·replace c17 := Bool.eq_false_iff.mpr c17
      subst c17
      replace H := ifF H
      obtain ⟨y251, hy251⟩ : ∃ y_ : List Int, y_ = (y248.set ((ji11) : Int).toNat (wrap64 ((rd y248 (ji11)) + 1))) := ⟨_, rfl⟩
      replace H : (zP.l0 k1 l0 l1 y251 (l0.length : Int) ji11) = some r := by (rw [hy251]; with_reducible exact H)
      have Ny251 := zb.mk hy251
      clear hy251
      have H' := zb.mk H
      clear H
      obtain ⟨Ao22, co22, eo22⟩ := Kd.zw HO_5.out
      subst eo22
      have p247 : 0 ≤ (x16_1 : Int) := dq
      have q247 : x16_1 < (x5_1.length : Int) := dq
      obtain ⟨ad247, e247, hx247_0⟩ := Kd.xO (Kd.zf HO_5.out).2.2 x16_1 p247 q247
      cases e247
      replace p247 := eq_true p247
      replace q247 := eq_true q247
      have p14 : 0 ≤ ((ji11) : Int) := dq
      have q14 : ((ji11) : Int) < ((x5_1.length : Int) : Int) := dq
      obtain ⟨go14, co14, eo14, gb14, gl14, cl14, HG14⟩ := Kd.xR HO_5.out (by omega)
      (cases eo14)
      have GB14 := zb.mk gb14
      have GG14 := zb.mk HG14
      clear gb14 gl14 HG14
      (simp only [add_plain] at hx247_0)
      obtain ⟨hx14_0, hf14_0⟩ := Kd.xG 0 HO_5.out ((ji11) : Int) p14 q14
      replace p14 := eq_true p14
      replace q14 := eq_true q14
      have HP23 := Kd.jL HO_5.out ((ji11) : Int) (rd x5_1 x16_1)
      go_wp2_with (first | ((with_reducible refine zM (t := 3) (p := 26) rfl ?_); refine zB (t := 3) (p := 26) (v := ?vo_w24) (w1 := (wr.setCell ⟨go14, ((ji11) : Int).toNat, none⟩ (.int .i64 (rd x5_1 x16_1)))) ?hg ?ho ?hn ?hr ?_; (case ho => rfl); (case hg => rfl); (case hn => rfl); (case hr => (go_simp; done)); intro w24 hw; have hg : wr.grownBy w24 (some go14) := (by rw [hw]; exact HP23.2); have hp_ : Kd.R (Kd.int .i64) 3 w24 w.heap.size (fun _ => True) (.slice (some ⟨go14, 0, none⟩) x5_1.length co22) y248 := (by rw [hw, Ny248.out]; exact HP23.1); clear HP23; replace HO_5 := zb.mk (hp_); replace HB := zb.mk ((by rw [hw]; exact zz (HB.out) GB14.out : Below w.heap.size w w24)); clear hg hw hp_; have p249 : 0 ≤ (x16_1 : Int) := dq; have q249 : x16_1 < (l1.length : Int) := dq; obtain ⟨ad249, e249, hx249_0⟩ := Kd.je HR1.out x16_1 p249 q249; (try rw [← Nbq16.out] at hx249_0); cases e249; replace hx249_0 := cb HB.out hx249_0; replace p249 := eq_true p249; replace q249 := eq_true q249; have p250 : 0 ≤ ((ji11) : Int) := dq; have q250 : (ji11) < (y248.length : Int) := (by have h_ : ((ji11) : Int) < ((x5_1.length : Int) : Int) := dq; (have e_ := (Kd.zf HO_5.out).1; omega)); have ql250 : (((ji11) : Int) < ((x5_1.length : Int) : Int)) = True := eq_true (dq); obtain ⟨ad250, e250, hx250_0⟩ := Kd.xO (Kd.zf HO_5.out).2.2 (ji11) p250 q250; obtain rfl : (⟨go14, 0, none⟩ : Addr) = ad250 := (by injection e250); (simp only [add_plain] at hx250_0); replace p250 := eq_true p250; replace q250 := eq_true q250; have p21 : 0 ≤ ((ji11) : Int) := dq; have q21 : ((ji11) : Int) < ((x5_1.length : Int) : Int) := dq; obtain ⟨hx21_0, hf21_0⟩ := Kd.xG 0 HO_5.out ((ji11) : Int) p21 q21; replace p21 := eq_true p21; replace q21 := eq_true q21; obtain ⟨hy25_, hz25_⟩ := Kd.xG 0 HO_5.out ((ji11) : Int) (dq) (dq); have HP25 := Kd.jL HO_5.out ((ji11) : Int) (wrap64 ((rd y248 (ji11)) + 1))) | ((with_reducible refine zM (t := 3) (p := 38) rfl ?_); refine zB (t := 3) (p := 38) (v := ?vo_w26) (w1 := (w24.setCell ⟨go14, ((ji11) : Int).toNat, none⟩ (.int .i64 (wrap64 ((rd y248 (ji11)) + 1))))) ?hg ?ho ?hn ?hr ?_; (case ho => rfl); (case hg => rfl); (case hn => rfl); (case hr => (go_simp; done)); intro w26 hw; have hg : w24.grownBy w26 (some go14) := (by rw [hw]; exact HP25.2); have hp_ : Kd.R (Kd.int .i64) 3 w26 w.heap.size (fun _ => True) (.slice (some ⟨go14, 0, none⟩) x5_1.length co22) y251 := (by rw [hw, Ny251.out]; exact HP25.1); clear HP25; replace HO_5 := zb.mk (hp_); replace HB := zb.mk ((by rw [hw]; exact zz (HB.out) GB14.out : Below w.heap.size w w26)); clear hg hw hp_))
      go_roundg k1
      case measure => have := HK1.out; omega
      case rel => exact ⟨(y251), (ji11), (by rfl), H', ⟨by have := HK1.out; omega⟩, ⟨Kd.rx HO_5.out⟩, ⟨bl HB.out⟩⟩
    ·rw [if_neg c8] at H
     have c8b0 := decide_eq_false c8
     clear c8
     replace H := qh H; obtain ⟨c27, H⟩ := H
     have c27b0 := decide_eq_true c27
     have c27b1 : decide (0 ≤ l0.length) = true := decide_eq_true (by omega)
     clear c27
     replace H := qh H; obtain ⟨c28, H⟩ := H
     have c28b0 := decide_eq_true c28
     have c28b1 : decide (l0.length < x5_1.length) = true := decide_eq_true (Int.ofNat_lt.mp c28)
     clear c28
     replace H := qh H; obtain ⟨c29, H⟩ := H
     have c29b0 := eq_true c29
     have c29b1 := decide_eq_true c29
     clear c29
     replace H := qh H; obtain ⟨c30, H⟩ := H
     have c30b0 := eq_true c30
     have c30b1 := decide_eq_true c30
     clear c30
     obtain ⟨y253, hy253⟩ : ∃ y_ : List (S34), y_ = (([] : List (S34))) := ⟨_, rfl⟩
     replace H : (zP.l1 k1 l1 x5_1 y253 l0 (l0.length : Int) 0) = some r := by (rw [hy253]; with_reducible exact H)
     have Ny253 := zb.mk hy253
     clear hy253
     have H' := zb.mk H
     clear H
     obtain ⟨Ao31, co31, eo31⟩ := Kd.zw HO_5.out
     subst eo31
     have p252 : 0 ≤ ((l0.length : Int) : Int) := dq
     have q252 : (l0.length : Int) < (x5_1.length : Int) := dq
     obtain ⟨ad252, e252, hx252_0⟩ := Kd.xO (Kd.zf HO_5.out).2.2 (l0.length : Int) p252 q252
     cases e252
     (try simp only [Go.IntWalk.toNatUp] at hx252_0)
     replace p252 := eq_true p252
     replace q252 := eq_true q252
     go_wp2_with (((with_reducible refine z3 (N := 45) rfl ?_); refine Kd.R_make0 k34 _ 34 rfl (N := 45) rfl 22 _ _ rfl (rd x5_1 (l0.length : Int)) rfl rfl Tryd.underlying22 (.agg #[(.int .i64 0), (.int .i64 0), (.int .i64 0), (.int .i64 0), (.string ⟨#[]⟩), (.int .u64 0), (.int .u64 0), (.int .u64 0), (.int .u64 0)]) 80 info34 rfl (by decide) (by omega) z34 (ok := fun _ => True) (okp := fun _ => True) (xq _ _ _ z34 ) (fun _ hk => hk) trivial (dq) (Nat.le_trans (Nat.mul_le_mul_right _ (dq : (rd x5_1 (l0.length : Int)).toNat ≤ 3518437208883)) (by omega)) (Below.refl _ _) (Nat.le_refl _) ?_; intro v254 w32 ho33 hb hg_ hnew_; clear hg_ hnew_; (rw [← Ny253.out] at ho33); replace HO_5 := Kd.rbl HO_5 hb; have HO255 := zb.mk (Kd.rlo ho33 HB); replace HB := bst HB hb; clear hb ho33))
     go_loopg [7, 48] k1 (fun kq v7 v48 w' => ∃ (x7_2 : List (S34)) (x48_2 : Int), v48 = .int .i64 x48_2 ∧ zb (zP.l1 kq l1 x5_1 x7_2 l0 (l0.length : Int) x48_2 = some r) ∧ zb (kq ≤ k1) ∧ zb (Kd.R (Kd.int .i64) 3 w' w.heap.size (fun _ => True) (.slice (some ad252) x5_1.length co31) x5_1) ∧ zb (Kd.R k34 34 w' w.heap.size (fun _ => True) v7 x7_2) ∧ zb (Below w.heap.size w w'))
     case atStart => exact ⟨(y253), (0), eq0, H', ⟨Nat.le_refl _⟩, ⟨Kd.rx HO_5.out⟩, ⟨Kd.rx HO255.out⟩, ⟨bl HB.out⟩⟩
     case round =>
      clear H'
      (try clear c8b0); (try clear c27b0); (try clear c27b1); (try clear c28b0); (try clear c28b1); (try clear c29b0); (try clear c29b1); (try clear c30b0); (try clear c30b1); (try clear hx252_0); (try clear p252); (try clear q252)
      obtain ⟨x7_2, x48_2, rfl, HA, HK2, HO_5, HO_7, HB⟩ := hrel
      cases gk with
      | zero => exact absurd HA.out (by simp [zP.l1])
      | succ k2 =>
       have H := HA.out
       clear HA
       simp only [zP.l1] at H
       by_cases c34 : x48_2 < (l0.length : Int)
       ·rw [if_pos c34] at H
        have c34b0 := decide_eq_true c34
        clear c34
        replace H := qh H; obtain ⟨c35, H⟩ := H
        have c35b0 := decide_eq_true c35
        clear c35
        replace H := qh H; obtain ⟨c36, H⟩ := H
        have c36b0 := decide_eq_true c36
        clear c36
        replace H := qh H; obtain ⟨c37, H⟩ := H
        have c37b0 := decide_eq_true c37
        clear c37
        obtain ⟨bq38, hbq38⟩ : ∃ b_ : Bool, b_ = (rdOf false l1 x48_2) := ⟨_, rfl⟩
        rw [← hbq38] at H
        have Nbq38 := zb.mk hbq38
        clear hbq38
        by_cases c39 : bq38 = true
        ·subst c39
         replace H := ifT H
         have H' := zb.mk H
         clear H
         have p256 : 0 ≤ (x48_2 : Int) := dq
         have q256 : x48_2 < (l0.length : Int) := dq
         obtain ⟨ad256, e256, hx256_0, hx256_1, hx256_2, hx256_3, hx256_4, hx256_5, hx256_6, hx256_7, hx256_8⟩ := zU HR0.out x48_2 p256 q256
         cases e256
         replace hx256_0 := cb HB.out hx256_0
         replace hx256_1 := cb HB.out hx256_1
         replace hx256_2 := cb HB.out hx256_2
         replace hx256_3 := cb HB.out hx256_3
         replace hx256_4 := cb HB.out hx256_4
         replace hx256_5 := cb HB.out hx256_5
         replace hx256_6 := cb HB.out hx256_6
         replace hx256_7 := cb HB.out hx256_7
         replace hx256_8 := cb HB.out hx256_8
         replace p256 := eq_true p256
         replace q256 := eq_true q256
         go_wp2_with (first | ((with_reducible refine z3 (N := 9) rfl ?_); refine qk ?hg (N := 9) ?hd (cs := #[.int .i64 0, .int .i64 0, .int .i64 0, .int .i64 0, .string (⟨#[]⟩ : ByteArray), .int .u64 0, .int .u64 0, .int .u64 0, .int .u64 0]) (t := 34) ?hr ?_; (case hd => rfl); (case hg => rfl); (case hr => (go_simp; done)); intro gb257 hg w40 hbox hb; replace HO_5 := Kd.rbl HO_5 hb; replace HO_7 := zb.mk (Kd.xk (Kd.xT (Kd.rx HO_7.out) gb257 (Nat.le_of_eq hg.symm)) hb); have BK257 := zb.mk (hbox); have GW257 := zb.mk ((by rw [hg]; exact (zj (bl HB.out)) : w.heap.size ≤ gb257)); have GE257 := zb.mk ((by rw [hg]; exact (zj (bl HB.out)) : w.heap.size ≤ gb257)); replace HB := bst HB hb; clear hb hbox hg; obtain ⟨hcz41_0, hcz41_1, hcz41_2, hcz41_3, hcz41_4, hcz41_5, hcz41_6, hcz41_7, hcz41_8⟩ := zS BK257.out; obtain ⟨hfz41_0, hfz41_1, hfz41_2, hfz41_3, hfz41_4, hfz41_5, hfz41_6, hfz41_7, hfz41_8⟩ := zR BK257.out) | ((with_reducible refine zM (t := 34) (p := 9) rfl ?_); refine zB (t := 34) (p := 9) (v := ?vo_w42) (w1 := (xr w40 gb257 #[.int .i64 ((za l0 x48_2).f0), .int .i64 ((za l0 x48_2).f1), .int .i64 ((za l0 x48_2).f2), .int .i64 ((za l0 x48_2).f3), .string ((za l0 x48_2).f4), .int .u64 ((za l0 x48_2).f5.f0), .int .u64 ((za l0 x48_2).f5.f1), .int .u64 ((za l0 x48_2).f5.f2), .int .u64 ((za l0 x48_2).f5.f3)])) ?hg ?ho ?hn ?hr ?_; (case ho => rfl); (case hg => rfl); (case hn => rfl); (case hr => (go_simp; rfl)); intro w42 hw; replace HO_5 : zb (Kd.R (Kd.int .i64) 3 w42 w.heap.size (fun _ => True) (.slice (some ad252) x5_1.length co31) x5_1) := ⟨(by rw [hw]; exact (Kd.rx (Kd.zH (Kd.jc (g := gb257) (Kd.jK HO_5.out BK257.out (by decide)) (fun _ hk => hk.2) #[.int .i64 ((za l0 x48_2).f0), .int .i64 ((za l0 x48_2).f1), .int .i64 ((za l0 x48_2).f2), .int .i64 ((za l0 x48_2).f3), .string ((za l0 x48_2).f4), .int .u64 ((za l0 x48_2).f5.f0), .int .u64 ((za l0 x48_2).f5.f1), .int .u64 ((za l0 x48_2).f5.f2), .int .u64 ((za l0 x48_2).f5.f3)]) (fun _ hk => trivial))))⟩; replace HO_7 : zb (Kd.R k34 34 w42 w.heap.size (fun k_ => k_ ≠ gb257) u7 x7_2) := ⟨(by rw [hw]; exact (Kd.rx (Kd.zH (Kd.jc (g := gb257) (Kd.zH HO_7.out (fun k_ hk => (⟨hk, hk.2⟩ : _ ∧ k_ ≠ gb257))) (fun _ hk => hk.2) #[.int .i64 ((za l0 x48_2).f0), .int .i64 ((za l0 x48_2).f1), .int .i64 ((za l0 x48_2).f2), .int .i64 ((za l0 x48_2).f3), .string ((za l0 x48_2).f4), .int .u64 ((za l0 x48_2).f5.f0), .int .u64 ((za l0 x48_2).f5.f1), .int .u64 ((za l0 x48_2).f5.f2), .int .u64 ((za l0 x48_2).f5.f3)]) (fun _ hk => hk.1.2))))⟩; replace BK257 : zb (w42.heap[gb257]? = some (.cells #[.int .i64 ((za l0 x48_2).f0), .int .i64 ((za l0 x48_2).f1), .int .i64 ((za l0 x48_2).f2), .int .i64 ((za l0 x48_2).f3), .string ((za l0 x48_2).f4), .int .u64 ((za l0 x48_2).f5.f0), .int .u64 ((za l0 x48_2).f5.f1), .int .u64 ((za l0 x48_2).f5.f2), .int .u64 ((za l0 x48_2).f5.f3)] 34 (0, 0))) := ⟨(by rw [hw]; exact (by (with_reducible skip); refine xd (cs := #[.int .i64 0, .int .i64 0, .int .i64 0, .int .i64 0, .string (⟨#[]⟩ : ByteArray), .int .u64 0, .int .u64 0, .int .u64 0, .int .u64 0]) ?_ _ rfl; (with_reducible skip); exact BK257.out))⟩; replace HB : zb (Below w.heap.size w w42) := ⟨(by rw [hw]; exact bsq)⟩; clear hw; have p258 : 0 ≤ (x48_2 : Int) := dq; have q258 : x48_2 < (l1.length : Int) := dq; obtain ⟨ad258, e258, hx258_0⟩ := Kd.je HR1.out x48_2 p258 q258; (try rw [← Nbq38.out] at hx258_0); cases e258; replace hx258_0 := cb HB.out hx258_0; replace p258 := eq_true p258; replace q258 := eq_true q258))
         go_roundg k2
         case measure => have := HK1.out; have := HK2.out; omega
         case rel => exact ⟨(x7_2), (wrap64 (x48_2 + 1)), eq0, H', ⟨by have := HK1.out; have := HK2.out; omega⟩, ⟨Kd.rx HO_5.out⟩, ⟨Kd.rx (Kd.zH HO_7.out (fun _ hk => trivial))⟩, ⟨bsq⟩⟩
        ·replace c39 := Bool.eq_false_iff.mpr c39
         subst c39
         replace H := ifF H
         replace H := zO H; obtain ⟨t259, A43, H⟩ := H
         by_cases c44 : t259 = true
         ·subst c44
          replace H := ifT H
          obtain ⟨ji45, hji45⟩ : ∃ j_ : Int, (wrap64 (x48_2 + ((za l0 x48_2).f1))) = j_ := ⟨_, rfl⟩
          rw [hji45] at H
          have hji45w : (IntKind.i64.wrap (x48_2 + ((za l0 x48_2).f1))) = ji45 := (qd _).trans hji45
          replace H := qh H; obtain ⟨c46, H⟩ := H
          have c46b0 := decide_eq_true c46
          clear c46
          replace H := qh H; obtain ⟨c47, H⟩ := H
          have c47b0 := decide_eq_true c47
          clear c47
          replace H := qh H; obtain ⟨c48, H⟩ := H
          have c48b0 := decide_eq_true c48
          clear c48
          replace H := qh H; obtain ⟨c49, H⟩ := H
          have LMc49 := zb.mk c49
          clear c49
          obtain ⟨y262, hy262⟩ : ∃ y_ : List (S34), y_ = (x7_2 ++ [(⟨(za l0 x48_2).f0, wrap64 ((rd x5_1 (ji45)) - (rd x5_1 x48_2)), (za l0 x48_2).f2, (za l0 x48_2).f3, (za l0 x48_2).f4, (⟨(za l0 x48_2).f5.f0, (za l0 x48_2).f5.f1, (za l0 x48_2).f5.f2, (za l0 x48_2).f5.f3⟩ : S32)⟩ : S34)]) := ⟨_, rfl⟩
          replace H : (zP.l1 k2 l1 x5_1 y262 l0 (l0.length : Int) (wrap64 (x48_2 + 1))) = some r := by (rw [hy262]; with_reducible exact H)
          have Ny262 := zb.mk hy262
          clear hy262
          have H' := zb.mk H
          clear H
          have p256 : 0 ≤ (x48_2 : Int) := dq
          have q256 : x48_2 < (l0.length : Int) := dq
          obtain ⟨ad256, e256, hx256_0, hx256_1, hx256_2, hx256_3, hx256_4, hx256_5, hx256_6, hx256_7, hx256_8⟩ := zU HR0.out x48_2 p256 q256
          cases e256
          replace hx256_0 := cb HB.out hx256_0
          replace hx256_1 := cb HB.out hx256_1
          replace hx256_2 := cb HB.out hx256_2
          replace hx256_3 := cb HB.out hx256_3
          replace hx256_4 := cb HB.out hx256_4
          replace hx256_5 := cb HB.out hx256_5
          replace hx256_6 := cb HB.out hx256_6
          replace hx256_7 := cb HB.out hx256_7
          replace hx256_8 := cb HB.out hx256_8
          replace p256 := eq_true p256
          replace q256 := eq_true q256
          try go_wp2_with (first | ((with_reducible refine z3 (N := 9) rfl ?_); refine qk ?hg (N := 9) ?hd (cs := #[.int .i64 0, .int .i64 0, .int .i64 0, .int .i64 0, .string (⟨#[]⟩ : ByteArray), .int .u64 0, .int .u64 0, .int .u64 0, .int .u64 0]) (t := 34) ?hr ?_; (case hd => rfl); (case hg => rfl); (case hr => (go_simp; done)); intro gb257 hg w50 hbox hb; replace HO_5 := Kd.rbl HO_5 hb; replace HO_7 := zb.mk (Kd.xk (Kd.xT (Kd.rx HO_7.out) gb257 (Nat.le_of_eq hg.symm)) hb); have BK257 := zb.mk (hbox); have GW257 := zb.mk ((by rw [hg]; exact (zj (bl HB.out)) : w.heap.size ≤ gb257)); have GE257 := zb.mk ((by rw [hg]; exact (zj (bl HB.out)) : w.heap.size ≤ gb257)); replace HB := bst HB hb; clear hb hbox hg; obtain ⟨hcz51_0, hcz51_1, hcz51_2, hcz51_3, hcz51_4, hcz51_5, hcz51_6, hcz51_7, hcz51_8⟩ := zS BK257.out; obtain ⟨hfz51_0, hfz51_1, hfz51_2, hfz51_3, hfz51_4, hfz51_5, hfz51_6, hfz51_7, hfz51_8⟩ := zR BK257.out) | ((with_reducible refine zM (t := 34) (p := 9) rfl ?_); refine zB (t := 34) (p := 9) (v := ?vo_w52) (w1 := (xr w50 gb257 #[.int .i64 ((za l0 x48_2).f0), .int .i64 ((za l0 x48_2).f1), .int .i64 ((za l0 x48_2).f2), .int .i64 ((za l0 x48_2).f3), .string ((za l0 x48_2).f4), .int .u64 ((za l0 x48_2).f5.f0), .int .u64 ((za l0 x48_2).f5.f1), .int .u64 ((za l0 x48_2).f5.f2), .int .u64 ((za l0 x48_2).f5.f3)])) ?hg ?ho ?hn ?hr ?_; (case ho => rfl); (case hg => rfl); (case hn => rfl); (case hr => (go_simp; rfl)); intro w52 hw; replace HO_5 : zb (Kd.R (Kd.int .i64) 3 w52 w.heap.size (fun _ => True) (.slice (some ad252) x5_1.length co31) x5_1) := ⟨(by rw [hw]; exact (Kd.rx (Kd.zH (Kd.jc (g := gb257) (Kd.jK HO_5.out BK257.out (by decide)) (fun _ hk => hk.2) #[.int .i64 ((za l0 x48_2).f0), .int .i64 ((za l0 x48_2).f1), .int .i64 ((za l0 x48_2).f2), .int .i64 ((za l0 x48_2).f3), .string ((za l0 x48_2).f4), .int .u64 ((za l0 x48_2).f5.f0), .int .u64 ((za l0 x48_2).f5.f1), .int .u64 ((za l0 x48_2).f5.f2), .int .u64 ((za l0 x48_2).f5.f3)]) (fun _ hk => trivial))))⟩; replace HO_7 : zb (Kd.R k34 34 w52 w.heap.size (fun k_ => k_ ≠ gb257) u7 x7_2) := ⟨(by rw [hw]; exact (Kd.rx (Kd.zH (Kd.jc (g := gb257) (Kd.zH HO_7.out (fun k_ hk => (⟨hk, hk.2⟩ : _ ∧ k_ ≠ gb257))) (fun _ hk => hk.2) #[.int .i64 ((za l0 x48_2).f0), .int .i64 ((za l0 x48_2).f1), .int .i64 ((za l0 x48_2).f2), .int .i64 ((za l0 x48_2).f3), .string ((za l0 x48_2).f4), .int .u64 ((za l0 x48_2).f5.f0), .int .u64 ((za l0 x48_2).f5.f1), .int .u64 ((za l0 x48_2).f5.f2), .int .u64 ((za l0 x48_2).f5.f3)]) (fun _ hk => hk.1.2))))⟩; replace BK257 : zb (w52.heap[gb257]? = some (.cells #[.int .i64 ((za l0 x48_2).f0), .int .i64 ((za l0 x48_2).f1), .int .i64 ((za l0 x48_2).f2), .int .i64 ((za l0 x48_2).f3), .string ((za l0 x48_2).f4), .int .u64 ((za l0 x48_2).f5.f0), .int .u64 ((za l0 x48_2).f5.f1), .int .u64 ((za l0 x48_2).f5.f2), .int .u64 ((za l0 x48_2).f5.f3)] 34 (0, 0))) := ⟨(by rw [hw]; exact (by (with_reducible skip); refine xd (cs := #[.int .i64 0, .int .i64 0, .int .i64 0, .int .i64 0, .string (⟨#[]⟩ : ByteArray), .int .u64 0, .int .u64 0, .int .u64 0, .int .u64 0]) ?_ _ rfl; (with_reducible skip); exact BK257.out))⟩; replace HB : zb (Below w.heap.size w w52) := ⟨(by rw [hw]; exact bsq)⟩; clear hw; have p258 : 0 ≤ (x48_2 : Int) := dq; have q258 : x48_2 < (l1.length : Int) := dq; obtain ⟨ad258, e258, hx258_0⟩ := Kd.je HR1.out x48_2 p258 q258; (try rw [← Nbq38.out] at hx258_0); cases e258; replace hx258_0 := cb HB.out hx258_0; replace p258 := eq_true p258; replace q258 := eq_true q258; obtain ⟨hcz53_0, hcz53_1, hcz53_2, hcz53_3, hcz53_4, hcz53_5, hcz53_6, hcz53_7, hcz53_8⟩ := zS BK257.out; obtain ⟨hfz53_0, hfz53_1, hfz53_2, hfz53_3, hfz53_4, hfz53_5, hfz53_6, hfz53_7, hfz53_8⟩ := zR BK257.out) | ((with_reducible refine zc (f := 46) rfl ?_); refine zh (some 59) rfl rfl Tryd.func46 (by kernel_rfl) rfl #[.int .i64 ((za l0 x48_2).f0)] rfl hq ?_; (with_reducible refine (jk.calls ((za l0 x48_2).f0) true _ ?side1 A43.out).mono ?_); (case side1 => exact GW.below HG.out bsq); rintro e w' ⟨rfl, ⟨nd, rfl⟩⟩; refine ⟨_, rfl, ?_⟩; (try (rw [xm w52]; generalize hq_ : World.drewN w52 _ = w52; replace HO_5 : zb (Kd.R (Kd.int .i64) 3 w52 w.heap.size (fun _ => True) (.slice (some ad252) x5_1.length co31) x5_1) := ⟨by rw [← hq_]; exact (Kd.rx HO_5.out)⟩; replace HO_7 : zb (Kd.R k34 34 w52 w.heap.size (fun k_ => k_ ≠ gb257) u7 x7_2) := ⟨by rw [← hq_]; exact (Kd.rx HO_7.out)⟩; replace BK257 : zb (w52.heap[gb257]? = some (.cells #[.int .i64 ((za l0 x48_2).f0), .int .i64 ((za l0 x48_2).f1), .int .i64 ((za l0 x48_2).f2), .int .i64 ((za l0 x48_2).f3), .string ((za l0 x48_2).f4), .int .u64 ((za l0 x48_2).f5.f0), .int .u64 ((za l0 x48_2).f5.f1), .int .u64 ((za l0 x48_2).f5.f2), .int .u64 ((za l0 x48_2).f5.f3)] 34 (0, 0))) := ⟨by rw [← hq_]; exact (bx BK257.out)⟩; replace HB : zb (Below w.heap.size w w52) := ⟨by rw [← hq_]; exact bsq⟩; clear hq_))))
          have n0_ := zb.mk (Kd.R_drew HO_5.out)
          have n1_ := zb.mk (Kd.R_drew HO_7.out)
          have n2_ := zb.mk (blk_drew BK257.out)
          have n3_ := zb.mk (xY HB.out)
          clear HO_5
          clear HO_7
          clear BK257
          clear HB
          have HO_5 := n0_
          have HO_7 := n1_
          have BK257 := n2_
          have HB := n3_
          clear n0_ n1_ n2_ n3_
          have p260 : 0 ≤ ((ji45) : Int) := dq
          have q260 : (ji45) < (x5_1.length : Int) := dq
          obtain ⟨ad260, e260, hx260_0⟩ := Kd.xO (Kd.zf HO_5.out).2.2 (ji45) p260 q260
          obtain rfl : ad252 = ad260 := (by injection e260)
          replace p260 := eq_true p260
          replace q260 := eq_true q260
          have p261 : 0 ≤ (x48_2 : Int) := dq
          have q261 : x48_2 < (x5_1.length : Int) := dq
          obtain ⟨ad261, e261, hx261_0⟩ := Kd.xO (Kd.zf HO_5.out).2.2 x48_2 p261 q261
          obtain rfl : ad252 = ad261 := (by injection e261)
          replace p261 := eq_true p261
          replace q261 := eq_true q261
          refine start_ (n := 14) (S := fun w' => w'.cell? ⟨gb257, 0, none⟩ = some (.int .i64 ((za l0 x48_2).f0)) ∧ w'.cell? ⟨gb257, 1, none⟩ = some (.int .i64 ((za l0 x48_2).f1)) ∧ w'.cell? ⟨gb257, 2, none⟩ = some (.int .i64 ((za l0 x48_2).f2)) ∧ w'.cell? ⟨gb257, 3, none⟩ = some (.int .i64 ((za l0 x48_2).f3)) ∧ w'.cell? ⟨gb257, 4, none⟩ = some (.string ((za l0 x48_2).f4)) ∧ w'.cell? ⟨gb257, 5, none⟩ = some (.int .u64 ((za l0 x48_2).f5.f0)) ∧ w'.cell? ⟨gb257, 6, none⟩ = some (.int .u64 ((za l0 x48_2).f5.f1)) ∧ w'.cell? ⟨gb257, 7, none⟩ = some (.int .u64 ((za l0 x48_2).f5.f2)) ∧ w'.cell? ⟨gb257, 8, none⟩ = some (.int .u64 ((za l0 x48_2).f5.f3)) ∧ w'.cell? (ad252.add ((ji45)).toNat) = some (.int .i64 (rd x5_1 (ji45))) ∧ w'.cell? (ad252.add (x48_2).toNat) = some (.int .i64 (rd x5_1 x48_2))) (ds := [13]) #[false, false, false, false, false, false, false, false, false, false, false, false, false, false] (by kernel_rfl) rfl rfl ⟨(zL BK257.out 0).trans rfl, (zL BK257.out 1).trans rfl, (zL BK257.out 2).trans rfl, (zL BK257.out 3).trans rfl, (zL BK257.out 4).trans rfl, (zL BK257.out 5).trans rfl, (zL BK257.out 6).trans rfl, (zL BK257.out 7).trans rfl, (zL BK257.out 8).trans rfl, hx260_0, hx261_0⟩ (fun hHeld => ?_); refine with_tabW zP.tab15 zP.bits15 (fun HT_ HW_ => ?_)
          generalize w52.drew = w54 at HO_5 HO_7 BK257 HB hx260_0 hx261_0 hHeld ⊢
          refine qB (i := 0) (N := some 60) (v := ?_) (a' := ?_) #[true, false, false, false, false, false, false, false, false, false, false, false, false, false] rfl rfl (qn HT_.out (by kernel_rfl)) (fun _ _ _ h => h) (Or.inl ⟨by rfl, ?_⟩) ?_ ?_
          rotate_left
          ·intro w'
           go_simp
           with_reducible rfl
          rotate_left
          ·simp only [Act.put, List.setIfInBounds_toArray, List.set_cons_zero, List.set_cons_succ, qd, qo]
           rfl
          refine qB (i := 1) (N := some 61) (v := ?_) (a' := ?_) #[true, true, false, false, false, false, false, false, false, false, false, false, false, false] rfl rfl (qn HT_.out (by kernel_rfl)) (fun _ _ _ h => h) (Or.inl ⟨by rfl, ?_⟩) ?_ ?_
          rotate_left
          ·intro w'
           go_simp
           with_reducible rfl
          rotate_left
          ·simp only [Act.put, List.setIfInBounds_toArray, List.set_cons_zero, List.set_cons_succ, qd, qo]
           rfl
          refine qB (i := 2) (N := some 62) (v := ?_) (a' := ?_) #[true, true, true, false, false, false, false, false, false, false, false, false, false, false] rfl rfl (qn HT_.out (by kernel_rfl)) (fun _ _ _ h => h) (Or.inl ⟨by rfl, ?_⟩) ?_ ?_
          rotate_left
          ·intro w'
           go_simp
           with_reducible rfl
          rotate_left
          ·simp only [Act.put, List.setIfInBounds_toArray, List.set_cons_zero, List.set_cons_succ, qd, qo]
           rfl
          refine qB (i := 7) (N := some 67) (v := ?_) (a' := ?_) #[true, true, true, false, false, false, false, true, false, false, false, false, false, false] rfl rfl (qn HT_.out (by kernel_rfl)) (fun _ _ _ h => h) (Or.inl ⟨by rfl, ?_⟩) ?_ ?_
          rotate_left
          ·intro w'
           go_simp
           with_reducible rfl
          rotate_left
          ·simp only [Act.put, List.setIfInBounds_toArray, List.set_cons_zero, List.set_cons_succ, qd, qo]
           rfl
          refine qB (i := 8) (N := some 68) (v := ?_) (a' := ?_) #[true, true, true, false, false, false, false, true, true, false, false, false, false, false] rfl rfl (qn HT_.out (by kernel_rfl)) (fun _ _ _ h => h) (Or.inl ⟨by rfl, ?_⟩) ?_ ?_
          rotate_left
          ·intro w'
           go_simp
           with_reducible rfl
          rotate_left
          ·simp only [Act.put, List.setIfInBounds_toArray, List.set_cons_zero, List.set_cons_succ, qd, qo]
           rfl
          refine qB (i := 9) (N := some 69) (v := ?_) (a' := ?_) #[true, true, true, false, false, false, false, true, true, true, false, false, false, false] rfl rfl (qn HT_.out (by kernel_rfl)) (fun _ _ _ h => h) (Or.inl ⟨by rfl, ?_⟩) ?_ ?_
          rotate_left
          ·intro w'
           go_simp
           with_reducible rfl
          rotate_left
          ·simp only [Act.put, List.setIfInBounds_toArray, List.set_cons_zero, List.set_cons_succ, qd, qo]
           rfl
          refine take_ (i := 3) (N := some 63) (v := ?_) (a' := ?_) #[true, true, true, true, false, false, false, true, true, true, false, false, false, false] rfl rfl (jo HT_.out HW_.out (by kernel_rfl)) (fun _ _ _ h => h) (Or.inl ⟨by rfl, ?_⟩) hHeld ?_ ?_
          rotate_left
          ·rintro w' ⟨s0, s1, s2, s3, s4, s5, s6, s7, s8, s9, s10⟩
           go_simp
           with_reducible rfl
          rotate_left
          ·simp only [Act.put, List.setIfInBounds_toArray, List.set_cons_zero, List.set_cons_succ, qd, qo]
           rfl
          refine qB (i := 4) (N := some 64) (v := ?_) (a' := ?_) #[true, true, true, true, true, false, false, true, true, true, false, false, false, false] rfl rfl (qn HT_.out (by kernel_rfl)) (fun _ _ _ h => h) (Or.inl ⟨by rfl, ?_⟩) ?_ ?_
          rotate_left
          ·intro w'
           go_simp
           with_reducible rfl
          rotate_left
          ·simp only [Act.put, List.setIfInBounds_toArray, List.set_cons_zero, List.set_cons_succ, qd, qo]
           rfl
          refine qB (i := 5) (N := some 65) (v := ?_) (a' := ?_) #[true, true, true, true, true, true, false, true, true, true, false, false, false, false] rfl rfl (qn HT_.out (by kernel_rfl)) (fun _ _ _ h => h) (Or.inl ⟨by rfl, ?_⟩) ?_ ?_
          rotate_left
          ·intro w'
           go_simp
           with_reducible rfl
          rotate_left
          ·simp only [Act.put, List.setIfInBounds_toArray, List.set_cons_zero, List.set_cons_succ, qd, qo]
           rfl
          refine take_ (i := 6) (N := some 66) (v := ?_) (a' := ?_) #[true, true, true, true, true, true, true, true, true, true, false, false, false, false] rfl rfl (jo HT_.out HW_.out (by kernel_rfl)) (fun _ _ _ h => h) (Or.inl ⟨by rfl, ?_⟩) hHeld ?_ ?_
          rotate_left
          ·rintro w' ⟨s0, s1, s2, s3, s4, s5, s6, s7, s8, s9, s10⟩
           go_simp
           with_reducible rfl
          rotate_left
          ·simp only [Act.put, List.setIfInBounds_toArray, List.set_cons_zero, List.set_cons_succ, qd, qo]
           rfl
          refine take_ (i := 10) (N := some 70) (v := ?_) (a' := ?_) #[true, true, true, true, true, true, true, true, true, true, true, false, false, false] rfl rfl (jo HT_.out HW_.out (by kernel_rfl)) (fun _ _ _ h => h) (Or.inl ⟨by rfl, ?_⟩) hHeld ?_ ?_
          rotate_left
          ·rintro w' ⟨s0, s1, s2, s3, s4, s5, s6, s7, s8, s9, s10⟩
           go_simp
           with_reducible rfl
          rotate_left
          ·simp only [Act.put, List.setIfInBounds_toArray, List.set_cons_zero, List.set_cons_succ, qd, qo]
           rfl
          refine qB (i := 11) (N := some 71) (v := ?_) (a' := ?_) #[true, true, true, true, true, true, true, true, true, true, true, true, false, false] rfl rfl (qn HT_.out (by kernel_rfl)) (fun _ _ _ h => h) (Or.inl ⟨by rfl, ?_⟩) ?_ ?_
          rotate_left
          ·intro w'
           go_simp
           with_reducible rfl
          rotate_left
          ·simp only [Act.put, List.setIfInBounds_toArray, List.set_cons_zero, List.set_cons_succ, qd, qo]
           rfl
          refine qB (i := 12) (N := some 72) (v := ?_) (a' := ?_) #[true, true, true, true, true, true, true, true, true, true, true, true, true, false] rfl rfl (qn HT_.out (by kernel_rfl)) (fun _ _ _ h => h) (Or.inl ⟨by rfl, ?_⟩) ?_ ?_
          rotate_left
          ·intro w'
           go_simp
           with_reducible rfl
          rotate_left
          ·simp only [Act.put, List.setIfInBounds_toArray, List.set_cons_zero, List.set_cons_succ, qd, qo]
           rfl
          refine last_ (i := 13) (N := none) #[true, true, true, true, true, true, true, true, true, true, true, true, true, true] rfl rfl (one_of HT_.out (by kernel_rfl)) (by decide) (fun K hK => ?_)
          have hs55 : w54.cell? ⟨gb257, 1, none⟩ = some (.int .i64 ((za l0 x48_2).f1)) := (zL BK257.out 1).trans rfl
          have hfs55 := qI BK257.out 1
          refine skip_ (w1 := ?_) (by rfl) rfl ?_ ?_
          rotate_left
          ·go_simp
           rfl
          refine hK.out _ _ ?_
          clear hK K
          refine done_ (done_of HT_.out (by kernel_rfl)) ?_
          obtain ⟨hcz56_0, hcz56_1, hcz56_2, hcz56_3, hcz56_4, hcz56_5, hcz56_6, hcz56_7, hcz56_8⟩ := zS BK257.out
          obtain ⟨hfz56_0, hfz56_1, hfz56_2, hfz56_3, hfz56_4, hfz56_5, hfz56_6, hfz56_7, hfz56_8⟩ := zR BK257.out
          try go_wp2_with (((with_reducible refine qu (b := .append) (xs := #[.tmp 73, .tmp 75]) rfl ?_); at_builtin; refine Kd.xE k34 (w0 := w) w.heap.size rfl (.tmp 73) (.tmp 75) 22 34 (.agg #[(.int .i64 0), (.int .i64 0), (.int .i64 0), (.int .i64 0), (.string ⟨#[]⟩), (.int .u64 0), (.int .u64 0), (.int .u64 0), (.int .u64 0)]) 80 rfl Tryd.underlying22 info34 rfl (by decide) (by omega) u7 x7_2 (⟨(za l0 x48_2).f0, wrap64 ((rd x5_1 (ji45)) - (rd x5_1 x48_2)), (za l0 x48_2).f2, (za l0 x48_2).f3, (za l0 x48_2).f4, (⟨(za l0 x48_2).f5.f0, (za l0 x48_2).f5.f1, (za l0 x48_2).f5.f2, (za l0 x48_2).f5.f3⟩ : S32)⟩ : S34) [.int .i64 ((za l0 x48_2).f0), .int .i64 (wrap64 ((rd x5_1 (ji45)) - (rd x5_1 x48_2))), .int .i64 ((za l0 x48_2).f2), .int .i64 ((za l0 x48_2).f3), .string ((za l0 x48_2).f4), .int .u64 ((za l0 x48_2).f5.f0), .int .u64 ((za l0 x48_2).f5.f1), .int .u64 ((za l0 x48_2).f5.f2), .int .u64 ((za l0 x48_2).f5.f3)] (fun k_ => k_ ≠ gb257) (fun _ => False) rfl (by (go_simp; done)) ?aP (fun _ hk => hk.elim) ?aF ?aO ?aB ?aS ?aL ?_; (case aP => exact xq _ _ _ (⟨(za l0 x48_2).f0, wrap64 ((rd x5_1 (ji45)) - (rd x5_1 x48_2)), (za l0 x48_2).f2, (za l0 x48_2).f3, (za l0 x48_2).f4, (⟨(za l0 x48_2).f5.f0, (za l0 x48_2).f5.f1, (za l0 x48_2).f5.f2, (za l0 x48_2).f5.f3⟩ : S32)⟩ : S34)); (case aB => exact bsq); (case aF => exact (fun k_ hk => Kd.freshB (g := gb257) (o := .cells #[.int .i64 ((za l0 x48_2).f0), .int .i64 (wrap64 ((rd x5_1 (ji45)) - (rd x5_1 x48_2))), .int .i64 ((za l0 x48_2).f2), .int .i64 ((za l0 x48_2).f3), .string ((za l0 x48_2).f4), .int .u64 ((za l0 x48_2).f5.f0), .int .u64 ((za l0 x48_2).f5.f1), .int .u64 ((za l0 x48_2).f5.f2), .int .u64 ((za l0 x48_2).f5.f3)] 34 (0, 0)) (by (with_reducible skip); refine jw (cs := #[.int .i64 ((za l0 x48_2).f0), .int .i64 ((za l0 x48_2).f1), .int .i64 ((za l0 x48_2).f2), .int .i64 ((za l0 x48_2).f3), .string ((za l0 x48_2).f4), .int .u64 ((za l0 x48_2).f5.f0), .int .u64 ((za l0 x48_2).f5.f1), .int .u64 ((za l0 x48_2).f5.f2), .int .u64 ((za l0 x48_2).f5.f3)]) ?_ 1 _ rfl; (with_reducible skip); exact BK257.out) k_ hk)); (case aO => exact (by (with_reducible skip); exact Kd.zH (Kd.jG (p := ⟨gb257, 1, none⟩) (Kd.zH HO_7.out (fun k_ hk => (⟨hk, hk⟩ : _ ∧ k_ ≠ gb257))) (fun _ hk => hk.2) (.int .i64 (wrap64 ((rd x5_1 (ji45)) - (rd x5_1 x48_2))))) (fun _ hk => hk.1))); (case aS => exact (zj bsq)); (case aL => have := LMc49.out; omega); intro v263 w57 ho hb hg hat; rw [← Ny262.out] at ho; replace HO_5 := zb.mk (Kd.R_over' (by (with_reducible skip); exact (Kd.zH (Kd.jG (p := ⟨gb257, 1, none⟩) (Kd.jK HO_5.out BK257.out (by decide)) (fun _ hk => hk.2) (.int .i64 (wrap64 ((rd x5_1 (ji45)) - (rd x5_1 x48_2))))) (fun _ h_ => h_.1))) (Kd.R_typed (by (with_reducible skip); exact (Kd.zH (Kd.jG (p := ⟨gb257, 1, none⟩) (Kd.zH HO_7.out (fun k_ hk => (⟨hk, hk⟩ : _ ∧ k_ ≠ gb257))) (fun _ hk => hk.2) (.int .i64 (wrap64 ((rd x5_1 (ji45)) - (rd x5_1 x48_2))))) (fun _ h_ => h_.1)))) (by decide) hg); replace BK257 := zb.mk (xc (g := gb257) (o := .cells #[.int .i64 ((za l0 x48_2).f0), .int .i64 (wrap64 ((rd x5_1 (ji45)) - (rd x5_1 x48_2))), .int .i64 ((za l0 x48_2).f2), .int .i64 ((za l0 x48_2).f3), .string ((za l0 x48_2).f4), .int .u64 ((za l0 x48_2).f5.f0), .int .u64 ((za l0 x48_2).f5.f1), .int .u64 ((za l0 x48_2).f5.f2), .int .u64 ((za l0 x48_2).f5.f3)] 34 (0, 0)) (by (with_reducible skip); refine jw (cs := #[.int .i64 ((za l0 x48_2).f0), .int .i64 ((za l0 x48_2).f1), .int .i64 ((za l0 x48_2).f2), .int .i64 ((za l0 x48_2).f3), .string ((za l0 x48_2).f4), .int .u64 ((za l0 x48_2).f5.f0), .int .u64 ((za l0 x48_2).f5.f1), .int .u64 ((za l0 x48_2).f5.f2), .int .u64 ((za l0 x48_2).f5.f3)]) ?_ 1 _ rfl; (with_reducible skip); exact BK257.out) hg (Kd.R_away HO_7.out (fun _ hk => hk))); replace HB := zb.mk (hb); have HO264 := zb.mk (ho); clear HO_7; clear ho hb hg hat))
          go_roundg k2
          case measure => have := HK1.out; have := HK2.out; omega
          case rel => exact ⟨(y262), (wrap64 (x48_2 + 1)), eq0, H', ⟨by have := HK1.out; have := HK2.out; omega⟩, ⟨Kd.rx HO_5.out⟩, ⟨Kd.rx (Kd.zH HO264.out (fun _ hk => trivial))⟩, ⟨bsq⟩⟩
         ·replace c44 := Bool.eq_false_iff.mpr c44
          subst c44
          replace H := ifF H
          replace H := qh H; obtain ⟨c58, H⟩ := H
          have LMc58 := zb.mk c58
          clear c58
          obtain ⟨y265, hy265⟩ : ∃ y_ : List (S34), y_ = (x7_2 ++ [(⟨(za l0 x48_2).f0, (za l0 x48_2).f1, (za l0 x48_2).f2, (za l0 x48_2).f3, (za l0 x48_2).f4, (⟨(za l0 x48_2).f5.f0, (za l0 x48_2).f5.f1, (za l0 x48_2).f5.f2, (za l0 x48_2).f5.f3⟩ : S32)⟩ : S34)]) := ⟨_, rfl⟩
          replace H : (zP.l1 k2 l1 x5_1 y265 l0 (l0.length : Int) (wrap64 (x48_2 + 1))) = some r := by (rw [hy265]; with_reducible exact H)
          have Ny265 := zb.mk hy265
          clear hy265
          have H' := zb.mk H
          clear H
          have p256 : 0 ≤ (x48_2 : Int) := dq
          have q256 : x48_2 < (l0.length : Int) := dq
          obtain ⟨ad256, e256, hx256_0, hx256_1, hx256_2, hx256_3, hx256_4, hx256_5, hx256_6, hx256_7, hx256_8⟩ := zU HR0.out x48_2 p256 q256
          cases e256
          replace hx256_0 := cb HB.out hx256_0
          replace hx256_1 := cb HB.out hx256_1
          replace hx256_2 := cb HB.out hx256_2
          replace hx256_3 := cb HB.out hx256_3
          replace hx256_4 := cb HB.out hx256_4
          replace hx256_5 := cb HB.out hx256_5
          replace hx256_6 := cb HB.out hx256_6
          replace hx256_7 := cb HB.out hx256_7
          replace hx256_8 := cb HB.out hx256_8
          replace p256 := eq_true p256
          replace q256 := eq_true q256
          go_wp2_with (first | ((with_reducible refine z3 (N := 9) rfl ?_); refine qk ?hg (N := 9) ?hd (cs := #[.int .i64 0, .int .i64 0, .int .i64 0, .int .i64 0, .string (⟨#[]⟩ : ByteArray), .int .u64 0, .int .u64 0, .int .u64 0, .int .u64 0]) (t := 34) ?hr ?_; (case hd => rfl); (case hg => rfl); (case hr => (go_simp; done)); intro gb257 hg w59 hbox hb; replace HO_5 := Kd.rbl HO_5 hb; replace HO_7 := zb.mk (Kd.xk (Kd.xT (Kd.rx HO_7.out) gb257 (Nat.le_of_eq hg.symm)) hb); have BK257 := zb.mk (hbox); have GW257 := zb.mk ((by rw [hg]; exact (zj (bl HB.out)) : w.heap.size ≤ gb257)); have GE257 := zb.mk ((by rw [hg]; exact (zj (bl HB.out)) : w.heap.size ≤ gb257)); replace HB := bst HB hb; clear hb hbox hg; obtain ⟨hcz60_0, hcz60_1, hcz60_2, hcz60_3, hcz60_4, hcz60_5, hcz60_6, hcz60_7, hcz60_8⟩ := zS BK257.out; obtain ⟨hfz60_0, hfz60_1, hfz60_2, hfz60_3, hfz60_4, hfz60_5, hfz60_6, hfz60_7, hfz60_8⟩ := zR BK257.out) | ((with_reducible refine zM (t := 34) (p := 9) rfl ?_); refine zB (t := 34) (p := 9) (v := ?vo_w61) (w1 := (xr w59 gb257 #[.int .i64 ((za l0 x48_2).f0), .int .i64 ((za l0 x48_2).f1), .int .i64 ((za l0 x48_2).f2), .int .i64 ((za l0 x48_2).f3), .string ((za l0 x48_2).f4), .int .u64 ((za l0 x48_2).f5.f0), .int .u64 ((za l0 x48_2).f5.f1), .int .u64 ((za l0 x48_2).f5.f2), .int .u64 ((za l0 x48_2).f5.f3)])) ?hg ?ho ?hn ?hr ?_; (case ho => rfl); (case hg => rfl); (case hn => rfl); (case hr => (go_simp; rfl)); intro w61 hw; replace HO_5 : zb (Kd.R (Kd.int .i64) 3 w61 w.heap.size (fun _ => True) (.slice (some ad252) x5_1.length co31) x5_1) := ⟨(by rw [hw]; exact (Kd.rx (Kd.zH (Kd.jc (g := gb257) (Kd.jK HO_5.out BK257.out (by decide)) (fun _ hk => hk.2) #[.int .i64 ((za l0 x48_2).f0), .int .i64 ((za l0 x48_2).f1), .int .i64 ((za l0 x48_2).f2), .int .i64 ((za l0 x48_2).f3), .string ((za l0 x48_2).f4), .int .u64 ((za l0 x48_2).f5.f0), .int .u64 ((za l0 x48_2).f5.f1), .int .u64 ((za l0 x48_2).f5.f2), .int .u64 ((za l0 x48_2).f5.f3)]) (fun _ hk => trivial))))⟩; replace HO_7 : zb (Kd.R k34 34 w61 w.heap.size (fun k_ => k_ ≠ gb257) u7 x7_2) := ⟨(by rw [hw]; exact (Kd.rx (Kd.zH (Kd.jc (g := gb257) (Kd.zH HO_7.out (fun k_ hk => (⟨hk, hk.2⟩ : _ ∧ k_ ≠ gb257))) (fun _ hk => hk.2) #[.int .i64 ((za l0 x48_2).f0), .int .i64 ((za l0 x48_2).f1), .int .i64 ((za l0 x48_2).f2), .int .i64 ((za l0 x48_2).f3), .string ((za l0 x48_2).f4), .int .u64 ((za l0 x48_2).f5.f0), .int .u64 ((za l0 x48_2).f5.f1), .int .u64 ((za l0 x48_2).f5.f2), .int .u64 ((za l0 x48_2).f5.f3)]) (fun _ hk => hk.1.2))))⟩; replace BK257 : zb (w61.heap[gb257]? = some (.cells #[.int .i64 ((za l0 x48_2).f0), .int .i64 ((za l0 x48_2).f1), .int .i64 ((za l0 x48_2).f2), .int .i64 ((za l0 x48_2).f3), .string ((za l0 x48_2).f4), .int .u64 ((za l0 x48_2).f5.f0), .int .u64 ((za l0 x48_2).f5.f1), .int .u64 ((za l0 x48_2).f5.f2), .int .u64 ((za l0 x48_2).f5.f3)] 34 (0, 0))) := ⟨(by rw [hw]; exact (by (with_reducible skip); refine xd (cs := #[.int .i64 0, .int .i64 0, .int .i64 0, .int .i64 0, .string (⟨#[]⟩ : ByteArray), .int .u64 0, .int .u64 0, .int .u64 0, .int .u64 0]) ?_ _ rfl; (with_reducible skip); exact BK257.out))⟩; replace HB : zb (Below w.heap.size w w61) := ⟨(by rw [hw]; exact bsq)⟩; clear hw; have p258 : 0 ≤ (x48_2 : Int) := dq; have q258 : x48_2 < (l1.length : Int) := dq; obtain ⟨ad258, e258, hx258_0⟩ := Kd.je HR1.out x48_2 p258 q258; (try rw [← Nbq38.out] at hx258_0); cases e258; replace hx258_0 := cb HB.out hx258_0; replace p258 := eq_true p258; replace q258 := eq_true q258; obtain ⟨hcz62_0, hcz62_1, hcz62_2, hcz62_3, hcz62_4, hcz62_5, hcz62_6, hcz62_7, hcz62_8⟩ := zS BK257.out; obtain ⟨hfz62_0, hfz62_1, hfz62_2, hfz62_3, hfz62_4, hfz62_5, hfz62_6, hfz62_7, hfz62_8⟩ := zR BK257.out) | ((with_reducible refine zc (f := 46) rfl ?_); refine zh (some 59) rfl rfl Tryd.func46 (by kernel_rfl) rfl #[.int .i64 ((za l0 x48_2).f0)] rfl hq ?_; (with_reducible refine (jk.calls ((za l0 x48_2).f0) false _ ?side1 A43.out).mono ?_); (case side1 => exact GW.below HG.out bsq); rintro e w' ⟨rfl, ⟨nd, rfl⟩⟩; refine ⟨_, rfl, ?_⟩) | ((with_reducible refine qu (b := .append) (xs := #[.tmp 73, .tmp 75]) rfl ?_); at_builtin; refine Kd.xE k34 (w0 := w) w.heap.size rfl (.tmp 73) (.tmp 75) 22 34 (.agg #[(.int .i64 0), (.int .i64 0), (.int .i64 0), (.int .i64 0), (.string ⟨#[]⟩), (.int .u64 0), (.int .u64 0), (.int .u64 0), (.int .u64 0)]) 80 rfl Tryd.underlying22 info34 rfl (by decide) (by omega) u7 x7_2 (⟨(za l0 x48_2).f0, (za l0 x48_2).f1, (za l0 x48_2).f2, (za l0 x48_2).f3, (za l0 x48_2).f4, (⟨(za l0 x48_2).f5.f0, (za l0 x48_2).f5.f1, (za l0 x48_2).f5.f2, (za l0 x48_2).f5.f3⟩ : S32)⟩ : S34) [.int .i64 ((za l0 x48_2).f0), .int .i64 ((za l0 x48_2).f1), .int .i64 ((za l0 x48_2).f2), .int .i64 ((za l0 x48_2).f3), .string ((za l0 x48_2).f4), .int .u64 ((za l0 x48_2).f5.f0), .int .u64 ((za l0 x48_2).f5.f1), .int .u64 ((za l0 x48_2).f5.f2), .int .u64 ((za l0 x48_2).f5.f3)] (fun k_ => k_ ≠ gb257) (fun _ => False) rfl rfl ?aP (fun _ hk => hk.elim) ?aF ?aO ?aB ?aS ?aL ?_; (case aP => exact xq _ _ _ (⟨(za l0 x48_2).f0, (za l0 x48_2).f1, (za l0 x48_2).f2, (za l0 x48_2).f3, (za l0 x48_2).f4, (⟨(za l0 x48_2).f5.f0, (za l0 x48_2).f5.f1, (za l0 x48_2).f5.f2, (za l0 x48_2).f5.f3⟩ : S32)⟩ : S34)); (case aB => exact bsq); (case aF => exact (fun k_ hk => Kd.freshB (g := gb257) (o := .cells #[.int .i64 ((za l0 x48_2).f0), .int .i64 ((za l0 x48_2).f1), .int .i64 ((za l0 x48_2).f2), .int .i64 ((za l0 x48_2).f3), .string ((za l0 x48_2).f4), .int .u64 ((za l0 x48_2).f5.f0), .int .u64 ((za l0 x48_2).f5.f1), .int .u64 ((za l0 x48_2).f5.f2), .int .u64 ((za l0 x48_2).f5.f3)] 34 (0, 0)) (bx BK257.out) k_ hk)); (case aO => exact (Kd.rx HO_7.out)); (case aS => exact (zj bsq)); (case aL => have := LMc58.out; omega); intro v266 w63 ho hb hg hat; rw [← Ny265.out] at ho; replace HO_5 := zb.mk (Kd.R_over' (Kd.rx HO_5.out) (Kd.R_typed (Kd.rx HO_7.out)) (by decide) hg); replace BK257 := zb.mk (xc (g := gb257) (o := .cells #[.int .i64 ((za l0 x48_2).f0), .int .i64 ((za l0 x48_2).f1), .int .i64 ((za l0 x48_2).f2), .int .i64 ((za l0 x48_2).f3), .string ((za l0 x48_2).f4), .int .u64 ((za l0 x48_2).f5.f0), .int .u64 ((za l0 x48_2).f5.f1), .int .u64 ((za l0 x48_2).f5.f2), .int .u64 ((za l0 x48_2).f5.f3)] 34 (0, 0)) (bx BK257.out) hg (Kd.R_away HO_7.out (fun _ hk => hk))); replace HB := zb.mk (hb); have HO267 := zb.mk (ho); clear HO_7; clear ho hb hg hat))
          go_roundg k2
          case measure => have := HK1.out; have := HK2.out; omega
          case rel => exact ⟨(y265), (wrap64 (x48_2 + 1)), eq0, H', ⟨by have := HK1.out; have := HK2.out; omega⟩, ⟨Kd.rx HO_5.out⟩, ⟨Kd.rx (Kd.zH HO267.out (fun _ hk => trivial))⟩, ⟨bsq⟩⟩
       ·rw [if_neg c34] at H
        have c34b0 := decide_eq_false c34
        clear c34
        obtain rfl := Option.some.inj H
        go_wp2
        go_ret
        exact ⟨_, by rfl, Kd.rx HO_7.out, bl HB.out⟩
 ·rw [if_neg c4] at H
  exact absurd H (by simp)
def qX.l0 : Nat → List (S34) → List Bool → List Bool → Int → Int → Option ((List (S34)))
 | 0, _, _, _, _, _ => none
 | k + 1, x0, x3, x5, x16, x17 => if x17 < x16 then (if 0 ≤ x17 then (if x17 < (x3.length : Int) then (if x17 < (x5.length : Int) then (qX.l0 k x0 x3 (x5.set (x17 : Int).toNat (!(rdOf false x3 x17))) x16 (wrap64 (x17 + 1))) else (none)) else (none)) else (none)) else ((zP.f k x0 x5).bind fun t277 => (some t277))
def qX.f (k : Nat) (l0 : List (S34)) : Option ((List (S34))) := (qt.f k l0).bind fun bt268 => (if 0 ≤ (l0.length : Int) then (if ((l0.length : Int) : Int).toNat ≤ 281474976710656 then ((some (List.replicate ((l0.length : Int) : Int).toNat false : List Bool)).bind fun y272 => (qX.l0 k l0 bt268.1 y272 (y272.length : Int) 0)) else (none)) else (none))
theorem qX.calls (k : Nat) (A0 : Option Addr) (c0 : Nat) (l0 r : List (S34)) (w : World) (hG : GW w) (hr0 : Kd.C k34 w A0 l0.length l0) (hc0 : l0.length ≤ c0) (h : qX.f k l0 = some r) :
  Calls Tryd.prog 27 #[.slice A0 l0.length c0] w fun e w' => ∃ v0_ : Value, e = .returned (v0_) ∧ Kd.R k34 34 w' w.heap.size (fun _ => True) v0_ r ∧ Below w.heap.size w w' := by
 have HR0 := zb.mk hr0
 have HC0 := zb.mk hc0
 clear hr0 hc0
 have HG := zb.mk hG
 clear hG
 have HB := zb.mk (Below.refl w.heap.size w)
 have H : ((qt.f k l0).bind fun bt268 => (if 0 ≤ (l0.length : Int) then (if ((l0.length : Int) : Int).toNat ≤ 281474976710656 then ((some (List.replicate ((l0.length : Int) : Int).toNat false : List Bool)).bind fun y272 => (qX.l0 k l0 bt268.1 y272 (y272.length : Int) 0)) else (none)) else (none))) = some r := h
 clear h
 replace H := zO H; obtain ⟨⟨t268, t269⟩, A2, H⟩ := H; try dsimp only at H
 by_cases c3 : 0 ≤ (l0.length : Int)
 ·rw [if_pos c3] at H
  have c3b0 := eq_true c3
  have c3b1 := decide_eq_true c3
  clear c3
  replace H := qh H; obtain ⟨c4, H⟩ := H
  have c4b0 := eq_true c4
  have c4b1 := decide_eq_true c4
  clear c4
  obtain ⟨y272, Ny272, H⟩ := bindY H; try dsimp only at H
  have H' := zb.mk H
  clear H
  go_enter Tryd.func27, Tryd.ntmps27
  go_wp2_with (first | ((with_reducible refine zc (f := 12) rfl ?_); refine zh (some 9) rfl rfl Tryd.func12 (by kernel_rfl) rfl #[.slice A0 l0.length c0] rfl hq ?_; (with_reducible refine (qt.calls k _ _ l0 t268 t269 _ ?side3 ?side1 ?side2 A2.out).mono ?_); (case side1 => exact Kd.cx HR0.out); (case side2 => exact HC0.out); (case side3 => exact gb HG HB); rintro e w5 ⟨v270, rfl, ho0, hb⟩; refine ⟨_, rfl, ?_⟩; have HO271 := zb.mk (Kd.rlo ho0 HB); replace HB := bst HB hb; (try clear hb); (try clear ho0)) | ((with_reducible refine z3 (N := 14) rfl ?_); refine Kd.R_make Kd.bool _ 4 rfl (N := 14) rfl 27 _ _ rfl (l0.length : Int) rfl rfl Tryd.underlying27 (.bool false) 1 info4 rfl (by decide) (by omega) false (ok := fun _ => True) (okp := fun _ => True) rfl (fun _ hk => hk) trivial (dq) (Nat.le_trans (Nat.mul_le_mul_right _ (dq : (l0.length : Int).toNat ≤ 281474976710656)) (by omega)) (Below.refl _ _) (Nat.le_refl _) ?_; intro v273 w6 ho7 hb hg_ hnew_; clear hg_ hnew_; (rw [← Ny272.out] at ho7); have HO274 := zb.mk (Kd.rlo (Kd.zu ho7 (Kd.qg (Kd.rx HO271.out))) HB); replace HO271 := Kd.eld HO271 ho7 hb; replace HB := bst HB hb; clear hb ho7; obtain ⟨Ao8, co8, eo8⟩ := Kd.zw HO274.out; subst eo8))
  go_loopg [17] k (fun kq v17 w' => ∃ (x5_1 : List Bool) (x17_1 : Int), v17 = .int .i64 x17_1 ∧ zb (qX.l0 kq l0 t268 x5_1 (y272.length : Int) x17_1 = some r) ∧ zb (kq ≤ k) ∧ zb (Kd.R Kd.bool 4 w' w.heap.size (fun k_ => some k_ ≠ ((.slice Ao8 y272.length co8) : Value).ownBlock) v270 t268) ∧ zb (Kd.R Kd.bool 4 w' w.heap.size (fun k_ => some k_ ≠ (v270 : Value).ownBlock) (.slice Ao8 y272.length co8) x5_1) ∧ zb (Below w.heap.size w w'))
  case atStart => exact ⟨(y272), (0), eq0, H', ⟨Nat.le_refl _⟩, ⟨Kd.rx (Kd.zH HO271.out (fun _ hk => hk.2))⟩, ⟨Kd.rx (Kd.zH HO274.out (fun _ hk => hk.2))⟩, ⟨bl HB.out⟩⟩
  case round =>
   clear H'
   (try clear c3b0); (try clear c3b1); (try clear c4b0); (try clear c4b1)
   obtain ⟨x5_1, x17_1, rfl, HA, HK1, HO_3, HO_5, HB⟩ := hrel
   have hl5_1 := (Kd.zf HO_5.out).1
   rw [hl5_1] at HO_5
   (try simp only [hl5_1])
   (try simp only [hl5_1] at HO_3)
   cases gk with
   | zero => exact absurd HA.out (by simp [qX.l0])
   | succ k1 =>
    have H := HA.out
    clear HA
    simp only [qX.l0] at H
    by_cases c9 : x17_1 < (y272.length : Int)
    ·rw [if_pos c9] at H
     have c9b0 := decide_eq_true c9
     (try (have c9b0l := c9b0; simp only [hl5_1] at c9b0l))
     clear c9
     replace H := qh H; obtain ⟨c10, H⟩ := H
     have c10b0 := decide_eq_true c10
     clear c10
     replace H := qh H; obtain ⟨c11, H⟩ := H
     have c11b0 := decide_eq_true c11
     clear c11
     replace H := qh H; obtain ⟨c12, H⟩ := H
     have c12b0 := decide_eq_true c12
     clear c12
     obtain ⟨y276, hy276⟩ : ∃ y_ : List Bool, y_ = (x5_1.set (x17_1 : Int).toNat (!(rdOf false t268 x17_1))) := ⟨_, rfl⟩
     replace H : (qX.l0 k1 l0 t268 y276 (y272.length : Int) (wrap64 (x17_1 + 1))) = some r := by (rw [hy276]; with_reducible exact H)
     have Ny276 := zb.mk hy276
     clear hy276
     have H' := zb.mk H
     clear H
     obtain ⟨Ao14, co14, eo14⟩ := Kd.zw HO_3.out
     subst eo14
     have p275 : 0 ≤ (x17_1 : Int) := dq
     have q275 : x17_1 < (t268.length : Int) := dq
     obtain ⟨ad275, e275, hx275_0⟩ := Kd.je (Kd.zf HO_3.out).2.2 x17_1 p275 q275
     cases e275
     replace p275 := eq_true p275
     replace q275 := eq_true q275
     have p13 : 0 ≤ (x17_1 : Int) := dq
     have q13 : (x17_1 : Int) < ((x5_1.length : Int) : Int) := dq
     obtain ⟨go13, co13, eo13, gb13, gl13, cl13, HG13⟩ := Kd.xR HO_5.out (by omega)
     (cases eo13)
     have GB13 := zb.mk gb13
     have GG13 := zb.mk HG13
     clear gb13 gl13 HG13
     obtain ⟨hx13_0, hf13_0⟩ := Kd.xG false HO_5.out (x17_1 : Int) p13 q13
     replace p13 := eq_true p13
     replace q13 := eq_true q13
     have HP15 := Kd.jL HO_5.out (x17_1 : Int) (!(rdOf false t268 x17_1))
     go_wp2_with (((with_reducible refine zM (t := 4) (p := 27) rfl ?_); refine zB (t := 4) (p := 27) (v := ?vo_w16) (w1 := (wr.setCell ⟨go13, (x17_1 : Int).toNat, none⟩ (.bool (!(rdOf false t268 x17_1))))) ?hg ?ho ?hn ?hr ?_; (case ho => rfl); (case hg => rfl); (case hn => rfl); (case hr => (go_simp; done)); intro w16 hw; have hg : wr.grownBy w16 (some go13) := (by rw [hw]; exact HP15.2); have hp_ : Kd.R Kd.bool 4 w16 w.heap.size (fun k_ => some k_ ≠ (.slice (some ad275) t268.length co14 : Value).ownBlock) (.slice (some ⟨go13, 0, none⟩) x5_1.length co8) y276 := (by rw [hw, Ny276.out]; exact HP15.1); clear HP15; replace HO_3 := zb.mk (Kd.R_after (v := (.slice (some ⟨go13, 0, none⟩) x5_1.length co8)) (v1 := (.slice (some ⟨go13, 0, none⟩) x5_1.length co8)) (ok := (fun _ => True)) (Kd.rx (Kd.zH HO_3.out (fun _ hk => ⟨trivial, hk⟩))) hg (.inl rfl)); replace HO_5 := zb.mk (hp_); replace HB := zb.mk ((by rw [hw]; exact zz (HB.out) GB13.out : Below w.heap.size w w16)); clear hg hw hp_))
     (try simp only [← hl5_1])
     go_roundg k1
     case measure => have := HK1.out; omega
     case rel => exact ⟨(y276), (wrap64 (x17_1 + 1)), eq0, H', ⟨by have := HK1.out; omega⟩, ⟨by (try simp only [hl5_1]); (with_reducible skip); exact Kd.zH HO_3.out (fun _ hk => hk.2)⟩, ⟨by (try simp only [hl5_1]); (with_reducible skip); exact HO_5.out⟩, ⟨bl HB.out⟩⟩
    ·rw [if_neg c9] at H
     have c9b0 := decide_eq_false c9
     (try (have c9b0l := c9b0; simp only [hl5_1] at c9b0l))
     clear c9
     replace H := zO H; obtain ⟨t277, A17, H⟩ := H
     obtain rfl := Option.some.inj H
     go_wp2_with (((with_reducible refine zc (f := 48) rfl ?_); refine zh (some 31) rfl rfl Tryd.func48 (by kernel_rfl) rfl #[.slice A0 l0.length c0, .slice Ao8 x5_1.length co8] rfl hq ?_; (with_reducible refine (zP.calls k1 _ _ l0 _ _ x5_1 t277 _ ?side5 ?side1 ?side2 ?side3 ?side4 A17.out).mono ?_); (case side1 => exact Kd.cx (Kd.zF HR0.out HB.out)); (case side2 => exact HC0.out); (case side3 => repeat (exact (Kd.zf HO_5.out).2.2)); (case side4 => exact (Kd.zf HO_5.out).2.1); (case side5 => exact gb HG HB); rintro e w18 ⟨v278, rfl, ho0, hb⟩; refine ⟨_, rfl, ?_⟩; replace HO_3 := Kd.rbl HO_3 hb; replace HO_5 := Kd.rbl HO_5 hb; have HO279 := zb.mk (Kd.rlo ho0 HB); replace HB := bst HB hb; (try clear hb); (try clear ho0)))
     go_ret
     exact ⟨_, eq1, Kd.rx HO279.out, bl HB.out⟩
 ·rw [if_neg c3] at H
  exact absurd H (by simp)
def jl.f (k : Nat) (l0 : List (S34))  : Option ((List (S34)) × Int) := (zC.f k l0).bind fun bt280 => (if bt280.2 = 0 then ((qX.f k l0).bind fun t282 => (some (t282, 0))) else (some (([] : List (S34)), bt280.2)))
theorem jl.calls (k : Nat) (A0 : Option Addr) (c0 : Nat) (l0 : List (S34))  (r1 : List (S34)) (r2 : Int) (w : World) (hG : GW w) (hr0 : Kd.C k34 w A0 l0.length l0) (hc0 : l0.length ≤ c0) (h : jl.f k l0 = some (r1, r2)) :
  Calls Tryd.prog 24 #[.slice A0 l0.length c0, .func (.func 27) #[] #[]] w fun e w' => ∃ v0_ : Value, e = .returned (.tuple #[v0_, .int .i64 r2]) ∧ Kd.R k34 34 w' w.heap.size (fun _ => True) v0_ r1 ∧ Below w.heap.size w w' := by
 have HR0 := zb.mk hr0
 have HC0 := zb.mk hc0
 clear hr0 hc0
 have HG := zb.mk hG
 clear hG
 have HB := zb.mk (Below.refl w.heap.size w)
 have H : ((zC.f k l0).bind fun bt280 => (if bt280.2 = 0 then ((qX.f k l0).bind fun t282 => (some (t282, 0))) else (some (([] : List (S34)), bt280.2)))) = some (r1, r2) := h
 clear h
 replace H := zO H; obtain ⟨⟨t280, t281⟩, A3, H⟩ := H; try dsimp only at H
 by_cases c4 : t281 = 0
 ·rw [if_pos c4] at H
  have c4b0 := beq_iff_eq.mpr c4
  have c4b1 := bne_eq_false_iff_eq.mpr c4
  clear c4
  replace H := zO H; obtain ⟨t282, A5, H⟩ := H
  simp only [Option.some.injEq, Prod.mk.injEq] at H
  obtain ⟨rfl, rfl⟩ := H
  go_enter Tryd.func24, Tryd.ntmps24
  go_wp2_with (first | ((with_reducible refine zc (f := 29) rfl ?_); refine zh (some 10) rfl rfl Tryd.func29 (by kernel_rfl) rfl #[.slice A0 l0.length c0] rfl hq ?_; (with_reducible refine (zC.calls k _ _ l0 t280 t281 _ ?side3 ?side1 ?side2 A3.out).mono ?_); (case side1 => exact Kd.cx HR0.out); (case side2 => exact HC0.out); (case side3 => exact gb HG HB); rintro e w6 ⟨rfl, hb⟩; refine ⟨_, rfl, ?_⟩; replace HB := bst HB hb; (try clear hb)) | (go_at_call 27; (with_reducible refine (qX.calls k _ _ l0 t282 _ ?side3 ?side1 ?side2 A5.out).mono ?_); (case side1 => exact Kd.cx (Kd.zF HR0.out HB.out)); (case side2 => exact HC0.out); (case side3 => exact gb HG HB); rintro e w7 ⟨v283, rfl, ho0, hb⟩; have HO284 := zb.mk (Kd.rlo ho0 HB); replace HB := bst HB hb; (try clear hb); (try clear ho0)))
  go_ret2
  exact ⟨_, eq1, Kd.rx HO284.out, bl HB.out⟩
 ·rw [if_neg c4] at H
  have c4b0 := beq_eq_false_iff_ne.mpr c4
  have c4b1 := bne_iff_ne.mpr c4
  simp only [Option.some.injEq, Prod.mk.injEq] at H
  obtain ⟨rfl, rfl⟩ := H
  go_enter Tryd.func24, Tryd.ntmps24
  go_wp2_with (((with_reducible refine zc (f := 29) rfl ?_); refine zh (some 10) rfl rfl Tryd.func29 (by kernel_rfl) rfl #[.slice A0 l0.length c0] rfl hq ?_; (with_reducible refine (zC.calls k _ _ l0 t280 t281 _ ?side3 ?side1 ?side2 A3.out).mono ?_); (case side1 => exact Kd.cx HR0.out); (case side2 => exact HC0.out); (case side3 => exact gb HG HB); rintro e w8 ⟨rfl, hb⟩; refine ⟨_, rfl, ?_⟩; replace HB := bst HB hb; (try clear hb)))
  go_ret2
  exact ⟨_, eq1, by exact Kd.ji _ _ _ _ _, bl HB.out⟩
def xf.f (k : Nat) (l0 : List (S34)) : Option ((List (S34)) × Int) := (jl.f k l0).bind fun bt285 => (some (bt285.1, bt285.2))
theorem xf.calls (k : Nat) (A0 : Option Addr) (c0 : Nat) (l0 r1 : List (S34)) (r2 : Int) (w : World) (hG : GW w) (hr0 : Kd.C k34 w A0 l0.length l0) (hc0 : l0.length ≤ c0) (h : xf.f k l0 = some (r1, r2)) :
  Calls Tryd.prog 9 #[.slice A0 l0.length c0] w fun e w' => ∃ v0_ : Value, e = .returned (.tuple #[v0_, .int .i64 r2]) ∧ Kd.R k34 34 w' w.heap.size (fun _ => True) v0_ r1 ∧ Below w.heap.size w w' := by
 have HR0 := zb.mk hr0
 have HC0 := zb.mk hc0
 clear hr0 hc0
 have HG := zb.mk hG
 clear hG
 have HB := zb.mk (Below.refl w.heap.size w)
 have H : ((jl.f k l0).bind fun bt285 => (some (bt285.1, bt285.2))) = some (r1, r2) := h
 clear h
 replace H := zO H; obtain ⟨⟨t285, t286⟩, A2, H⟩ := H; try dsimp only at H
 simp only [Option.some.injEq, Prod.mk.injEq] at H
 obtain ⟨rfl, rfl⟩ := H
 go_enter Tryd.func9, Tryd.ntmps9
 go_wp2_with (((with_reducible refine zc (f := 24) rfl ?_); refine zh (some 5) rfl rfl Tryd.func24 (by kernel_rfl) rfl #[.slice A0 l0.length c0, .func (.func 27) #[] #[]] rfl hq ?_; (with_reducible refine (jl.calls k _ _ l0  t285 t286 _ ?side3 ?side1 ?side2 A2.out).mono ?_); (case side1 => exact Kd.cx HR0.out); (case side2 => exact HC0.out); (case side3 => exact gb HG HB); rintro e w3 ⟨v287, rfl, ho0, hb⟩; refine ⟨_, rfl, ?_⟩; have HO288 := zb.mk (Kd.rlo ho0 HB); replace HB := bst HB hb; (try clear hb); (try clear ho0)))
 go_ret2
 exact ⟨_, eq1, Kd.rx HO288.out, bl HB.out⟩
def zV.f (k : Nat)  : Option (Bool) := (xf.f k (([(⟨17, 0, 0, 0, (⟨#[]⟩ : ByteArray), (⟨0, 0, 0, 0⟩ : S32)⟩ : S34), (⟨16, 0, 0, 0, (⟨#[]⟩ : ByteArray), (⟨0, 0, 0, 0⟩ : S32)⟩ : S34)] : List (S34)))).bind fun bt292 => (if bt292.2 = 0 then (if (bt292.1.length : Int) = 1 then (if 0 < (bt292.1.length : Int) then (some (((za bt292.1 0).f0) == 17)) else (none)) else (some false)) else (some false))
theorem zV.calls (k : Nat)  (r : Bool) (w : World) (hG : GW w) (h : zV.f k  = some r) :
  Calls Tryd.prog 11 #[] w fun e w' => e = .returned (.bool r) ∧ Below w.heap.size w w' := by
 have hu34 := Tryd.underlying34
 have HG := zb.mk hG
 clear hG
 have HB := zb.mk (Below.refl w.heap.size w)
 have H : ((xf.f k (([(⟨17, 0, 0, 0, (⟨#[]⟩ : ByteArray), (⟨0, 0, 0, 0⟩ : S32)⟩ : S34), (⟨16, 0, 0, 0, (⟨#[]⟩ : ByteArray), (⟨0, 0, 0, 0⟩ : S32)⟩ : S34)] : List (S34)))).bind fun bt292 => (if bt292.2 = 0 then (if (bt292.1.length : Int) = 1 then (if 0 < (bt292.1.length : Int) then (some (((za bt292.1 0).f0) == 17)) else (none)) else (some false)) else (some false))) = some r := h
 clear h
 obtain ⟨y289, hy289⟩ : ∃ y_ : List (S34), y_ = (([(⟨17, 0, 0, 0, (⟨#[]⟩ : ByteArray), (⟨0, 0, 0, 0⟩ : S32)⟩ : S34), (⟨16, 0, 0, 0, (⟨#[]⟩ : ByteArray), (⟨0, 0, 0, 0⟩ : S32)⟩ : S34)] : List (S34))) := ⟨_, rfl⟩
 replace H : ((xf.f k y289).bind fun bt292 => (if bt292.2 = 0 then (if (bt292.1.length : Int) = 1 then (if 0 < (bt292.1.length : Int) then (some (((za bt292.1 0).f0) == 17)) else (none)) else (some false)) else (some false))) = some r := by (rw [hy289]; with_reducible exact H)
 have Ny289 := zb.mk hy289
 clear hy289
 replace H := zO H; obtain ⟨⟨t292, t293⟩, A1, H⟩ := H; try dsimp only at H
 by_cases c2 : t293 = 0
 ·rw [if_pos c2] at H
  have c2b0 := beq_iff_eq.mpr c2
  have c2b1 := bne_eq_false_iff_eq.mpr c2
  clear c2
  by_cases c3 : (t292.length : Int) = 1
  ·rw [if_pos c3] at H
   have c3b0 := beq_iff_eq.mpr c3
   have c3b1 := bne_eq_false_iff_eq.mpr c3
   clear c3
   replace H := qh H; obtain ⟨c4, H⟩ := H
   have c4b0 := decide_eq_true c4
   have c4b1 : decide (0 < t292.length) = true := decide_eq_true (by omega)
   clear c4
   obtain rfl := Option.some.inj H
   go_enter Tryd.func11, Tryd.ntmps11
   go_wp2_with (first | ((with_reducible refine z3 (N := 6) rfl ?_); (try (refine xi (by rfl) ?_; dsimp only)); refine Kd.R_lit k34 _ 34 ?hg (N := 6) ?hd (xs := ([(⟨17, 0, 0, 0, (⟨#[]⟩ : ByteArray), (⟨0, 0, 0, 0⟩ : S32)⟩ : S34), (⟨16, 0, 0, 0, (⟨#[]⟩ : ByteArray), (⟨0, 0, 0, 0⟩ : S32)⟩ : S34)] : List (S34))) (inner := [.int .i64 17, .int .i64 0, .int .i64 0, .int .i64 0, .string (⟨#[]⟩ : ByteArray), .int .u64 0, .int .u64 0, .int .u64 0, .int .u64 0, .int .i64 16, .int .i64 0, .int .i64 0, .int .i64 0, .string (⟨#[]⟩ : ByteArray), .int .u64 0, .int .u64 0, .int .u64 0, .int .u64 0]) (ok := fun _ => True) (okp := fun _ => True) ?hr ?hp (fun _ hk => hk) trivial (Below.refl _ _) (Nat.le_refl _) (by simp) ?_; (case hd => rfl); (case hg => rfl); (case hr => (go_simp; done)); (case hp => exact (qU.c9 (show Kd.M k34 _ _ _ (⟨17, 0, 0, 0, (⟨#[]⟩ : ByteArray), (⟨0, 0, 0, 0⟩ : S32)⟩ : S34) [.int .i64 17, .int .i64 0, .int .i64 0, .int .i64 0, .string (⟨#[]⟩ : ByteArray), .int .u64 0, .int .u64 0, .int .u64 0, .int .u64 0] from (xq _ _ _ (⟨17, 0, 0, 0, (⟨#[]⟩ : ByteArray), (⟨0, 0, 0, 0⟩ : S32)⟩ : S34) )) (qU.c9 (show Kd.M k34 _ _ _ (⟨16, 0, 0, 0, (⟨#[]⟩ : ByteArray), (⟨0, 0, 0, 0⟩ : S32)⟩ : S34) [.int .i64 16, .int .i64 0, .int .i64 0, .int .i64 0, .string (⟨#[]⟩ : ByteArray), .int .u64 0, .int .u64 0, .int .u64 0, .int .u64 0] from (xq _ _ _ (⟨16, 0, 0, 0, (⟨#[]⟩ : ByteArray), (⟨0, 0, 0, 0⟩ : S32)⟩ : S34) )) (qU.none _ _)))); intro v290 w5 ho6 hb hg_ hnew_; clear hg_ hnew_; (rw [← Ny289.out] at ho6); have HO291 := zb.mk (Kd.rlo ho6 HB); replace HB := bst HB hb; clear hb ho6; obtain ⟨Ao7, co7, eo7⟩ := Kd.zw HO291.out; subst eo7) | ((with_reducible refine zc (f := 9) rfl ?_); refine zh (some 7) rfl rfl Tryd.func9 (by kernel_rfl) rfl #[.slice Ao7 y289.length co7] rfl hq ?_; (with_reducible refine (xf.calls k _ _ y289 t292 t293 _ ?side3 ?side1 ?side2 A1.out).mono ?_); (case side1 => repeat (exact (Kd.zf HO291.out).2.2)); (case side2 => exact (Kd.zf HO291.out).2.1); (case side3 => exact gb HG HB); rintro e w8 ⟨v294, rfl, ho0, hb⟩; refine ⟨_, rfl, ?_⟩; have HO295 := zb.mk (Kd.rlo (Kd.zu ho0 (Kd.qg (Kd.rx HO291.out))) HB); replace HO291 := Kd.eld HO291 ho0 hb; replace HB := bst HB hb; (try clear hb); (try clear ho0); obtain ⟨Ao9, co9, eo9⟩ := Kd.zw HO295.out; subst eo9; have p296 : 0 ≤ (0 : Int) := (by omega); have q296 : 0 < (t292.length : Int) := dq; obtain ⟨ad296, e296, hx296_0, hx296_1, hx296_2, hx296_3, hx296_4, hx296_5, hx296_6, hx296_7, hx296_8⟩ := zU (Kd.zf HO295.out).2.2 0 p296 q296; cases e296; have qi296 : (0 < t292.length) = True := eq_true (by omega); (try rw [show ((0 : Int)).toNat = 0 from rfl] at hx296_0); (try rw [show 0 * 9 = 0 from rfl] at hx296_0); (try rw [Addr.add_zero'] at hx296_0); (try rw [show ((0 : Int)).toNat = 0 from rfl] at hx296_1); (try rw [show 0 * 9 = 0 from rfl] at hx296_1); (try rw [Addr.add_zero'] at hx296_1); (try rw [show ((0 : Int)).toNat = 0 from rfl] at hx296_2); (try rw [show 0 * 9 = 0 from rfl] at hx296_2); (try rw [Addr.add_zero'] at hx296_2); (try rw [show ((0 : Int)).toNat = 0 from rfl] at hx296_3); (try rw [show 0 * 9 = 0 from rfl] at hx296_3); (try rw [Addr.add_zero'] at hx296_3); (try rw [show ((0 : Int)).toNat = 0 from rfl] at hx296_4); (try rw [show 0 * 9 = 0 from rfl] at hx296_4); (try rw [Addr.add_zero'] at hx296_4); (try rw [show ((0 : Int)).toNat = 0 from rfl] at hx296_5); (try rw [show 0 * 9 = 0 from rfl] at hx296_5); (try rw [Addr.add_zero'] at hx296_5); (try rw [show ((0 : Int)).toNat = 0 from rfl] at hx296_6); (try rw [show 0 * 9 = 0 from rfl] at hx296_6); (try rw [Addr.add_zero'] at hx296_6); (try rw [show ((0 : Int)).toNat = 0 from rfl] at hx296_7); (try rw [show 0 * 9 = 0 from rfl] at hx296_7); (try rw [Addr.add_zero'] at hx296_7); (try rw [show ((0 : Int)).toNat = 0 from rfl] at hx296_8); (try rw [show 0 * 9 = 0 from rfl] at hx296_8); (try rw [Addr.add_zero'] at hx296_8); replace p296 := eq_true p296; replace q296 := eq_true q296))
   go_ret
   exact ⟨eq1, bl HB.out⟩
  ·rw [if_neg c3] at H
   have c3b0 := beq_eq_false_iff_ne.mpr c3
   have c3b1 := bne_iff_ne.mpr c3
   obtain rfl := Option.some.inj H
   go_enter Tryd.func11, Tryd.ntmps11
   go_wp2_with (first | ((with_reducible refine z3 (N := 6) rfl ?_); (try (refine xi (by rfl) ?_; dsimp only)); refine Kd.R_lit k34 _ 34 ?hg (N := 6) ?hd (xs := ([(⟨17, 0, 0, 0, (⟨#[]⟩ : ByteArray), (⟨0, 0, 0, 0⟩ : S32)⟩ : S34), (⟨16, 0, 0, 0, (⟨#[]⟩ : ByteArray), (⟨0, 0, 0, 0⟩ : S32)⟩ : S34)] : List (S34))) (inner := [.int .i64 17, .int .i64 0, .int .i64 0, .int .i64 0, .string (⟨#[]⟩ : ByteArray), .int .u64 0, .int .u64 0, .int .u64 0, .int .u64 0, .int .i64 16, .int .i64 0, .int .i64 0, .int .i64 0, .string (⟨#[]⟩ : ByteArray), .int .u64 0, .int .u64 0, .int .u64 0, .int .u64 0]) (ok := fun _ => True) (okp := fun _ => True) ?hr ?hp (fun _ hk => hk) trivial (Below.refl _ _) (Nat.le_refl _) (by simp) ?_; (case hd => rfl); (case hg => rfl); (case hr => (go_simp; done)); (case hp => exact (qU.c9 (show Kd.M k34 _ _ _ (⟨17, 0, 0, 0, (⟨#[]⟩ : ByteArray), (⟨0, 0, 0, 0⟩ : S32)⟩ : S34) [.int .i64 17, .int .i64 0, .int .i64 0, .int .i64 0, .string (⟨#[]⟩ : ByteArray), .int .u64 0, .int .u64 0, .int .u64 0, .int .u64 0] from (xq _ _ _ (⟨17, 0, 0, 0, (⟨#[]⟩ : ByteArray), (⟨0, 0, 0, 0⟩ : S32)⟩ : S34) )) (qU.c9 (show Kd.M k34 _ _ _ (⟨16, 0, 0, 0, (⟨#[]⟩ : ByteArray), (⟨0, 0, 0, 0⟩ : S32)⟩ : S34) [.int .i64 16, .int .i64 0, .int .i64 0, .int .i64 0, .string (⟨#[]⟩ : ByteArray), .int .u64 0, .int .u64 0, .int .u64 0, .int .u64 0] from (xq _ _ _ (⟨16, 0, 0, 0, (⟨#[]⟩ : ByteArray), (⟨0, 0, 0, 0⟩ : S32)⟩ : S34) )) (qU.none _ _)))); intro v290 w10 ho11 hb hg_ hnew_; clear hg_ hnew_; (rw [← Ny289.out] at ho11); have HO291 := zb.mk (Kd.rlo ho11 HB); replace HB := bst HB hb; clear hb ho11; obtain ⟨Ao12, co12, eo12⟩ := Kd.zw HO291.out; subst eo12) | ((with_reducible refine zc (f := 9) rfl ?_); refine zh (some 7) rfl rfl Tryd.func9 (by kernel_rfl) rfl #[.slice Ao12 y289.length co12] rfl hq ?_; (with_reducible refine (xf.calls k _ _ y289 t292 t293 _ ?side3 ?side1 ?side2 A1.out).mono ?_); (case side1 => repeat (exact (Kd.zf HO291.out).2.2)); (case side2 => exact (Kd.zf HO291.out).2.1); (case side3 => exact gb HG HB); rintro e w13 ⟨v294, rfl, ho0, hb⟩; refine ⟨_, rfl, ?_⟩; have HO295 := zb.mk (Kd.rlo (Kd.zu ho0 (Kd.qg (Kd.rx HO291.out))) HB); replace HO291 := Kd.eld HO291 ho0 hb; replace HB := bst HB hb; (try clear hb); (try clear ho0); obtain ⟨Ao14, co14, eo14⟩ := Kd.zw HO295.out; subst eo14))
   go_ret
   exact ⟨eq1, bl HB.out⟩
 ·rw [if_neg c2] at H
  have c2b0 := beq_eq_false_iff_ne.mpr c2
  have c2b1 := bne_iff_ne.mpr c2
  obtain rfl := Option.some.inj H
  go_enter Tryd.func11, Tryd.ntmps11
  go_wp2_with (first | ((with_reducible refine z3 (N := 6) rfl ?_); (try (refine xi (by rfl) ?_; dsimp only)); refine Kd.R_lit k34 _ 34 ?hg (N := 6) ?hd (xs := ([(⟨17, 0, 0, 0, (⟨#[]⟩ : ByteArray), (⟨0, 0, 0, 0⟩ : S32)⟩ : S34), (⟨16, 0, 0, 0, (⟨#[]⟩ : ByteArray), (⟨0, 0, 0, 0⟩ : S32)⟩ : S34)] : List (S34))) (inner := [.int .i64 17, .int .i64 0, .int .i64 0, .int .i64 0, .string (⟨#[]⟩ : ByteArray), .int .u64 0, .int .u64 0, .int .u64 0, .int .u64 0, .int .i64 16, .int .i64 0, .int .i64 0, .int .i64 0, .string (⟨#[]⟩ : ByteArray), .int .u64 0, .int .u64 0, .int .u64 0, .int .u64 0]) (ok := fun _ => True) (okp := fun _ => True) ?hr ?hp (fun _ hk => hk) trivial (Below.refl _ _) (Nat.le_refl _) (by simp) ?_; (case hd => rfl); (case hg => rfl); (case hr => (go_simp; done)); (case hp => exact (qU.c9 (show Kd.M k34 _ _ _ (⟨17, 0, 0, 0, (⟨#[]⟩ : ByteArray), (⟨0, 0, 0, 0⟩ : S32)⟩ : S34) [.int .i64 17, .int .i64 0, .int .i64 0, .int .i64 0, .string (⟨#[]⟩ : ByteArray), .int .u64 0, .int .u64 0, .int .u64 0, .int .u64 0] from (xq _ _ _ (⟨17, 0, 0, 0, (⟨#[]⟩ : ByteArray), (⟨0, 0, 0, 0⟩ : S32)⟩ : S34) )) (qU.c9 (show Kd.M k34 _ _ _ (⟨16, 0, 0, 0, (⟨#[]⟩ : ByteArray), (⟨0, 0, 0, 0⟩ : S32)⟩ : S34) [.int .i64 16, .int .i64 0, .int .i64 0, .int .i64 0, .string (⟨#[]⟩ : ByteArray), .int .u64 0, .int .u64 0, .int .u64 0, .int .u64 0] from (xq _ _ _ (⟨16, 0, 0, 0, (⟨#[]⟩ : ByteArray), (⟨0, 0, 0, 0⟩ : S32)⟩ : S34) )) (qU.none _ _)))); intro v290 w15 ho16 hb hg_ hnew_; clear hg_ hnew_; (rw [← Ny289.out] at ho16); have HO291 := zb.mk (Kd.rlo ho16 HB); replace HB := bst HB hb; clear hb ho16; obtain ⟨Ao17, co17, eo17⟩ := Kd.zw HO291.out; subst eo17) | ((with_reducible refine zc (f := 9) rfl ?_); refine zh (some 7) rfl rfl Tryd.func9 (by kernel_rfl) rfl #[.slice Ao17 y289.length co17] rfl hq ?_; (with_reducible refine (xf.calls k _ _ y289 t292 t293 _ ?side3 ?side1 ?side2 A1.out).mono ?_); (case side1 => repeat (exact (Kd.zf HO291.out).2.2)); (case side2 => exact (Kd.zf HO291.out).2.1); (case side3 => exact gb HG HB); rintro e w18 ⟨v294, rfl, ho0, hb⟩; refine ⟨_, rfl, ?_⟩; have HO295 := zb.mk (Kd.rlo (Kd.zu ho0 (Kd.qg (Kd.rx HO291.out))) HB); replace HO291 := Kd.eld HO291 ho0 hb; replace HB := bst HB hb; (try clear hb); (try clear ho0)))
  go_ret
  exact ⟨eq1, bl HB.out⟩
def qD.f (l0 : List (S34)) : Option ((List (S34))) := (some (([] : List (S34)) : List (S34))).bind fun y297 => (if y297.length + l0.length < 1759218604441 then (some (y297 ++ l0)) else (none))
theorem qD.calls_some (A0 : Option Addr) (hA0 : ∃ ad, A0 = some ad) (c0 : Nat) (l0 r : List (S34)) (w : World) (hG : GW w) (hr0 : Kd.C k34 w A0 l0.length l0) (hc0 : l0.length ≤ c0) (h : qD.f l0 = some r) :
  Calls Tryd.prog 31 #[.slice A0 l0.length c0] w fun e w' => ∃ v0_ : Value, e = .returned (v0_) ∧ Kd.R k34 34 w' w.heap.size (fun _ => True) v0_ r ∧ Below w.heap.size w w' := by
 have HR0 := zb.mk hr0
 have HC0 := zb.mk hc0
 clear hr0 hc0
 have HG := zb.mk hG
 clear hG
 have HB := zb.mk (Below.refl w.heap.size w)
 have H : ((some (([] : List (S34)) : List (S34))).bind fun y297 => (if y297.length + l0.length < 1759218604441 then (some (y297 ++ l0)) else (none))) = some r := h
 clear h
 obtain ⟨y297, Ny297, H⟩ := bindY H; try dsimp only at H
 replace H := qh H; obtain ⟨c2, H⟩ := H
 have LMc2 := zb.mk c2
 clear c2
 obtain ⟨y300, hy300⟩ : ∃ y_ : List (S34), y_ = (y297 ++ l0) := ⟨_, rfl⟩
 replace H : (some y300) = some r := by (rw [hy300]; with_reducible exact H)
 have Ny300 := zb.mk hy300
 clear hy300
 obtain rfl := Option.some.inj H
 obtain ⟨ad0, rfl⟩ := hA0
 have hnil := fun (W : World) => Lib.run_eql_slice_nil (P := Tryd.prog) W 22 34 (some ad0) l0.length c0 0 0 Tryd.underlying22
 go_enter Tryd.func31, Tryd.ntmps31
 go_wp2_with (first | ((with_reducible refine z3 (N := 5) rfl ?_); refine Kd.R_lit k34 _ 34 ?hg (N := 5) ?hd (xs := ([] : List (S34))) (inner := []) (ok := fun _ => True) (okp := fun _ => True) ?hr ?hp (fun _ hk => hk) trivial (Below.refl _ _) (Nat.le_refl _) (by simp) ?_; (case hd => rfl); (case hg => rfl); (case hr => (go_simp; done)); (case hp => exact (qU.none _ _)); intro v298 w3 ho4 hb hg_ hnew_; clear hg_ hnew_; (rw [← Ny297.out] at ho4); have HO299 := zb.mk (Kd.rlo ho4 HB); replace HB := bst HB hb; clear hb ho4) | ((with_reducible refine qu (b := .append) (xs := #[.tmp 5, .tmp 6]) rfl ?_); at_builtin; refine Kd.jI k34 (w0 := w) w.heap.size rfl (.tmp 5) (.tmp 6) 22 34 (.agg #[(.int .i64 0), (.int .i64 0), (.int .i64 0), (.int .i64 0), (.string ⟨#[]⟩), (.int .u64 0), (.int .u64 0), (.int .u64 0), (.int .u64 0)]) 80 rfl Tryd.underlying22 info34 rfl (by decide) (by omega) v298 y297 l0 _ _ _ (fun _ => True) (fun _ => False) rfl rfl ?aO ?aR (fun _ _ h => h) (fun _ h => h.elim) ?aF ?aB ?aS ?aL ?_; (case aR => exact Kd.cx (Kd.zF HR0.out HB.out)); (case aB => exact (bl HB.out)); (case aF => exact (fun _ _ => trivial)); (case aO => exact (Kd.rx HO299.out)); (case aS => exact (zj (bl HB.out))); (case aL => have := LMc2.out; omega); intro v301 w5 ho hb hg hat; rw [← Ny300.out] at ho; replace HB := zb.mk (hb); have HO302 := zb.mk (ho); clear HO299; clear ho hb hg hat))
 go_ret
 exact ⟨_, eq1, Kd.rx HO302.out, bl HB.out⟩
set_option maxHeartbeats 400000 in
theorem qD.calls (A0 : Option Addr) (c0 : Nat) (l0 r : List (S34)) (w : World) (hG : GW w) (hr0 : Kd.C k34 w A0 l0.length l0) (hc0 : l0.length ≤ c0) (h : qD.f l0 = some r) :
  Calls Tryd.prog 31 #[.slice A0 l0.length c0] w fun e w' => ∃ v0_ : Value, e = .returned (v0_) ∧ Kd.R k34 34 w' w.heap.size (fun _ => True) v0_ r ∧ Below w.heap.size w w' := by
 cases A0 with
 | some ad => exact qD.calls_some (some ad) ⟨ad, rfl⟩ c0 l0 r w hG hr0 hc0 h
 | none =>
  have hn : l0 = [] := by
   cases l0 with
   | nil => rfl
   | cons x xs =>
    obtain ⟨ad, _, e, _⟩ := Kd.C_get hr0 z34 0 (Int.le_refl _) (by simp only [List.length_cons]; omega)
    cases e
  subst hn
  have hr : r = [] := by
   simp [qD.f] at h
   exact h
  subst hr
  clear hr0 h hG
  have hnil := fun (W : World) => Lib.run_eql_slice_nil (P := Tryd.prog) W 22 34 none 0 c0 0 0 Tryd.underlying22
  simp only [Option.isNone_none] at hnil
  simp only [List.length_nil]
  go_enter Tryd.func31, Tryd.ntmps31
  go_wp2
  go_ret
  exact ⟨_, rfl, Kd.ji _ _ _ _ _, Below.refl _ _⟩
def qH.l0 : Nat → List (S34) → List (S34) → List (S34) → Int → Int → Option ((List (S34)))
 | 0, _, _, _, _, _ => none
 | k + 1, x0, x3, x8, x9, x10 => if x10 < x9 then (if 0 ≤ x10 then (if x10 < (x8.length : Int) then (if ((za x8 x10).f0) = 15 then (if 0 ≤ (wrap64 (x10 + 1)) then (if (wrap64 (x10 + 1)) < (x0.length : Int) then (if ((za x0 (wrap64 (x10 + 1))).f0) = 16 then (if x10 < (x3.length : Int) then (qH.l0 k x0 (x3.set (x10 : Int).toNat (⟨14, (za x3 x10).f1, (za x3 x10).f2, (za x3 x10).f3, (za x3 x10).f4, (⟨(za x3 x10).f5.f0, (za x3 x10).f5.f1, (za x3 x10).f5.f2, (za x3 x10).f5.f3⟩ : S32)⟩ : S34)) x8 x9 (wrap64 (x10 + 1))) else (none)) else (qH.l0 k x0 x3 x8 x9 (wrap64 (x10 + 1)))) else (none)) else (none)) else (qH.l0 k x0 x3 x8 x9 (wrap64 (x10 + 1)))) else (none)) else (none)) else (some x3)
def qH.f (k : Nat) (l0 : List (S34)) : Option ((List (S34))) := (qD.f l0).bind fun t303 => (qH.l0 k l0 t303 l0 (l0.length : Int) 0)
theorem qH.calls (k : Nat) (A0 : Option Addr) (c0 : Nat) (l0 r : List (S34)) (w : World) (hG : GW w) (hr0 : Kd.C k34 w A0 l0.length l0) (hc0 : l0.length ≤ c0) (h : qH.f k l0 = some r) :
  Calls Tryd.prog 25 #[.slice A0 l0.length c0] w fun e w' => ∃ v0_ : Value, e = .returned (v0_) ∧ Kd.R k34 34 w' w.heap.size (fun _ => True) v0_ r ∧ Below w.heap.size w w' := by
 have hu34 := Tryd.underlying34
 have HR0 := zb.mk hr0
 have HC0 := zb.mk hc0
 clear hr0 hc0
 have HG := zb.mk hG
 clear hG
 have HB := zb.mk (Below.refl w.heap.size w)
 have H : ((qD.f l0).bind fun t303 => (qH.l0 k l0 t303 l0 (l0.length : Int) 0)) = some r := h
 clear h
 replace H := zO H; obtain ⟨t303, A2, H⟩ := H
 have H' := zb.mk H
 clear H
 go_enter Tryd.func25, Tryd.ntmps25
 go_wp2_with (((with_reducible refine zc (f := 31) rfl ?_); refine zh (some 7) rfl rfl Tryd.func31 (by kernel_rfl) rfl #[.slice A0 l0.length c0] rfl hq ?_; (with_reducible refine (qD.calls _ _ l0 t303 _ ?side3 ?side1 ?side2 A2.out).mono ?_); (case side1 => exact Kd.cx HR0.out); (case side2 => exact HC0.out); (case side3 => exact gb HG HB); rintro e w3 ⟨v304, rfl, ho0, hb⟩; refine ⟨_, rfl, ?_⟩; have HO305 := zb.mk (Kd.rlo ho0 HB); replace HB := bst HB hb; (try clear hb); (try clear ho0)))
 go_loopg [10] k (fun kq v10 w' => ∃ (x3_1 : List (S34)) (x10_1 : Int), v10 = .int .i64 x10_1 ∧ zb (qH.l0 kq l0 x3_1 l0 (l0.length : Int) x10_1 = some r) ∧ zb (kq ≤ k) ∧ zb (Kd.R k34 34 w' w.heap.size (fun _ => True) v304 x3_1) ∧ zb (Below w.heap.size w w'))
 case atStart => exact ⟨(t303), (0), eq0, H', ⟨Nat.le_refl _⟩, ⟨Kd.rx HO305.out⟩, ⟨bl HB.out⟩⟩
 case round =>
  clear H'
  obtain ⟨x3_1, x10_1, rfl, HA, HK1, HO_3, HB⟩ := hrel
  cases gk with
  | zero => exact absurd HA.out (by simp [qH.l0])
  | succ k1 =>
   have H := HA.out
   clear HA
   simp only [qH.l0] at H
   by_cases c4 : x10_1 < (l0.length : Int)
   ·rw [if_pos c4] at H
    have c4b0 := decide_eq_true c4
    clear c4
    replace H := qh H; obtain ⟨c5, H⟩ := H
    have c5b0 := decide_eq_true c5
    clear c5
    replace H := qh H; obtain ⟨c6, H⟩ := H
    have c6b0 := decide_eq_true c6
    clear c6
    by_cases c7 : ((za l0 x10_1).f0) = 15
    ·rw [if_pos c7] at H
     have c7b0 := beq_iff_eq.mpr c7
     have c7b1 := bne_eq_false_iff_eq.mpr c7
     clear c7
     obtain ⟨ji8, hji8⟩ : ∃ j_ : Int, (wrap64 (x10_1 + 1)) = j_ := ⟨_, rfl⟩
     rw [hji8] at H
     have hji8w : (IntKind.i64.wrap (x10_1 + 1)) = ji8 := (qd _).trans hji8
     replace H := qh H; obtain ⟨c9, H⟩ := H
     have c9b0 := decide_eq_true c9
     clear c9
     replace H := qh H; obtain ⟨c10, H⟩ := H
     have c10b0 := decide_eq_true c10
     clear c10
     by_cases c11 : ((za l0 (ji8)).f0) = 16
     ·rw [if_pos c11] at H
      have c11b0 := beq_iff_eq.mpr c11
      have c11b1 := bne_eq_false_iff_eq.mpr c11
      clear c11
      replace H := qh H; obtain ⟨c12, H⟩ := H
      have c12b0 := decide_eq_true c12
      clear c12
      obtain ⟨y309, hy309⟩ : ∃ y_ : List (S34), y_ = (x3_1.set (x10_1 : Int).toNat (⟨14, (za x3_1 x10_1).f1, (za x3_1 x10_1).f2, (za x3_1 x10_1).f3, (za x3_1 x10_1).f4, (⟨(za x3_1 x10_1).f5.f0, (za x3_1 x10_1).f5.f1, (za x3_1 x10_1).f5.f2, (za x3_1 x10_1).f5.f3⟩ : S32)⟩ : S34)) := ⟨_, rfl⟩
      replace H : (qH.l0 k1 l0 y309 l0 (l0.length : Int) ji8) = some r := by (rw [hy309]; with_reducible exact H)
      have Ny309 := zb.mk hy309
      clear hy309
      have H' := zb.mk H
      clear H
      have p306 : 0 ≤ (x10_1 : Int) := dq
      have q306 : x10_1 < (l0.length : Int) := dq
      obtain ⟨ad306, e306, hx306_0, hx306_1, hx306_2, hx306_3, hx306_4, hx306_5, hx306_6, hx306_7, hx306_8⟩ := zU HR0.out x10_1 p306 q306
      cases e306
      replace hx306_0 := cb HB.out hx306_0
      replace hx306_1 := cb HB.out hx306_1
      replace hx306_2 := cb HB.out hx306_2
      replace hx306_3 := cb HB.out hx306_3
      replace hx306_4 := cb HB.out hx306_4
      replace hx306_5 := cb HB.out hx306_5
      replace hx306_6 := cb HB.out hx306_6
      replace hx306_7 := cb HB.out hx306_7
      replace hx306_8 := cb HB.out hx306_8
      replace p306 := eq_true p306
      replace q306 := eq_true q306
      go_wp2_with (first | ((with_reducible refine z3 (N := 5) rfl ?_); refine qk ?hg (N := 5) ?hd (cs := #[.int .i64 0, .int .i64 0, .int .i64 0, .int .i64 0, .string (⟨#[]⟩ : ByteArray), .int .u64 0, .int .u64 0, .int .u64 0, .int .u64 0]) (t := 34) ?hr ?_; (case hd => rfl); (case hg => rfl); (case hr => (go_simp; done)); intro gb307 hg w14 hbox hb; replace HO_3 := zb.mk (Kd.xk (Kd.xT (Kd.rx HO_3.out) gb307 (Nat.le_of_eq hg.symm)) hb); have BK307 := zb.mk (hbox); have GW307 := zb.mk ((by rw [hg]; exact (zj (bl HB.out)) : w.heap.size ≤ gb307)); have GE307 := zb.mk ((by rw [hg]; exact (zj (bl HB.out)) : w.heap.size ≤ gb307)); replace HB := bst HB hb; clear hb hbox hg; obtain ⟨hcz15_0, hcz15_1, hcz15_2, hcz15_3, hcz15_4, hcz15_5, hcz15_6, hcz15_7, hcz15_8⟩ := zS BK307.out; obtain ⟨hfz15_0, hfz15_1, hfz15_2, hfz15_3, hfz15_4, hfz15_5, hfz15_6, hfz15_7, hfz15_8⟩ := zR BK307.out) | ((with_reducible refine zM (t := 34) (p := 5) rfl ?_); refine zB (t := 34) (p := 5) (v := ?vo_w16) (w1 := (xr w14 gb307 #[.int .i64 ((za l0 x10_1).f0), .int .i64 ((za l0 x10_1).f1), .int .i64 ((za l0 x10_1).f2), .int .i64 ((za l0 x10_1).f3), .string ((za l0 x10_1).f4), .int .u64 ((za l0 x10_1).f5.f0), .int .u64 ((za l0 x10_1).f5.f1), .int .u64 ((za l0 x10_1).f5.f2), .int .u64 ((za l0 x10_1).f5.f3)])) ?hg ?ho ?hn ?hr ?_; (case ho => rfl); (case hg => rfl); (case hn => rfl); (case hr => (go_simp; rfl)); intro w16 hw; replace HO_3 : zb (Kd.R k34 34 w16 w.heap.size (fun k_ => k_ ≠ gb307) v304 x3_1) := ⟨(by rw [hw]; exact (Kd.rx (Kd.zH (Kd.jc (g := gb307) (Kd.zH HO_3.out (fun k_ hk => (⟨hk, hk.2⟩ : _ ∧ k_ ≠ gb307))) (fun _ hk => hk.2) #[.int .i64 ((za l0 x10_1).f0), .int .i64 ((za l0 x10_1).f1), .int .i64 ((za l0 x10_1).f2), .int .i64 ((za l0 x10_1).f3), .string ((za l0 x10_1).f4), .int .u64 ((za l0 x10_1).f5.f0), .int .u64 ((za l0 x10_1).f5.f1), .int .u64 ((za l0 x10_1).f5.f2), .int .u64 ((za l0 x10_1).f5.f3)]) (fun _ hk => hk.1.2))))⟩; replace BK307 : zb (w16.heap[gb307]? = some (.cells #[.int .i64 ((za l0 x10_1).f0), .int .i64 ((za l0 x10_1).f1), .int .i64 ((za l0 x10_1).f2), .int .i64 ((za l0 x10_1).f3), .string ((za l0 x10_1).f4), .int .u64 ((za l0 x10_1).f5.f0), .int .u64 ((za l0 x10_1).f5.f1), .int .u64 ((za l0 x10_1).f5.f2), .int .u64 ((za l0 x10_1).f5.f3)] 34 (0, 0))) := ⟨(by rw [hw]; exact (by (with_reducible skip); refine xd (cs := #[.int .i64 0, .int .i64 0, .int .i64 0, .int .i64 0, .string (⟨#[]⟩ : ByteArray), .int .u64 0, .int .u64 0, .int .u64 0, .int .u64 0]) ?_ _ rfl; (with_reducible skip); exact BK307.out))⟩; replace HB : zb (Below w.heap.size w w16) := ⟨(by rw [hw]; exact bsq)⟩; clear hw; obtain ⟨hcz17_0, hcz17_1, hcz17_2, hcz17_3, hcz17_4, hcz17_5, hcz17_6, hcz17_7, hcz17_8⟩ := zS BK307.out; obtain ⟨hfz17_0, hfz17_1, hfz17_2, hfz17_3, hfz17_4, hfz17_5, hfz17_6, hfz17_7, hfz17_8⟩ := zR BK307.out; have p308 : 0 ≤ ((ji8) : Int) := dq; have q308 : (ji8) < (l0.length : Int) := dq; obtain ⟨ad308, e308, hx308_0, hx308_1, hx308_2, hx308_3, hx308_4, hx308_5, hx308_6, hx308_7, hx308_8⟩ := zU (Kd.zF HR0.out HB.out) (ji8) p308 q308; obtain rfl : ad306 = ad308 := (by injection e308); replace p308 := eq_true p308; replace q308 := eq_true q308; have p13 : 0 ≤ (x10_1 : Int) := dq; have q13 : (x10_1 : Int) < ((x3_1.length : Int) : Int) := dq; obtain ⟨go13, co13, eo13, gb13, gl13, cl13, HG13⟩ := Kd.xR HO_3.out (by omega); (cases eo13); have GB13 := zb.mk gb13; have GG13 := zb.mk HG13; clear gb13 gl13 HG13; obtain ⟨ce13, hcl13, hM13, hcc13, hfr13⟩ := Kd.xA HO_3.out z34 (x10_1 : Int) p13 q13; obtain rfl := qG hM13; have hx13_0 : w16.cell? ⟨go13, (x10_1 : Int).toNat * 9, none⟩ = some (.int .i64 ((za x3_1 x10_1).f0)) := hcc13 0 _ rfl; have hx13_1 : w16.cell? ⟨go13, (x10_1 : Int).toNat * 9 + 1, none⟩ = some (.int .i64 ((za x3_1 x10_1).f1)) := hcc13 1 _ rfl; have hx13_2 : w16.cell? ⟨go13, (x10_1 : Int).toNat * 9 + 2, none⟩ = some (.int .i64 ((za x3_1 x10_1).f2)) := hcc13 2 _ rfl; have hx13_3 : w16.cell? ⟨go13, (x10_1 : Int).toNat * 9 + 3, none⟩ = some (.int .i64 ((za x3_1 x10_1).f3)) := hcc13 3 _ rfl; have hx13_4 : w16.cell? ⟨go13, (x10_1 : Int).toNat * 9 + 4, none⟩ = some (.string ((za x3_1 x10_1).f4)) := hcc13 4 _ rfl; have hx13_5 : w16.cell? ⟨go13, (x10_1 : Int).toNat * 9 + 5, none⟩ = some (.int .u64 ((za x3_1 x10_1).f5.f0)) := hcc13 5 _ rfl; have hx13_6 : w16.cell? ⟨go13, (x10_1 : Int).toNat * 9 + 6, none⟩ = some (.int .u64 ((za x3_1 x10_1).f5.f1)) := hcc13 6 _ rfl; have hx13_7 : w16.cell? ⟨go13, (x10_1 : Int).toNat * 9 + 7, none⟩ = some (.int .u64 ((za x3_1 x10_1).f5.f2)) := hcc13 7 _ rfl; have hx13_8 : w16.cell? ⟨go13, (x10_1 : Int).toNat * 9 + 8, none⟩ = some (.int .u64 ((za x3_1 x10_1).f5.f3)) := hcc13 8 _ rfl; have hf13_0 : w16.frozen? ⟨go13, (x10_1 : Int).toNat * 9, none⟩ = false := hfr13 0; have hf13_1 : w16.frozen? ⟨go13, (x10_1 : Int).toNat * 9 + 1, none⟩ = false := hfr13 1; have hf13_2 : w16.frozen? ⟨go13, (x10_1 : Int).toNat * 9 + 2, none⟩ = false := hfr13 2; have hf13_3 : w16.frozen? ⟨go13, (x10_1 : Int).toNat * 9 + 3, none⟩ = false := hfr13 3; have hf13_4 : w16.frozen? ⟨go13, (x10_1 : Int).toNat * 9 + 4, none⟩ = false := hfr13 4; have hf13_5 : w16.frozen? ⟨go13, (x10_1 : Int).toNat * 9 + 5, none⟩ = false := hfr13 5; have hf13_6 : w16.frozen? ⟨go13, (x10_1 : Int).toNat * 9 + 6, none⟩ = false := hfr13 6; have hf13_7 : w16.frozen? ⟨go13, (x10_1 : Int).toNat * 9 + 7, none⟩ = false := hfr13 7; have hf13_8 : w16.frozen? ⟨go13, (x10_1 : Int).toNat * 9 + 8, none⟩ = false := hfr13 8; clear hcl13 hcc13 hfr13 hM13; replace p13 := eq_true p13; replace q13 := eq_true q13; have HX18 := zb.mk (show Kd.R k34 34 w16 w.heap.size (fun k_ => k_ ≠ gb307) (.slice (some ⟨go13, 0, none⟩) x3_1.length co13) x3_1 from (Kd.rx HO_3.out)); obtain ⟨ce18, hcl18, hM18, hcc18, hfr18⟩ := Kd.xA HX18.out z34 (x10_1 : Int) (dq) (by have h_ : (x10_1 : Int) < ((x3_1.length : Int) : Int) := dq; exact h_); obtain rfl := qG hM18; have HP18 := Kd.R_seg HX18.out (x10_1 : Int) (dq) (by have h_ : (x10_1 : Int) < ((x3_1.length : Int) : Int) := dq; exact h_) (seg := [.int .i64 14]) (j := 0) hcl18 hcc18 (show 1 ≤ 9 from by decide) (x' := (⟨14, (za x3_1 x10_1).f1, (za x3_1 x10_1).f2, (za x3_1 x10_1).f3, (za x3_1 x10_1).f4, (⟨(za x3_1 x10_1).f5.f0, (za x3_1 x10_1).f5.f1, (za x3_1 x10_1).f5.f2, (za x3_1 x10_1).f5.f3⟩ : S32)⟩ : S34)) (xq _ _ _ (⟨14, (za x3_1 x10_1).f1, (za x3_1 x10_1).f2, (za x3_1 x10_1).f3, (za x3_1 x10_1).f4, (⟨(za x3_1 x10_1).f5.f0, (za x3_1 x10_1).f5.f1, (za x3_1 x10_1).f5.f2, (za x3_1 x10_1).f5.f3⟩ : S32)⟩ : S34) ) (fun _ hk => hk); have hx18_0 := hcc18 0 _ rfl; (try simp only [show (k34).sz = 9 from rfl, Nat.mul_one, Nat.add_zero] at hx18_0); have hf18_0 := hfr18 0; (try simp only [show (k34).sz = 9 from rfl, Nat.mul_one, Nat.add_zero] at hf18_0); clear hcl18 hcc18 hfr18 hM18) | ((with_reducible refine zM (t := 3) (p := 30) rfl ?_); refine zB (t := 3) (p := 30) (v := ?vo_w19) (w1 := (w16.setCell ⟨go13, (x10_1 : Int).toNat * 9, none⟩ (.int .i64 14))) ?hg ?ho ?hn ?hr ?_; (case ho => rfl); (case hg => rfl); (case hn => rfl); (case hr => (go_simp; done)); intro w19 hw; have hg : w16.grownBy w19 (some go13) := (by rw [hw]; exact HP18.2); have hp_ : Kd.R k34 34 w19 w.heap.size (fun k_ => k_ ≠ gb307) (.slice (some ⟨go13, 0, none⟩) x3_1.length co13) y309 := (by rw [hw, Ny309.out]; exact HP18.1); clear HP18; replace BK307 := zb.mk (xc (g := gb307) (o := .cells #[.int .i64 ((za l0 x10_1).f0), .int .i64 ((za l0 x10_1).f1), .int .i64 ((za l0 x10_1).f2), .int .i64 ((za l0 x10_1).f3), .string ((za l0 x10_1).f4), .int .u64 ((za l0 x10_1).f5.f0), .int .u64 ((za l0 x10_1).f5.f1), .int .u64 ((za l0 x10_1).f5.f2), .int .u64 ((za l0 x10_1).f5.f3)] 34 (0, 0)) (bx BK307.out) hg (Kd.R_away HO_3.out (fun _ hk => hk))); replace HO_3 := zb.mk (hp_); replace HB := zb.mk ((by rw [hw]; exact zz (HB.out) GB13.out : Below w.heap.size w w19)); clear hg hw hp_))
      go_roundg k1
      case measure => have := HK1.out; omega
      case rel => exact ⟨(y309), (ji8), (by rfl), H', ⟨by have := HK1.out; omega⟩, ⟨Kd.rx (Kd.zH HO_3.out (fun _ hk => trivial))⟩, ⟨bsq⟩⟩
     ·rw [if_neg c11] at H
      have c11b0 := beq_eq_false_iff_ne.mpr c11
      have c11b1 := bne_iff_ne.mpr c11
      have H' := zb.mk H
      clear H
      have p306 : 0 ≤ (x10_1 : Int) := dq
      have q306 : x10_1 < (l0.length : Int) := dq
      obtain ⟨ad306, e306, hx306_0, hx306_1, hx306_2, hx306_3, hx306_4, hx306_5, hx306_6, hx306_7, hx306_8⟩ := zU HR0.out x10_1 p306 q306
      cases e306
      replace hx306_0 := cb HB.out hx306_0
      replace hx306_1 := cb HB.out hx306_1
      replace hx306_2 := cb HB.out hx306_2
      replace hx306_3 := cb HB.out hx306_3
      replace hx306_4 := cb HB.out hx306_4
      replace hx306_5 := cb HB.out hx306_5
      replace hx306_6 := cb HB.out hx306_6
      replace hx306_7 := cb HB.out hx306_7
      replace hx306_8 := cb HB.out hx306_8
      replace p306 := eq_true p306
      replace q306 := eq_true q306
      go_wp2_with (first | ((with_reducible refine z3 (N := 5) rfl ?_); refine qk ?hg (N := 5) ?hd (cs := #[.int .i64 0, .int .i64 0, .int .i64 0, .int .i64 0, .string (⟨#[]⟩ : ByteArray), .int .u64 0, .int .u64 0, .int .u64 0, .int .u64 0]) (t := 34) ?hr ?_; (case hd => rfl); (case hg => rfl); (case hr => (go_simp; done)); intro gb307 hg w20 hbox hb; replace HO_3 := zb.mk (Kd.xk (Kd.xT (Kd.rx HO_3.out) gb307 (Nat.le_of_eq hg.symm)) hb); have BK307 := zb.mk (hbox); have GW307 := zb.mk ((by rw [hg]; exact (zj (bl HB.out)) : w.heap.size ≤ gb307)); have GE307 := zb.mk ((by rw [hg]; exact (zj (bl HB.out)) : w.heap.size ≤ gb307)); replace HB := bst HB hb; clear hb hbox hg; obtain ⟨hcz21_0, hcz21_1, hcz21_2, hcz21_3, hcz21_4, hcz21_5, hcz21_6, hcz21_7, hcz21_8⟩ := zS BK307.out; obtain ⟨hfz21_0, hfz21_1, hfz21_2, hfz21_3, hfz21_4, hfz21_5, hfz21_6, hfz21_7, hfz21_8⟩ := zR BK307.out) | ((with_reducible refine zM (t := 34) (p := 5) rfl ?_); refine zB (t := 34) (p := 5) (v := ?vo_w22) (w1 := (xr w20 gb307 #[.int .i64 ((za l0 x10_1).f0), .int .i64 ((za l0 x10_1).f1), .int .i64 ((za l0 x10_1).f2), .int .i64 ((za l0 x10_1).f3), .string ((za l0 x10_1).f4), .int .u64 ((za l0 x10_1).f5.f0), .int .u64 ((za l0 x10_1).f5.f1), .int .u64 ((za l0 x10_1).f5.f2), .int .u64 ((za l0 x10_1).f5.f3)])) ?hg ?ho ?hn ?hr ?_; (case ho => rfl); (case hg => rfl); (case hn => rfl); (case hr => (go_simp; rfl)); intro w22 hw; replace HO_3 : zb (Kd.R k34 34 w22 w.heap.size (fun k_ => k_ ≠ gb307) v304 x3_1) := ⟨(by rw [hw]; exact (Kd.rx (Kd.zH (Kd.jc (g := gb307) (Kd.zH HO_3.out (fun k_ hk => (⟨hk, hk.2⟩ : _ ∧ k_ ≠ gb307))) (fun _ hk => hk.2) #[.int .i64 ((za l0 x10_1).f0), .int .i64 ((za l0 x10_1).f1), .int .i64 ((za l0 x10_1).f2), .int .i64 ((za l0 x10_1).f3), .string ((za l0 x10_1).f4), .int .u64 ((za l0 x10_1).f5.f0), .int .u64 ((za l0 x10_1).f5.f1), .int .u64 ((za l0 x10_1).f5.f2), .int .u64 ((za l0 x10_1).f5.f3)]) (fun _ hk => hk.1.2))))⟩; replace BK307 : zb (w22.heap[gb307]? = some (.cells #[.int .i64 ((za l0 x10_1).f0), .int .i64 ((za l0 x10_1).f1), .int .i64 ((za l0 x10_1).f2), .int .i64 ((za l0 x10_1).f3), .string ((za l0 x10_1).f4), .int .u64 ((za l0 x10_1).f5.f0), .int .u64 ((za l0 x10_1).f5.f1), .int .u64 ((za l0 x10_1).f5.f2), .int .u64 ((za l0 x10_1).f5.f3)] 34 (0, 0))) := ⟨(by rw [hw]; exact (by (with_reducible skip); refine xd (cs := #[.int .i64 0, .int .i64 0, .int .i64 0, .int .i64 0, .string (⟨#[]⟩ : ByteArray), .int .u64 0, .int .u64 0, .int .u64 0, .int .u64 0]) ?_ _ rfl; (with_reducible skip); exact BK307.out))⟩; replace HB : zb (Below w.heap.size w w22) := ⟨(by rw [hw]; exact bsq)⟩; clear hw; obtain ⟨hcz23_0, hcz23_1, hcz23_2, hcz23_3, hcz23_4, hcz23_5, hcz23_6, hcz23_7, hcz23_8⟩ := zS BK307.out; obtain ⟨hfz23_0, hfz23_1, hfz23_2, hfz23_3, hfz23_4, hfz23_5, hfz23_6, hfz23_7, hfz23_8⟩ := zR BK307.out; have p308 : 0 ≤ ((ji8) : Int) := dq; have q308 : (ji8) < (l0.length : Int) := dq; obtain ⟨ad308, e308, hx308_0, hx308_1, hx308_2, hx308_3, hx308_4, hx308_5, hx308_6, hx308_7, hx308_8⟩ := zU (Kd.zF HR0.out HB.out) (ji8) p308 q308; obtain rfl : ad306 = ad308 := (by injection e308); replace p308 := eq_true p308; replace q308 := eq_true q308))
      go_roundg k1
      case measure => have := HK1.out; omega
      case rel => exact ⟨(x3_1), (ji8), (by rfl), H', ⟨by have := HK1.out; omega⟩, ⟨Kd.rx (Kd.zH HO_3.out (fun _ hk => trivial))⟩, ⟨bsq⟩⟩
    ·rw [if_neg c7] at H
     have c7b0 := beq_eq_false_iff_ne.mpr c7
     have c7b1 := bne_iff_ne.mpr c7
     have H' := zb.mk H
     clear H
     have p306 : 0 ≤ (x10_1 : Int) := dq
     have q306 : x10_1 < (l0.length : Int) := dq
     obtain ⟨ad306, e306, hx306_0, hx306_1, hx306_2, hx306_3, hx306_4, hx306_5, hx306_6, hx306_7, hx306_8⟩ := zU HR0.out x10_1 p306 q306
     cases e306
     replace hx306_0 := cb HB.out hx306_0
     replace hx306_1 := cb HB.out hx306_1
     replace hx306_2 := cb HB.out hx306_2
     replace hx306_3 := cb HB.out hx306_3
     replace hx306_4 := cb HB.out hx306_4
     replace hx306_5 := cb HB.out hx306_5
     replace hx306_6 := cb HB.out hx306_6
     replace hx306_7 := cb HB.out hx306_7
     replace hx306_8 := cb HB.out hx306_8
     replace p306 := eq_true p306
     replace q306 := eq_true q306
     go_wp2_with (first | ((with_reducible refine z3 (N := 5) rfl ?_); refine qk ?hg (N := 5) ?hd (cs := #[.int .i64 0, .int .i64 0, .int .i64 0, .int .i64 0, .string (⟨#[]⟩ : ByteArray), .int .u64 0, .int .u64 0, .int .u64 0, .int .u64 0]) (t := 34) ?hr ?_; (case hd => rfl); (case hg => rfl); (case hr => (go_simp; done)); intro gb307 hg w24 hbox hb; replace HO_3 := zb.mk (Kd.xk (Kd.xT (Kd.rx HO_3.out) gb307 (Nat.le_of_eq hg.symm)) hb); have BK307 := zb.mk (hbox); have GW307 := zb.mk ((by rw [hg]; exact (zj (bl HB.out)) : w.heap.size ≤ gb307)); have GE307 := zb.mk ((by rw [hg]; exact (zj (bl HB.out)) : w.heap.size ≤ gb307)); replace HB := bst HB hb; clear hb hbox hg; obtain ⟨hcz25_0, hcz25_1, hcz25_2, hcz25_3, hcz25_4, hcz25_5, hcz25_6, hcz25_7, hcz25_8⟩ := zS BK307.out; obtain ⟨hfz25_0, hfz25_1, hfz25_2, hfz25_3, hfz25_4, hfz25_5, hfz25_6, hfz25_7, hfz25_8⟩ := zR BK307.out) | ((with_reducible refine zM (t := 34) (p := 5) rfl ?_); refine zB (t := 34) (p := 5) (v := ?vo_w26) (w1 := (xr w24 gb307 #[.int .i64 ((za l0 x10_1).f0), .int .i64 ((za l0 x10_1).f1), .int .i64 ((za l0 x10_1).f2), .int .i64 ((za l0 x10_1).f3), .string ((za l0 x10_1).f4), .int .u64 ((za l0 x10_1).f5.f0), .int .u64 ((za l0 x10_1).f5.f1), .int .u64 ((za l0 x10_1).f5.f2), .int .u64 ((za l0 x10_1).f5.f3)])) ?hg ?ho ?hn ?hr ?_; (case ho => rfl); (case hg => rfl); (case hn => rfl); (case hr => (go_simp; rfl)); intro w26 hw; replace HO_3 : zb (Kd.R k34 34 w26 w.heap.size (fun k_ => k_ ≠ gb307) v304 x3_1) := ⟨(by rw [hw]; exact (Kd.rx (Kd.zH (Kd.jc (g := gb307) (Kd.zH HO_3.out (fun k_ hk => (⟨hk, hk.2⟩ : _ ∧ k_ ≠ gb307))) (fun _ hk => hk.2) #[.int .i64 ((za l0 x10_1).f0), .int .i64 ((za l0 x10_1).f1), .int .i64 ((za l0 x10_1).f2), .int .i64 ((za l0 x10_1).f3), .string ((za l0 x10_1).f4), .int .u64 ((za l0 x10_1).f5.f0), .int .u64 ((za l0 x10_1).f5.f1), .int .u64 ((za l0 x10_1).f5.f2), .int .u64 ((za l0 x10_1).f5.f3)]) (fun _ hk => hk.1.2))))⟩; replace BK307 : zb (w26.heap[gb307]? = some (.cells #[.int .i64 ((za l0 x10_1).f0), .int .i64 ((za l0 x10_1).f1), .int .i64 ((za l0 x10_1).f2), .int .i64 ((za l0 x10_1).f3), .string ((za l0 x10_1).f4), .int .u64 ((za l0 x10_1).f5.f0), .int .u64 ((za l0 x10_1).f5.f1), .int .u64 ((za l0 x10_1).f5.f2), .int .u64 ((za l0 x10_1).f5.f3)] 34 (0, 0))) := ⟨(by rw [hw]; exact (by (with_reducible skip); refine xd (cs := #[.int .i64 0, .int .i64 0, .int .i64 0, .int .i64 0, .string (⟨#[]⟩ : ByteArray), .int .u64 0, .int .u64 0, .int .u64 0, .int .u64 0]) ?_ _ rfl; (with_reducible skip); exact BK307.out))⟩; replace HB : zb (Below w.heap.size w w26) := ⟨(by rw [hw]; exact bsq)⟩; clear hw; obtain ⟨hcz27_0, hcz27_1, hcz27_2, hcz27_3, hcz27_4, hcz27_5, hcz27_6, hcz27_7, hcz27_8⟩ := zS BK307.out; obtain ⟨hfz27_0, hfz27_1, hfz27_2, hfz27_3, hfz27_4, hfz27_5, hfz27_6, hfz27_7, hfz27_8⟩ := zR BK307.out))
     go_roundg k1
     case measure => have := HK1.out; omega
     case rel => exact ⟨(x3_1), (wrap64 (x10_1 + 1)), eq0, H', ⟨by have := HK1.out; omega⟩, ⟨Kd.rx (Kd.zH HO_3.out (fun _ hk => trivial))⟩, ⟨bsq⟩⟩
   ·rw [if_neg c4] at H
    have c4b0 := decide_eq_false c4
    clear c4
    obtain rfl := Option.some.inj H
    go_wp2
    go_ret
    exact ⟨_, eq1, Kd.rx HO_3.out, bl HB.out⟩
def xz.l0 : Nat → List (S34) → Int → Int → Option (Int × Bool)
 | 0, _, _, _ => none
 | k + 1, x0, x1, x6 => if 0 ≤ x1 then (if x1 < (x0.length : Int) then (if ((za x0 x1).f0) = 14 then (if x6 > (x0.length : Int) then (some (0, false)) else (xz.l0 k x0 (wrap64 (x1 + ((za x0 x1).f1))) (wrap64 (x6 + 1)))) else (some (x1, true))) else (none)) else (none)
def xz.f (k : Nat) (l0 : List (S34)) (a1 : Int) : Option (Int × Bool) := if 0 ≤ a1 then (if a1 < (l0.length : Int) then (xz.l0 k l0 (wrap64 (a1 + ((za l0 a1).f1))) 0) else (none)) else (none)
theorem xz.calls (k : Nat) (A0 : Option Addr) (c0 : Nat) (l0 : List (S34)) (a1 r1 : Int) (r2 : Bool) (w : World) (hG : GW w) (hr0 : Kd.C k34 w A0 l0.length l0) (hc0 : l0.length ≤ c0) (h : xz.f k l0 a1 = some (r1, r2)) :
  Calls Tryd.prog 47 #[.slice A0 l0.length c0, .int .i64 a1] w fun e w' => e = .returned (.tuple #[.int .i64 r1, .bool r2]) ∧ zi w w' := by
 have HR0 := zb.mk hr0
 have HC0 := zb.mk hc0
 clear hr0 hc0
 have HG := zb.mk hG
 clear hG
 have H : (if 0 ≤ a1 then (if a1 < (l0.length : Int) then (xz.l0 k l0 (wrap64 (a1 + ((za l0 a1).f1))) 0) else (none)) else (none)) = some (r1, r2) := h
 clear h
 by_cases c3 : 0 ≤ a1
 ·rw [if_pos c3] at H
  have c3b0 := decide_eq_true c3
  clear c3
  replace H := qh H; obtain ⟨c4, H⟩ := H
  have c4b0 := decide_eq_true c4
  clear c4
  have H' := zb.mk H
  clear H
  have p310 : 0 ≤ (a1 : Int) := dq
  have q310 : a1 < (l0.length : Int) := dq
  obtain ⟨ad310, e310, hx310_0, hx310_1, hx310_2, hx310_3, hx310_4, hx310_5, hx310_6, hx310_7, hx310_8⟩ := zU HR0.out a1 p310 q310
  cases e310
  replace p310 := eq_true p310
  replace q310 := eq_true q310
  go_enter Tryd.func47, Tryd.ntmps47
  go_wp2
  go_loopg [1, 6] k (fun kq v1 v6 w' => ∃ (x1_1 : Int) (x6_1 : Int), v1 = .int .i64 x1_1 ∧ v6 = .int .i64 x6_1 ∧ zb (xz.l0 kq l0 x1_1 x6_1 = some (r1, r2)) ∧ zb (kq ≤ k) ∧ zi w w')
  case atStart => exact ⟨(wrap64 (a1 + ((za l0 a1).f1))), (0), eq0, eq0, H', ⟨Nat.le_refl _⟩, by repeat (exact zi.refl _)⟩
  case round =>
   clear H'
   (try clear c3b0); (try clear c4b0); (try clear hx310_0); (try clear hx310_1); (try clear hx310_2); (try clear hx310_3); (try clear hx310_4); (try clear hx310_5); (try clear hx310_6); (try clear hx310_7); (try clear hx310_8); (try clear p310); (try clear q310)
   obtain ⟨x1_1, x6_1, rfl, rfl, HA, HK1, ⟨m1, rfl⟩⟩ := hrel
   cases gk with
   | zero => exact absurd HA.out (by simp [xz.l0])
   | succ k1 =>
    have H := HA.out
    clear HA
    simp only [xz.l0] at H
    replace H := qh H; obtain ⟨c5, H⟩ := H
    have c5b0 := decide_eq_true c5
    clear c5
    replace H := qh H; obtain ⟨c6, H⟩ := H
    have c6b0 := decide_eq_true c6
    clear c6
    by_cases c7 : ((za l0 x1_1).f0) = 14
    ·rw [if_pos c7] at H
     have c7b0 := beq_iff_eq.mpr c7
     have c7b1 := bne_eq_false_iff_eq.mpr c7
     clear c7
     by_cases c8 : x6_1 > (l0.length : Int)
     ·rw [if_pos c8] at H
      have c8b0 := decide_eq_true c8
      clear c8
      simp only [Option.some.injEq, Prod.mk.injEq] at H
      obtain ⟨rfl, rfl⟩ := H
      have p311 : 0 ≤ (x1_1 : Int) := dq
      have q311 : x1_1 < (l0.length : Int) := dq
      obtain ⟨ad311, e311, hx311_0, hx311_1, hx311_2, hx311_3, hx311_4, hx311_5, hx311_6, hx311_7, hx311_8⟩ := zU HR0.out x1_1 p311 q311
      obtain rfl : ad310 = ad311 := (by injection e311)
      replace p311 := eq_true p311
      replace q311 := eq_true q311
      go_wp2
      go_ret2
      exact ⟨eq0, by repeat (first | exact zi.refl _ | apply zi.step)⟩
     ·rw [if_neg c8] at H
      have c8b0 := decide_eq_false c8
      clear c8
      have H' := zb.mk H
      clear H
      have p311 : 0 ≤ (x1_1 : Int) := dq
      have q311 : x1_1 < (l0.length : Int) := dq
      obtain ⟨ad311, e311, hx311_0, hx311_1, hx311_2, hx311_3, hx311_4, hx311_5, hx311_6, hx311_7, hx311_8⟩ := zU HR0.out x1_1 p311 q311
      obtain rfl : ad310 = ad311 := (by injection e311)
      replace p311 := eq_true p311
      replace q311 := eq_true q311
      have p312 : 0 ≤ (x1_1 : Int) := dq
      have q312 : x1_1 < (l0.length : Int) := dq
      obtain ⟨ad312, e312, hx312_0, hx312_1, hx312_2, hx312_3, hx312_4, hx312_5, hx312_6, hx312_7, hx312_8⟩ := zU HR0.out x1_1 p312 q312
      obtain rfl : ad310 = ad312 := (by injection e312)
      replace p312 := eq_true p312
      replace q312 := eq_true q312
      go_wp2
      go_roundg k1
      case measure => have := HK1.out; omega
      case rel => exact ⟨(wrap64 (x1_1 + ((za l0 x1_1).f1))), (wrap64 (x6_1 + 1)), eq0, eq0, H', ⟨by have := HK1.out; omega⟩, by repeat (first | exact zi.refl _ | apply zi.step)⟩
    ·rw [if_neg c7] at H
     have c7b0 := beq_eq_false_iff_ne.mpr c7
     have c7b1 := bne_iff_ne.mpr c7
     simp only [Option.some.injEq, Prod.mk.injEq] at H
     obtain ⟨rfl, rfl⟩ := H
     have p311 : 0 ≤ (x1_1 : Int) := dq
     have q311 : x1_1 < (l0.length : Int) := dq
     obtain ⟨ad311, e311, hx311_0, hx311_1, hx311_2, hx311_3, hx311_4, hx311_5, hx311_6, hx311_7, hx311_8⟩ := zU HR0.out x1_1 p311 q311
     obtain rfl : ad310 = ad311 := (by injection e311)
     replace p311 := eq_true p311
     replace q311 := eq_true q311
     go_wp2
     go_ret2
     exact ⟨eq0, by repeat (first | exact zi.refl _ | apply zi.step)⟩
 ·rw [if_neg c3] at H
  exact absurd H (by simp)
mutual
def zY.l0 : Nat → List (S34) → List (S34) → List (S34) → Int → Int → Option ((List (S34)))
 | 0, _, _, _, _, _ => none
 | k + 1, x0, x3, x10, x11, x12 => if x12 < x11 then (if 0 ≤ x12 then (if x12 < (x10.length : Int) then ((jk.f ((za x10 x12).f0)).bind fun t318 => (if t318 = true then ((xz.f k x0 x12).bind fun bt319 => (if bt319.2 = true then (if x12 < (x3.length : Int) then ((some (x3.set (x12 : Int).toNat (⟨(za x3 x12).f0, wrap64 (bt319.1 - x12), (za x3 x12).f2, (za x3 x12).f3, (za x3 x12).f4, (⟨(za x3 x12).f5.f0, (za x3 x12).f5.f1, (za x3 x12).f5.f2, (za x3 x12).f5.f3⟩ : S32)⟩ : S34) : List (S34))).bind fun y321 => (if 0 ≤ bt319.1 then (if bt319.1 < (x0.length : Int) then (if ((za x0 bt319.1).f0) = 16 then (zY.j1 k x0 y321 x12 bt319.1 x10 x11 x12 (((za x0 bt319.1).f0) == 16) ((za x10 x12).f0) ((za x10 x12).f1) ((za x10 x12).f2) ((za x10 x12).f3) ((za x10 x12).f4) ((za x10 x12).f5.f0) ((za x10 x12).f5.f1) ((za x10 x12).f5.f2) ((za x10 x12).f5.f3)) else (if ((za x0 bt319.1).f0) = 17 then (zY.j1 k x0 y321 x12 bt319.1 x10 x11 x12 (((za x0 bt319.1).f0) == 17) ((za x10 x12).f0) ((za x10 x12).f1) ((za x10 x12).f2) ((za x10 x12).f3) ((za x10 x12).f4) ((za x10 x12).f5.f0) ((za x10 x12).f5.f1) ((za x10 x12).f5.f2) ((za x10 x12).f5.f3)) else (if ((za x0 bt319.1).f0) = 13 then (zY.j1 k x0 y321 x12 bt319.1 x10 x11 x12 (((za x0 bt319.1).f0) == 13) ((za x10 x12).f0) ((za x10 x12).f1) ((za x10 x12).f2) ((za x10 x12).f3) ((za x10 x12).f4) ((za x10 x12).f5.f0) ((za x10 x12).f5.f1) ((za x10 x12).f5.f2) ((za x10 x12).f5.f3)) else (zY.j1 k x0 y321 x12 bt319.1 x10 x11 x12 (((za x0 bt319.1).f0) == 12) ((za x10 x12).f0) ((za x10 x12).f1) ((za x10 x12).f2) ((za x10 x12).f3) ((za x10 x12).f4) ((za x10 x12).f5.f0) ((za x10 x12).f5.f1) ((za x10 x12).f5.f2) ((za x10 x12).f5.f3))))) else (none)) else (none))) else (none)) else (zY.l0 k x0 x3 x10 x11 (wrap64 (x12 + 1))))) else (zY.l0 k x0 x3 x10 x11 (wrap64 (x12 + 1))))) else (none)) else (none)) else (some x3)
def zY.j1 : Nat → List (S34) → List (S34) → Int → Int → List (S34) → Int → Int → Bool → Int → Int → Int → Int → ByteArray → Int → Int → Int → Int → Option ((List (S34)))
 | 0, _, _, _, _, _, _, _, _, _, _, _, _, _, _, _, _, _ => none
 | k + 1, x0, x3, x4, x6, x10, x11, x12, x41, x318000, x318001, x318002, x318003, x318004, x318005, x318006, x318007, x318008 => if x41 = true then (if x318000 = 14 then (if 0 ≤ x6 then (if x6 < (x0.length : Int) then (if 0 ≤ x4 then (if x4 < (x3.length : Int) then (zY.l0 k x0 (x3.set (x4 : Int).toNat (⟨(za x0 x6).f0, (za x0 x6).f1, (za x0 x6).f2, (za x0 x6).f3, (za x0 x6).f4, (⟨(za x0 x6).f5.f0, (za x0 x6).f5.f1, (za x0 x6).f5.f2, (za x0 x6).f5.f3⟩ : S32)⟩ : S34)) x10 x11 (wrap64 (x12 + 1))) else (none)) else (none)) else (none)) else (none)) else (zY.l0 k x0 x3 x10 x11 (wrap64 (x12 + 1)))) else (zY.l0 k x0 x3 x10 x11 (wrap64 (x12 + 1)))
end
def zY.f (k : Nat) (l0 : List (S34)) : Option ((List (S34))) := (qD.f l0).bind fun t313 => (zY.l0 k l0 t313 l0 (l0.length : Int) 0)
theorem zY.calls (k : Nat) (A0 : Option Addr) (c0 : Nat) (l0 r : List (S34)) (w : World) (hG : GW w) (hr0 : Kd.C k34 w A0 l0.length l0) (hc0 : l0.length ≤ c0) (h : zY.f k l0 = some r) :
  Calls Tryd.prog 26 #[.slice A0 l0.length c0] w fun e w' => ∃ v0_ : Value, e = .returned (v0_) ∧ Kd.R k34 34 w' w.heap.size (fun _ => True) v0_ r ∧ Below w.heap.size w w' := by
 have hu34 := Tryd.underlying34
 have HR0 := zb.mk hr0
 have HC0 := zb.mk hc0
 clear hr0 hc0
 have HG := zb.mk hG
 clear hG
 have HB := zb.mk (Below.refl w.heap.size w)
 have H : ((qD.f l0).bind fun t313 => (zY.l0 k l0 t313 l0 (l0.length : Int) 0)) = some r := h
 clear h
 replace H := zO H; obtain ⟨t313, A2, H⟩ := H
 have H' := zb.mk H
 clear H
 go_enter Tryd.func26, Tryd.ntmps26
 go_wp2_with (((with_reducible refine zc (f := 31) rfl ?_); refine zh (some 9) rfl rfl Tryd.func31 (by kernel_rfl) rfl #[.slice A0 l0.length c0] rfl hq ?_; (with_reducible refine (qD.calls _ _ l0 t313 _ ?side3 ?side1 ?side2 A2.out).mono ?_); (case side1 => exact Kd.cx HR0.out); (case side2 => exact HC0.out); (case side3 => exact gb HG HB); rintro e w3 ⟨v314, rfl, ho0, hb⟩; refine ⟨_, rfl, ?_⟩; have HO315 := zb.mk (Kd.rlo ho0 HB); replace HB := bst HB hb; (try clear hb); (try clear ho0)))
 go_loopg [12] k (fun kq v12 w' => ∃ (x3_1 : List (S34)) (x12_1 : Int), v12 = .int .i64 x12_1 ∧ zb (zY.l0 kq l0 x3_1 l0 (l0.length : Int) x12_1 = some r) ∧ zb (kq ≤ k) ∧ zb (Kd.R k34 34 w' w.heap.size (fun _ => True) v314 x3_1) ∧ zb (Below w.heap.size w w'))
 case atStart => exact ⟨(t313), (0), eq0, H', ⟨Nat.le_refl _⟩, ⟨Kd.rx HO315.out⟩, ⟨bl HB.out⟩⟩
 case round =>
  clear H'
  obtain ⟨x3_1, x12_1, rfl, HA, HK1, HO_3, HB⟩ := hrel
  cases gk with
  | zero => exact absurd HA.out (by simp [zY.l0])
  | succ k1 =>
   have H := HA.out
   clear HA
   simp only [zY.l0] at H
   by_cases c4 : x12_1 < (l0.length : Int)
   ·rw [if_pos c4] at H
    have c4b0 := decide_eq_true c4
    clear c4
    replace H := qh H; obtain ⟨c5, H⟩ := H
    have c5b0 := decide_eq_true c5
    clear c5
    replace H := qh H; obtain ⟨c6, H⟩ := H
    have c6b0 := decide_eq_true c6
    clear c6
    replace H := zO H; obtain ⟨t318, A7, H⟩ := H
    by_cases c8 : t318 = true
    ·subst c8
     replace H := ifT H
     replace H := zO H; obtain ⟨⟨t319, t320⟩, A9, H⟩ := H; try dsimp only at H
     by_cases c10 : t320 = true
     ·subst c10
      replace H := ifT H
      replace H := qh H; obtain ⟨c11, H⟩ := H
      have c11b0 := decide_eq_true c11
      clear c11
      obtain ⟨y321, Ny321, H⟩ := bindY H; try dsimp only at H
      replace H := qh H; obtain ⟨c13, H⟩ := H
      have c13b0 := decide_eq_true c13
      clear c13
      replace H := qh H; obtain ⟨c14, H⟩ := H
      have c14b0 := decide_eq_true c14
      clear c14
      have HC15 := zb.mk H
      clear H
      have p316 : 0 ≤ (x12_1 : Int) := dq
      have q316 : x12_1 < (l0.length : Int) := dq
      obtain ⟨ad316, e316, hx316_0, hx316_1, hx316_2, hx316_3, hx316_4, hx316_5, hx316_6, hx316_7, hx316_8⟩ := zU HR0.out x12_1 p316 q316
      cases e316
      replace hx316_0 := cb HB.out hx316_0
      replace hx316_1 := cb HB.out hx316_1
      replace hx316_2 := cb HB.out hx316_2
      replace hx316_3 := cb HB.out hx316_3
      replace hx316_4 := cb HB.out hx316_4
      replace hx316_5 := cb HB.out hx316_5
      replace hx316_6 := cb HB.out hx316_6
      replace hx316_7 := cb HB.out hx316_7
      replace hx316_8 := cb HB.out hx316_8
      replace p316 := eq_true p316
      replace q316 := eq_true q316
      go_upto_if 41 with (first | ((with_reducible refine z3 (N := 5) rfl ?_); refine qk ?hg (N := 5) ?hd (cs := #[.int .i64 0, .int .i64 0, .int .i64 0, .int .i64 0, .string (⟨#[]⟩ : ByteArray), .int .u64 0, .int .u64 0, .int .u64 0, .int .u64 0]) (t := 34) ?hr ?_; (case hd => rfl); (case hg => rfl); (case hr => (go_simp; done)); intro gb317 hg w16 hbox hb; replace HO_3 := zb.mk (Kd.xk (Kd.xT (Kd.rx HO_3.out) gb317 (Nat.le_of_eq hg.symm)) hb); have BK317 := zb.mk (hbox); have GW317 := zb.mk ((by rw [hg]; exact (zj (bl HB.out)) : w.heap.size ≤ gb317)); have GE317 := zb.mk ((by rw [hg]; exact (zj (bl HB.out)) : w.heap.size ≤ gb317)); replace HB := bst HB hb; clear hb hbox hg; obtain ⟨hcz17_0, hcz17_1, hcz17_2, hcz17_3, hcz17_4, hcz17_5, hcz17_6, hcz17_7, hcz17_8⟩ := zS BK317.out; obtain ⟨hfz17_0, hfz17_1, hfz17_2, hfz17_3, hfz17_4, hfz17_5, hfz17_6, hfz17_7, hfz17_8⟩ := zR BK317.out) | ((with_reducible refine zM (t := 34) (p := 5) rfl ?_); refine zB (t := 34) (p := 5) (v := ?vo_w18) (w1 := (xr w16 gb317 #[.int .i64 ((za l0 x12_1).f0), .int .i64 ((za l0 x12_1).f1), .int .i64 ((za l0 x12_1).f2), .int .i64 ((za l0 x12_1).f3), .string ((za l0 x12_1).f4), .int .u64 ((za l0 x12_1).f5.f0), .int .u64 ((za l0 x12_1).f5.f1), .int .u64 ((za l0 x12_1).f5.f2), .int .u64 ((za l0 x12_1).f5.f3)])) ?hg ?ho ?hn ?hr ?_; (case ho => rfl); (case hg => rfl); (case hn => rfl); (case hr => (go_simp; rfl)); intro w18 hw; replace HO_3 : zb (Kd.R k34 34 w18 w.heap.size (fun k_ => k_ ≠ gb317) v314 x3_1) := ⟨(by rw [hw]; exact (Kd.rx (Kd.zH (Kd.jc (g := gb317) (Kd.zH HO_3.out (fun k_ hk => (⟨hk, hk.2⟩ : _ ∧ k_ ≠ gb317))) (fun _ hk => hk.2) #[.int .i64 ((za l0 x12_1).f0), .int .i64 ((za l0 x12_1).f1), .int .i64 ((za l0 x12_1).f2), .int .i64 ((za l0 x12_1).f3), .string ((za l0 x12_1).f4), .int .u64 ((za l0 x12_1).f5.f0), .int .u64 ((za l0 x12_1).f5.f1), .int .u64 ((za l0 x12_1).f5.f2), .int .u64 ((za l0 x12_1).f5.f3)]) (fun _ hk => hk.1.2))))⟩; replace BK317 : zb (w18.heap[gb317]? = some (.cells #[.int .i64 ((za l0 x12_1).f0), .int .i64 ((za l0 x12_1).f1), .int .i64 ((za l0 x12_1).f2), .int .i64 ((za l0 x12_1).f3), .string ((za l0 x12_1).f4), .int .u64 ((za l0 x12_1).f5.f0), .int .u64 ((za l0 x12_1).f5.f1), .int .u64 ((za l0 x12_1).f5.f2), .int .u64 ((za l0 x12_1).f5.f3)] 34 (0, 0))) := ⟨(by rw [hw]; exact (by (with_reducible skip); refine xd (cs := #[.int .i64 0, .int .i64 0, .int .i64 0, .int .i64 0, .string (⟨#[]⟩ : ByteArray), .int .u64 0, .int .u64 0, .int .u64 0, .int .u64 0]) ?_ _ rfl; (with_reducible skip); exact BK317.out))⟩; replace HB : zb (Below w.heap.size w w18) := ⟨(by rw [hw]; exact bsq)⟩; clear hw; obtain ⟨hcz19_0, hcz19_1, hcz19_2, hcz19_3, hcz19_4, hcz19_5, hcz19_6, hcz19_7, hcz19_8⟩ := zS BK317.out; obtain ⟨hfz19_0, hfz19_1, hfz19_2, hfz19_3, hfz19_4, hfz19_5, hfz19_6, hfz19_7, hfz19_8⟩ := zR BK317.out) | ((with_reducible refine zc (f := 46) rfl ?_); refine zh (some 19) rfl rfl Tryd.func46 (by kernel_rfl) rfl #[.int .i64 ((za l0 x12_1).f0)] rfl hq ?_; (with_reducible refine (jk.calls ((za l0 x12_1).f0) true _ ?side1 A7.out).mono ?_); (case side1 => exact GW.below HG.out bsq); rintro e w' ⟨rfl, ⟨nd, rfl⟩⟩; refine ⟨_, rfl, ?_⟩; (try (rw [xm w18]; generalize hq_ : World.drewN w18 _ = w18; replace HO_3 : zb (Kd.R k34 34 w18 w.heap.size (fun k_ => k_ ≠ gb317) v314 x3_1) := ⟨by rw [← hq_]; exact (Kd.rx HO_3.out)⟩; replace BK317 : zb (w18.heap[gb317]? = some (.cells #[.int .i64 ((za l0 x12_1).f0), .int .i64 ((za l0 x12_1).f1), .int .i64 ((za l0 x12_1).f2), .int .i64 ((za l0 x12_1).f3), .string ((za l0 x12_1).f4), .int .u64 ((za l0 x12_1).f5.f0), .int .u64 ((za l0 x12_1).f5.f1), .int .u64 ((za l0 x12_1).f5.f2), .int .u64 ((za l0 x12_1).f5.f3)] 34 (0, 0))) := ⟨by rw [← hq_]; exact (bx BK317.out)⟩; replace HB : zb (Below w.heap.size w w18) := ⟨by rw [← hq_]; exact bsq⟩; clear hq_))) | ((with_reducible refine zc (f := 47) rfl ?_); refine zh (some 24) rfl rfl Tryd.func47 (by kernel_rfl) rfl #[.slice (some ad316) l0.length c0, .int .i64 x12_1] rfl hq ?_; (with_reducible refine (xz.calls k1 _ _ l0 x12_1 t319 true _ ?side3 ?side1 ?side2 A9.out).mono ?_); (case side1 => exact Kd.cx (Kd.zF HR0.out HB.out)); (case side2 => exact HC0.out); (case side3 => exact GW.below HG.out bsq); rintro e w' ⟨rfl, ⟨nd, rfl⟩⟩; refine ⟨_, rfl, ?_⟩; (try (rw [xm w18]; generalize hq_ : World.drewN w18 _ = w18; replace HO_3 : zb (Kd.R k34 34 w18 w.heap.size (fun k_ => k_ ≠ gb317) v314 x3_1) := ⟨by rw [← hq_]; exact (Kd.rx HO_3.out)⟩; replace BK317 : zb (w18.heap[gb317]? = some (.cells #[.int .i64 ((za l0 x12_1).f0), .int .i64 ((za l0 x12_1).f1), .int .i64 ((za l0 x12_1).f2), .int .i64 ((za l0 x12_1).f3), .string ((za l0 x12_1).f4), .int .u64 ((za l0 x12_1).f5.f0), .int .u64 ((za l0 x12_1).f5.f1), .int .u64 ((za l0 x12_1).f5.f2), .int .u64 ((za l0 x12_1).f5.f3)] 34 (0, 0))) := ⟨by rw [← hq_]; exact (bx BK317.out)⟩; replace HB : zb (Below w.heap.size w w18) := ⟨by rw [← hq_]; exact bsq⟩; clear hq_)); have p12 : 0 ≤ (x12_1 : Int) := dq; have q12 : (x12_1 : Int) < ((x3_1.length : Int) : Int) := dq; obtain ⟨go12, co12, eo12, gb12, gl12, cl12, HG12⟩ := Kd.xR HO_3.out (by omega); (cases eo12); have GB12 := zb.mk gb12; have GG12 := zb.mk HG12; clear gb12 gl12 HG12; obtain ⟨ce12, hcl12, hM12, hcc12, hfr12⟩ := Kd.xA HO_3.out z34 (x12_1 : Int) p12 q12; obtain rfl := qG hM12; have hx12_0 : w18.cell? ⟨go12, (x12_1 : Int).toNat * 9, none⟩ = some (.int .i64 ((za x3_1 x12_1).f0)) := hcc12 0 _ rfl; have hx12_1 : w18.cell? ⟨go12, (x12_1 : Int).toNat * 9 + 1, none⟩ = some (.int .i64 ((za x3_1 x12_1).f1)) := hcc12 1 _ rfl; have hx12_2 : w18.cell? ⟨go12, (x12_1 : Int).toNat * 9 + 2, none⟩ = some (.int .i64 ((za x3_1 x12_1).f2)) := hcc12 2 _ rfl; have hx12_3 : w18.cell? ⟨go12, (x12_1 : Int).toNat * 9 + 3, none⟩ = some (.int .i64 ((za x3_1 x12_1).f3)) := hcc12 3 _ rfl; have hx12_4 : w18.cell? ⟨go12, (x12_1 : Int).toNat * 9 + 4, none⟩ = some (.string ((za x3_1 x12_1).f4)) := hcc12 4 _ rfl; have hx12_5 : w18.cell? ⟨go12, (x12_1 : Int).toNat * 9 + 5, none⟩ = some (.int .u64 ((za x3_1 x12_1).f5.f0)) := hcc12 5 _ rfl; have hx12_6 : w18.cell? ⟨go12, (x12_1 : Int).toNat * 9 + 6, none⟩ = some (.int .u64 ((za x3_1 x12_1).f5.f1)) := hcc12 6 _ rfl; have hx12_7 : w18.cell? ⟨go12, (x12_1 : Int).toNat * 9 + 7, none⟩ = some (.int .u64 ((za x3_1 x12_1).f5.f2)) := hcc12 7 _ rfl; have hx12_8 : w18.cell? ⟨go12, (x12_1 : Int).toNat * 9 + 8, none⟩ = some (.int .u64 ((za x3_1 x12_1).f5.f3)) := hcc12 8 _ rfl; have hf12_0 : w18.frozen? ⟨go12, (x12_1 : Int).toNat * 9, none⟩ = false := hfr12 0; have hf12_1 : w18.frozen? ⟨go12, (x12_1 : Int).toNat * 9 + 1, none⟩ = false := hfr12 1; have hf12_2 : w18.frozen? ⟨go12, (x12_1 : Int).toNat * 9 + 2, none⟩ = false := hfr12 2; have hf12_3 : w18.frozen? ⟨go12, (x12_1 : Int).toNat * 9 + 3, none⟩ = false := hfr12 3; have hf12_4 : w18.frozen? ⟨go12, (x12_1 : Int).toNat * 9 + 4, none⟩ = false := hfr12 4; have hf12_5 : w18.frozen? ⟨go12, (x12_1 : Int).toNat * 9 + 5, none⟩ = false := hfr12 5; have hf12_6 : w18.frozen? ⟨go12, (x12_1 : Int).toNat * 9 + 6, none⟩ = false := hfr12 6; have hf12_7 : w18.frozen? ⟨go12, (x12_1 : Int).toNat * 9 + 7, none⟩ = false := hfr12 7; have hf12_8 : w18.frozen? ⟨go12, (x12_1 : Int).toNat * 9 + 8, none⟩ = false := hfr12 8; clear hcl12 hcc12 hfr12 hM12; replace p12 := eq_true p12; replace q12 := eq_true q12; have HX20 := zb.mk (show Kd.R k34 34 w18 w.heap.size (fun k_ => k_ ≠ gb317) (.slice (some ⟨go12, 0, none⟩) x3_1.length co12) x3_1 from (Kd.rx HO_3.out)); obtain ⟨ce20, hcl20, hM20, hcc20, hfr20⟩ := Kd.xA HX20.out z34 (x12_1 : Int) (dq) (by have h_ : (x12_1 : Int) < ((x3_1.length : Int) : Int) := dq; exact h_); obtain rfl := qG hM20; have HP20 := Kd.R_seg HX20.out (x12_1 : Int) (dq) (by have h_ : (x12_1 : Int) < ((x3_1.length : Int) : Int) := dq; exact h_) (seg := [.int .i64 (wrap64 (t319 - x12_1))]) (j := 1) hcl20 hcc20 (show 2 ≤ 9 from by decide) (x' := (⟨(za x3_1 x12_1).f0, wrap64 (t319 - x12_1), (za x3_1 x12_1).f2, (za x3_1 x12_1).f3, (za x3_1 x12_1).f4, (⟨(za x3_1 x12_1).f5.f0, (za x3_1 x12_1).f5.f1, (za x3_1 x12_1).f5.f2, (za x3_1 x12_1).f5.f3⟩ : S32)⟩ : S34)) (xq _ _ _ (⟨(za x3_1 x12_1).f0, wrap64 (t319 - x12_1), (za x3_1 x12_1).f2, (za x3_1 x12_1).f3, (za x3_1 x12_1).f4, (⟨(za x3_1 x12_1).f5.f0, (za x3_1 x12_1).f5.f1, (za x3_1 x12_1).f5.f2, (za x3_1 x12_1).f5.f3⟩ : S32)⟩ : S34) ) (fun _ hk => hk); have hx20_1 := hcc20 1 _ rfl; (try simp only [show (k34).sz = 9 from rfl, Nat.mul_one, Nat.add_zero] at hx20_1); have hf20_1 := hfr20 1; (try simp only [show (k34).sz = 9 from rfl, Nat.mul_one, Nat.add_zero] at hf20_1); clear hcl20 hcc20 hfr20 hM20) | ((with_reducible refine zM (t := 3) (p := 35) rfl ?_); refine zB (t := 3) (p := 35) (v := ?vo_w21) (w1 := (w18.setCell ⟨go12, (x12_1 : Int).toNat * 9 + 1, none⟩ (.int .i64 (wrap64 (t319 - x12_1))))) ?hg ?ho ?hn ?hr ?_; (case ho => rfl); (case hg => rfl); (case hn => rfl); (case hr => (go_simp; done)); intro w21 hw; have hg : w18.grownBy w21 (some go12) := (by rw [hw]; exact HP20.2); have hp_ : Kd.R k34 34 w21 w.heap.size (fun k_ => k_ ≠ gb317) (.slice (some ⟨go12, 0, none⟩) x3_1.length co12) y321 := (by rw [hw, Ny321.out]; exact HP20.1); clear HP20; replace BK317 := zb.mk (xc (g := gb317) (o := .cells #[.int .i64 ((za l0 x12_1).f0), .int .i64 ((za l0 x12_1).f1), .int .i64 ((za l0 x12_1).f2), .int .i64 ((za l0 x12_1).f3), .string ((za l0 x12_1).f4), .int .u64 ((za l0 x12_1).f5.f0), .int .u64 ((za l0 x12_1).f5.f1), .int .u64 ((za l0 x12_1).f5.f2), .int .u64 ((za l0 x12_1).f5.f3)] 34 (0, 0)) (bx BK317.out) hg (Kd.R_away HO_3.out (fun _ hk => hk))); replace HO_3 := zb.mk (hp_); replace HB := zb.mk ((by rw [hw]; exact zz (HB.out) GB12.out : Below w.heap.size w w21)); clear hg hw hp_; have p322 : 0 ≤ (t319 : Int) := dq; have q322 : t319 < (l0.length : Int) := dq; obtain ⟨ad322, e322, hx322_0, hx322_1, hx322_2, hx322_3, hx322_4, hx322_5, hx322_6, hx322_7, hx322_8⟩ := zU (Kd.zF HR0.out HB.out) t319 p322 q322; obtain rfl : ad316 = ad322 := (by injection e322); replace p322 := eq_true p322; replace q322 := eq_true q322))
      go_cut [41] (fun v41 wc => ∃ (kq : Nat) (x41_14 : Bool), v41 = .bool x41_14 ∧ zb (zY.j1 kq l0 y321 x12_1 t319 l0 (l0.length : Int) x12_1 x41_14 ((za l0 x12_1).f0) ((za l0 x12_1).f1) ((za l0 x12_1).f2) ((za l0 x12_1).f3) ((za l0 x12_1).f4) ((za l0 x12_1).f5.f0) ((za l0 x12_1).f5.f1) ((za l0 x12_1).f5.f2) ((za l0 x12_1).f5.f3) = some r) ∧ zb (kq ≤ k1) ∧ zb (Kd.R k34 34 wc w.heap.size (fun k_ => k_ ≠ gb317) (.slice (some ⟨go12, 0, none⟩) x3_1.length co12) y321) ∧ zb (wc.heap[gb317]? = some (.cells #[.int .i64 ((za l0 x12_1).f0), .int .i64 ((za l0 x12_1).f1), .int .i64 ((za l0 x12_1).f2), .int .i64 ((za l0 x12_1).f3), .string ((za l0 x12_1).f4), .int .u64 ((za l0 x12_1).f5.f0), .int .u64 ((za l0 x12_1).f5.f1), .int .u64 ((za l0 x12_1).f5.f2), .int .u64 ((za l0 x12_1).f5.f3)] 34 (0, 0))) ∧ zb (Below w.heap.size w wc))
      case first =>
       have H := HC15.out
       clear HC15
       by_cases c22 : ((za l0 t319).f0) = 16
       ·rw [if_pos c22] at H
        have c22b0 := beq_iff_eq.mpr c22
        have c22b1 := bne_eq_false_iff_eq.mpr c22
        clear c22
        (rw [c22b0])
        have H' := zb.mk H
        clear H
        go_wp2
        go_meet
        case rel => exact ⟨_, ((((za l0 t319).f0) == 16)), eq0, H', ⟨by have := HK1.out; omega⟩, ⟨Kd.rx HO_3.out⟩, ⟨by (with_reducible skip); exact BK317.out⟩, ⟨bsq⟩⟩
       ·rw [if_neg c22] at H
        have c22b0 := beq_eq_false_iff_ne.mpr c22
        have c22b1 := bne_iff_ne.mpr c22
        (rw [c22b0])
        by_cases c23 : ((za l0 t319).f0) = 17
        ·rw [if_pos c23] at H
         have c23b0 := beq_iff_eq.mpr c23
         have c23b1 := bne_eq_false_iff_eq.mpr c23
         clear c23
         have H' := zb.mk H
         clear H
         go_wp2
         go_meet
         case rel => exact ⟨_, ((((za l0 t319).f0) == 17)), eq0, H', ⟨by have := HK1.out; omega⟩, ⟨Kd.rx HO_3.out⟩, ⟨by (with_reducible skip); exact BK317.out⟩, ⟨bsq⟩⟩
        ·rw [if_neg c23] at H
         have c23b0 := beq_eq_false_iff_ne.mpr c23
         have c23b1 := bne_iff_ne.mpr c23
         by_cases c24 : ((za l0 t319).f0) = 13
         ·rw [if_pos c24] at H
          have c24b0 := beq_iff_eq.mpr c24
          have c24b1 := bne_eq_false_iff_eq.mpr c24
          clear c24
          have H' := zb.mk H
          clear H
          go_wp2
          go_meet
          case rel => exact ⟨_, ((((za l0 t319).f0) == 13)), eq0, H', ⟨by have := HK1.out; omega⟩, ⟨Kd.rx HO_3.out⟩, ⟨by (with_reducible skip); exact BK317.out⟩, ⟨bsq⟩⟩
         ·rw [if_neg c24] at H
          have c24b0 := beq_eq_false_iff_ne.mpr c24
          have c24b1 := bne_iff_ne.mpr c24
          have H' := zb.mk H
          clear H
          go_wp2
          go_meet
          case rel => exact ⟨_, ((((za l0 t319).f0) == 12)), eq0, H', ⟨by have := HK1.out; omega⟩, ⟨Kd.rx HO_3.out⟩, ⟨by (with_reducible skip); exact BK317.out⟩, ⟨bsq⟩⟩
      case rest =>
       clear HC15
       (try clear c4b0); (try clear c5b0); (try clear c6b0); (try clear c11b0); (try clear p12); (try clear q12); (try clear c13b0); (try clear c14b0); (try clear hcz17_0); (try clear hcz17_1); (try clear hcz17_2); (try clear hcz17_3); (try clear hcz17_4); (try clear hcz17_5); (try clear hcz17_6); (try clear hcz17_7); (try clear hcz17_8); (try clear hcz19_0); (try clear hcz19_1); (try clear hcz19_2); (try clear hcz19_3); (try clear hcz19_4); (try clear hcz19_5); (try clear hcz19_6); (try clear hcz19_7); (try clear hcz19_8); (try clear hfz17_0); (try clear hfz17_1); (try clear hfz17_2); (try clear hfz17_3); (try clear hfz17_4); (try clear hfz17_5); (try clear hfz17_6); (try clear hfz17_7); (try clear hfz17_8); (try clear hfz19_0); (try clear hfz19_1); (try clear hfz19_2); (try clear hfz19_3); (try clear hfz19_4); (try clear hfz19_5); (try clear hfz19_6); (try clear hfz19_7); (try clear hfz19_8); (try clear hx12_0); (try clear hx12_1); (try clear hx12_2); (try clear hx12_3); (try clear hx12_4); (try clear hx12_5); (try clear hx12_6); (try clear hx12_7); (try clear hx12_8); (try clear hx20_1); (try clear hx316_0); (try clear hx316_1); (try clear hx316_2); (try clear hx316_3); (try clear hx316_4); (try clear hx316_5); (try clear hx316_6); (try clear hx316_7); (try clear hx316_8); (try clear hx322_0); (try clear hx322_1); (try clear hx322_2); (try clear hx322_3); (try clear hx322_4); (try clear hx322_5); (try clear hx322_6); (try clear hx322_7); (try clear hx322_8); (try clear p316); (try clear p322); (try clear q316); (try clear q322)
       obtain ⟨kq, x41_14, rfl, HA, HJ14, HO_3, BK317, HB⟩ := hcut
       have hl3_14 := (Kd.zf HO_3.out).1
       rw [hl3_14] at HO_3
       (try simp only [hl3_14])
       cases kq with
       | zero => exact absurd HA.out (by simp [zY.j1])
       | succ kj14 =>
        have H := HA.out
        clear HA
        simp only [zY.j1] at H
        by_cases c25 : x41_14 = true
        ·subst c25
         replace H := ifT H
         by_cases c26 : ((za l0 x12_1).f0) = 14
         ·rw [if_pos c26] at H
          have c26b0 := beq_iff_eq.mpr c26
          have c26b1 := bne_eq_false_iff_eq.mpr c26
          clear c26
          replace H := qh H; obtain ⟨c27, H⟩ := H
          have c27b0 := decide_eq_true c27
          clear c27
          replace H := qh H; obtain ⟨c28, H⟩ := H
          have c28b0 := decide_eq_true c28
          clear c28
          replace H := qh H; obtain ⟨c29, H⟩ := H
          have c29b0 := decide_eq_true c29
          clear c29
          replace H := qh H; obtain ⟨c30, H⟩ := H
          have c30b0 := decide_eq_true c30
          clear c30
          obtain ⟨y324, hy324⟩ : ∃ y_ : List (S34), y_ = (y321.set (x12_1 : Int).toNat (⟨(za l0 t319).f0, (za l0 t319).f1, (za l0 t319).f2, (za l0 t319).f3, (za l0 t319).f4, (⟨(za l0 t319).f5.f0, (za l0 t319).f5.f1, (za l0 t319).f5.f2, (za l0 t319).f5.f3⟩ : S32)⟩ : S34)) := ⟨_, rfl⟩
          replace H : (zY.l0 kj14 l0 y324 l0 (l0.length : Int) (wrap64 (x12_1 + 1))) = some r := by (rw [hy324]; with_reducible exact H)
          have Ny324 := zb.mk hy324
          clear hy324
          have H' := zb.mk H
          clear H
          obtain ⟨hcz32_0, hcz32_1, hcz32_2, hcz32_3, hcz32_4, hcz32_5, hcz32_6, hcz32_7, hcz32_8⟩ := zS BK317.out
          obtain ⟨hfz32_0, hfz32_1, hfz32_2, hfz32_3, hfz32_4, hfz32_5, hfz32_6, hfz32_7, hfz32_8⟩ := zR BK317.out
          have p323 : 0 ≤ (t319 : Int) := dq
          have q323 : t319 < (l0.length : Int) := dq
          obtain ⟨ad323, e323, hx323_0, hx323_1, hx323_2, hx323_3, hx323_4, hx323_5, hx323_6, hx323_7, hx323_8⟩ := zU HR0.out t319 p323 q323
          obtain rfl : ad316 = ad323 := (by injection e323)
          replace hx323_0 := cb HB.out hx323_0
          replace hx323_1 := cb HB.out hx323_1
          replace hx323_2 := cb HB.out hx323_2
          replace hx323_3 := cb HB.out hx323_3
          replace hx323_4 := cb HB.out hx323_4
          replace hx323_5 := cb HB.out hx323_5
          replace hx323_6 := cb HB.out hx323_6
          replace hx323_7 := cb HB.out hx323_7
          replace hx323_8 := cb HB.out hx323_8
          replace p323 := eq_true p323
          replace q323 := eq_true q323
          have p31 : 0 ≤ (x12_1 : Int) := dq
          have q31 : (x12_1 : Int) < ((y321.length : Int) : Int) := dq
          obtain ⟨ce31, hcl31, hM31, hcc31, hfr31⟩ := Kd.xA HO_3.out z34 (x12_1 : Int) p31 q31
          obtain rfl := qG hM31
          have hx31_0 : wc.cell? ⟨go12, (x12_1 : Int).toNat * 9, none⟩ = some (.int .i64 ((za y321 x12_1).f0)) := hcc31 0 _ rfl
          have hx31_1 : wc.cell? ⟨go12, (x12_1 : Int).toNat * 9 + 1, none⟩ = some (.int .i64 ((za y321 x12_1).f1)) := hcc31 1 _ rfl
          have hx31_2 : wc.cell? ⟨go12, (x12_1 : Int).toNat * 9 + 2, none⟩ = some (.int .i64 ((za y321 x12_1).f2)) := hcc31 2 _ rfl
          have hx31_3 : wc.cell? ⟨go12, (x12_1 : Int).toNat * 9 + 3, none⟩ = some (.int .i64 ((za y321 x12_1).f3)) := hcc31 3 _ rfl
          have hx31_4 : wc.cell? ⟨go12, (x12_1 : Int).toNat * 9 + 4, none⟩ = some (.string ((za y321 x12_1).f4)) := hcc31 4 _ rfl
          have hx31_5 : wc.cell? ⟨go12, (x12_1 : Int).toNat * 9 + 5, none⟩ = some (.int .u64 ((za y321 x12_1).f5.f0)) := hcc31 5 _ rfl
          have hx31_6 : wc.cell? ⟨go12, (x12_1 : Int).toNat * 9 + 6, none⟩ = some (.int .u64 ((za y321 x12_1).f5.f1)) := hcc31 6 _ rfl
          have hx31_7 : wc.cell? ⟨go12, (x12_1 : Int).toNat * 9 + 7, none⟩ = some (.int .u64 ((za y321 x12_1).f5.f2)) := hcc31 7 _ rfl
          have hx31_8 : wc.cell? ⟨go12, (x12_1 : Int).toNat * 9 + 8, none⟩ = some (.int .u64 ((za y321 x12_1).f5.f3)) := hcc31 8 _ rfl
          have hf31_0 : wc.frozen? ⟨go12, (x12_1 : Int).toNat * 9, none⟩ = false := hfr31 0
          have hf31_1 : wc.frozen? ⟨go12, (x12_1 : Int).toNat * 9 + 1, none⟩ = false := hfr31 1
          have hf31_2 : wc.frozen? ⟨go12, (x12_1 : Int).toNat * 9 + 2, none⟩ = false := hfr31 2
          have hf31_3 : wc.frozen? ⟨go12, (x12_1 : Int).toNat * 9 + 3, none⟩ = false := hfr31 3
          have hf31_4 : wc.frozen? ⟨go12, (x12_1 : Int).toNat * 9 + 4, none⟩ = false := hfr31 4
          have hf31_5 : wc.frozen? ⟨go12, (x12_1 : Int).toNat * 9 + 5, none⟩ = false := hfr31 5
          have hf31_6 : wc.frozen? ⟨go12, (x12_1 : Int).toNat * 9 + 6, none⟩ = false := hfr31 6
          have hf31_7 : wc.frozen? ⟨go12, (x12_1 : Int).toNat * 9 + 7, none⟩ = false := hfr31 7
          have hf31_8 : wc.frozen? ⟨go12, (x12_1 : Int).toNat * 9 + 8, none⟩ = false := hfr31 8
          clear hcl31 hcc31 hfr31 hM31
          replace p31 := eq_true p31
          replace q31 := eq_true q31
          have HX33 := zb.mk (show Kd.R k34 34 wc w.heap.size (fun k_ => k_ ≠ gb317) (.slice (some ⟨go12, 0, none⟩) y321.length co12) y321 from (Kd.rx HO_3.out))
          obtain ⟨ce33, hcl33, hM33, hcc33, hfr33⟩ := Kd.xA HX33.out z34 (x12_1 : Int) (dq) (by have h_ : (x12_1 : Int) < ((y321.length : Int) : Int) := dq; exact h_)
          obtain rfl := qG hM33
          have HP33 := Kd.R_seg HX33.out (x12_1 : Int) (dq) (by have h_ : (x12_1 : Int) < ((y321.length : Int) : Int) := dq; exact h_) (seg := [.int .i64 ((za l0 t319).f0), .int .i64 ((za l0 t319).f1), .int .i64 ((za l0 t319).f2), .int .i64 ((za l0 t319).f3), .string ((za l0 t319).f4), .int .u64 ((za l0 t319).f5.f0), .int .u64 ((za l0 t319).f5.f1), .int .u64 ((za l0 t319).f5.f2), .int .u64 ((za l0 t319).f5.f3)]) (j := 0) hcl33 hcc33 (show 9 ≤ 9 from by decide) (x' := (⟨(za l0 t319).f0, (za l0 t319).f1, (za l0 t319).f2, (za l0 t319).f3, (za l0 t319).f4, (⟨(za l0 t319).f5.f0, (za l0 t319).f5.f1, (za l0 t319).f5.f2, (za l0 t319).f5.f3⟩ : S32)⟩ : S34)) (xq _ _ _ (⟨(za l0 t319).f0, (za l0 t319).f1, (za l0 t319).f2, (za l0 t319).f3, (za l0 t319).f4, (⟨(za l0 t319).f5.f0, (za l0 t319).f5.f1, (za l0 t319).f5.f2, (za l0 t319).f5.f3⟩ : S32)⟩ : S34) ) (fun _ hk => hk)
          have hx33_0 := hcc33 0 _ rfl
          (try simp only [show (k34).sz = 9 from rfl, Nat.mul_one, Nat.add_zero] at hx33_0)
          have hf33_0 := hfr33 0
          (try simp only [show (k34).sz = 9 from rfl, Nat.mul_one, Nat.add_zero] at hf33_0)
          have hx33_1 := hcc33 1 _ rfl
          (try simp only [show (k34).sz = 9 from rfl, Nat.mul_one, Nat.add_zero] at hx33_1)
          have hf33_1 := hfr33 1
          (try simp only [show (k34).sz = 9 from rfl, Nat.mul_one, Nat.add_zero] at hf33_1)
          have hx33_2 := hcc33 2 _ rfl
          (try simp only [show (k34).sz = 9 from rfl, Nat.mul_one, Nat.add_zero] at hx33_2)
          have hf33_2 := hfr33 2
          (try simp only [show (k34).sz = 9 from rfl, Nat.mul_one, Nat.add_zero] at hf33_2)
          have hx33_3 := hcc33 3 _ rfl
          (try simp only [show (k34).sz = 9 from rfl, Nat.mul_one, Nat.add_zero] at hx33_3)
          have hf33_3 := hfr33 3
          (try simp only [show (k34).sz = 9 from rfl, Nat.mul_one, Nat.add_zero] at hf33_3)
          have hx33_4 := hcc33 4 _ rfl
          (try simp only [show (k34).sz = 9 from rfl, Nat.mul_one, Nat.add_zero] at hx33_4)
          have hf33_4 := hfr33 4
          (try simp only [show (k34).sz = 9 from rfl, Nat.mul_one, Nat.add_zero] at hf33_4)
          have hx33_5 := hcc33 5 _ rfl
          (try simp only [show (k34).sz = 9 from rfl, Nat.mul_one, Nat.add_zero] at hx33_5)
          have hf33_5 := hfr33 5
          (try simp only [show (k34).sz = 9 from rfl, Nat.mul_one, Nat.add_zero] at hf33_5)
          have hx33_6 := hcc33 6 _ rfl
          (try simp only [show (k34).sz = 9 from rfl, Nat.mul_one, Nat.add_zero] at hx33_6)
          have hf33_6 := hfr33 6
          (try simp only [show (k34).sz = 9 from rfl, Nat.mul_one, Nat.add_zero] at hf33_6)
          have hx33_7 := hcc33 7 _ rfl
          (try simp only [show (k34).sz = 9 from rfl, Nat.mul_one, Nat.add_zero] at hx33_7)
          have hf33_7 := hfr33 7
          (try simp only [show (k34).sz = 9 from rfl, Nat.mul_one, Nat.add_zero] at hf33_7)
          have hx33_8 := hcc33 8 _ rfl
          (try simp only [show (k34).sz = 9 from rfl, Nat.mul_one, Nat.add_zero] at hx33_8)
          have hf33_8 := hfr33 8
          (try simp only [show (k34).sz = 9 from rfl, Nat.mul_one, Nat.add_zero] at hf33_8)
          clear hcl33 hcc33 hfr33 hM33
          go_wp2_with (((with_reducible refine zM (t := 34) (p := 55) rfl ?_); refine zB (t := 34) (p := 55) (v := ?vo_w34) (w1 := (((((((((wc.setCell ⟨go12, (x12_1 : Int).toNat * 9, none⟩ (.int .i64 ((za l0 t319).f0))).setCell ⟨go12, (x12_1 : Int).toNat * 9 + 1, none⟩ (.int .i64 ((za l0 t319).f1))).setCell ⟨go12, (x12_1 : Int).toNat * 9 + 2, none⟩ (.int .i64 ((za l0 t319).f2))).setCell ⟨go12, (x12_1 : Int).toNat * 9 + 3, none⟩ (.int .i64 ((za l0 t319).f3))).setCell ⟨go12, (x12_1 : Int).toNat * 9 + 4, none⟩ (.string ((za l0 t319).f4))).setCell ⟨go12, (x12_1 : Int).toNat * 9 + 5, none⟩ (.int .u64 ((za l0 t319).f5.f0))).setCell ⟨go12, (x12_1 : Int).toNat * 9 + 6, none⟩ (.int .u64 ((za l0 t319).f5.f1))).setCell ⟨go12, (x12_1 : Int).toNat * 9 + 7, none⟩ (.int .u64 ((za l0 t319).f5.f2))).setCell ⟨go12, (x12_1 : Int).toNat * 9 + 8, none⟩ (.int .u64 ((za l0 t319).f5.f3)))) ?hg ?ho ?hn ?hr ?_; (case ho => rfl); (case hg => rfl); (case hn => rfl); (case hr => (go_simp; done)); intro w34 hw; have hg : wc.grownBy w34 (some go12) := (by rw [hw]; exact HP33.2); have hp_ : Kd.R k34 34 w34 w.heap.size (fun k_ => k_ ≠ gb317) (.slice (some ⟨go12, 0, none⟩) y321.length co12) y324 := (by rw [hw, Ny324.out]; exact HP33.1); clear HP33; replace BK317 := zb.mk (xc (g := gb317) (o := .cells #[.int .i64 ((za l0 x12_1).f0), .int .i64 ((za l0 x12_1).f1), .int .i64 ((za l0 x12_1).f2), .int .i64 ((za l0 x12_1).f3), .string ((za l0 x12_1).f4), .int .u64 ((za l0 x12_1).f5.f0), .int .u64 ((za l0 x12_1).f5.f1), .int .u64 ((za l0 x12_1).f5.f2), .int .u64 ((za l0 x12_1).f5.f3)] 34 (0, 0)) (bx BK317.out) hg (Kd.R_away HO_3.out (fun _ hk => hk))); replace HO_3 := zb.mk (hp_); replace HB := zb.mk ((by rw [hw]; exact zz (zz (zz (zz (zz (zz (zz (zz (zz (HB.out) GB12.out) GB12.out) GB12.out) GB12.out) GB12.out) GB12.out) GB12.out) GB12.out) GB12.out : Below w.heap.size w w34)); clear hg hw hp_))
          (try simp only [← hl3_14])
          go_roundg kj14
          case measure => have := HK1.out; have := HJ14.out; omega
          case rel => exact ⟨(y324), (wrap64 (x12_1 + 1)), eq0, H', ⟨by have := HK1.out; have := HJ14.out; omega⟩, ⟨by (try simp only [hl3_14]); (with_reducible skip); exact Kd.zH HO_3.out (fun _ hk => trivial)⟩, ⟨bsq⟩⟩
         ·rw [if_neg c26] at H
          have c26b0 := beq_eq_false_iff_ne.mpr c26
          have c26b1 := bne_iff_ne.mpr c26
          have H' := zb.mk H
          clear H
          obtain ⟨hcz35_0, hcz35_1, hcz35_2, hcz35_3, hcz35_4, hcz35_5, hcz35_6, hcz35_7, hcz35_8⟩ := zS BK317.out
          obtain ⟨hfz35_0, hfz35_1, hfz35_2, hfz35_3, hfz35_4, hfz35_5, hfz35_6, hfz35_7, hfz35_8⟩ := zR BK317.out
          go_wp2
          (try simp only [← hl3_14])
          go_roundg kj14
          case measure => have := HK1.out; have := HJ14.out; omega
          case rel => exact ⟨(y321), (wrap64 (x12_1 + 1)), eq0, H', ⟨by have := HK1.out; have := HJ14.out; omega⟩, ⟨by (try simp only [hl3_14]); (with_reducible skip); exact Kd.zH HO_3.out (fun _ hk => trivial)⟩, ⟨bsq⟩⟩
        ·replace c25 := Bool.eq_false_iff.mpr c25
         subst c25
         replace H := ifF H
         have H' := zb.mk H
         clear H
         go_wp2
         (try simp only [← hl3_14])
         go_roundg kj14
         case measure => have := HK1.out; have := HJ14.out; omega
         case rel => exact ⟨(y321), (wrap64 (x12_1 + 1)), eq0, H', ⟨by have := HK1.out; have := HJ14.out; omega⟩, ⟨by (try simp only [hl3_14]); (with_reducible skip); exact Kd.zH HO_3.out (fun _ hk => trivial)⟩, ⟨bsq⟩⟩
     ·replace c10 := Bool.eq_false_iff.mpr c10
      subst c10
      replace H := ifF H
      have H' := zb.mk H
      clear H
      have p316 : 0 ≤ (x12_1 : Int) := dq
      have q316 : x12_1 < (l0.length : Int) := dq
      obtain ⟨ad316, e316, hx316_0, hx316_1, hx316_2, hx316_3, hx316_4, hx316_5, hx316_6, hx316_7, hx316_8⟩ := zU HR0.out x12_1 p316 q316
      cases e316
      replace hx316_0 := cb HB.out hx316_0
      replace hx316_1 := cb HB.out hx316_1
      replace hx316_2 := cb HB.out hx316_2
      replace hx316_3 := cb HB.out hx316_3
      replace hx316_4 := cb HB.out hx316_4
      replace hx316_5 := cb HB.out hx316_5
      replace hx316_6 := cb HB.out hx316_6
      replace hx316_7 := cb HB.out hx316_7
      replace hx316_8 := cb HB.out hx316_8
      replace p316 := eq_true p316
      replace q316 := eq_true q316
      go_wp2_with (first | ((with_reducible refine z3 (N := 5) rfl ?_); refine qk ?hg (N := 5) ?hd (cs := #[.int .i64 0, .int .i64 0, .int .i64 0, .int .i64 0, .string (⟨#[]⟩ : ByteArray), .int .u64 0, .int .u64 0, .int .u64 0, .int .u64 0]) (t := 34) ?hr ?_; (case hd => rfl); (case hg => rfl); (case hr => (go_simp; done)); intro gb317 hg w36 hbox hb; replace HO_3 := zb.mk (Kd.xk (Kd.xT (Kd.rx HO_3.out) gb317 (Nat.le_of_eq hg.symm)) hb); have BK317 := zb.mk (hbox); have GW317 := zb.mk ((by rw [hg]; exact (zj (bl HB.out)) : w.heap.size ≤ gb317)); have GE317 := zb.mk ((by rw [hg]; exact (zj (bl HB.out)) : w.heap.size ≤ gb317)); replace HB := bst HB hb; clear hb hbox hg; obtain ⟨hcz37_0, hcz37_1, hcz37_2, hcz37_3, hcz37_4, hcz37_5, hcz37_6, hcz37_7, hcz37_8⟩ := zS BK317.out; obtain ⟨hfz37_0, hfz37_1, hfz37_2, hfz37_3, hfz37_4, hfz37_5, hfz37_6, hfz37_7, hfz37_8⟩ := zR BK317.out) | ((with_reducible refine zM (t := 34) (p := 5) rfl ?_); refine zB (t := 34) (p := 5) (v := ?vo_w38) (w1 := (xr w36 gb317 #[.int .i64 ((za l0 x12_1).f0), .int .i64 ((za l0 x12_1).f1), .int .i64 ((za l0 x12_1).f2), .int .i64 ((za l0 x12_1).f3), .string ((za l0 x12_1).f4), .int .u64 ((za l0 x12_1).f5.f0), .int .u64 ((za l0 x12_1).f5.f1), .int .u64 ((za l0 x12_1).f5.f2), .int .u64 ((za l0 x12_1).f5.f3)])) ?hg ?ho ?hn ?hr ?_; (case ho => rfl); (case hg => rfl); (case hn => rfl); (case hr => (go_simp; rfl)); intro w38 hw; replace HO_3 : zb (Kd.R k34 34 w38 w.heap.size (fun k_ => k_ ≠ gb317) v314 x3_1) := ⟨(by rw [hw]; exact (Kd.rx (Kd.zH (Kd.jc (g := gb317) (Kd.zH HO_3.out (fun k_ hk => (⟨hk, hk.2⟩ : _ ∧ k_ ≠ gb317))) (fun _ hk => hk.2) #[.int .i64 ((za l0 x12_1).f0), .int .i64 ((za l0 x12_1).f1), .int .i64 ((za l0 x12_1).f2), .int .i64 ((za l0 x12_1).f3), .string ((za l0 x12_1).f4), .int .u64 ((za l0 x12_1).f5.f0), .int .u64 ((za l0 x12_1).f5.f1), .int .u64 ((za l0 x12_1).f5.f2), .int .u64 ((za l0 x12_1).f5.f3)]) (fun _ hk => hk.1.2))))⟩; replace BK317 : zb (w38.heap[gb317]? = some (.cells #[.int .i64 ((za l0 x12_1).f0), .int .i64 ((za l0 x12_1).f1), .int .i64 ((za l0 x12_1).f2), .int .i64 ((za l0 x12_1).f3), .string ((za l0 x12_1).f4), .int .u64 ((za l0 x12_1).f5.f0), .int .u64 ((za l0 x12_1).f5.f1), .int .u64 ((za l0 x12_1).f5.f2), .int .u64 ((za l0 x12_1).f5.f3)] 34 (0, 0))) := ⟨(by rw [hw]; exact (by (with_reducible skip); refine xd (cs := #[.int .i64 0, .int .i64 0, .int .i64 0, .int .i64 0, .string (⟨#[]⟩ : ByteArray), .int .u64 0, .int .u64 0, .int .u64 0, .int .u64 0]) ?_ _ rfl; (with_reducible skip); exact BK317.out))⟩; replace HB : zb (Below w.heap.size w w38) := ⟨(by rw [hw]; exact bsq)⟩; clear hw; obtain ⟨hcz39_0, hcz39_1, hcz39_2, hcz39_3, hcz39_4, hcz39_5, hcz39_6, hcz39_7, hcz39_8⟩ := zS BK317.out; obtain ⟨hfz39_0, hfz39_1, hfz39_2, hfz39_3, hfz39_4, hfz39_5, hfz39_6, hfz39_7, hfz39_8⟩ := zR BK317.out) | ((with_reducible refine zc (f := 46) rfl ?_); refine zh (some 19) rfl rfl Tryd.func46 (by kernel_rfl) rfl #[.int .i64 ((za l0 x12_1).f0)] rfl hq ?_; (with_reducible refine (jk.calls ((za l0 x12_1).f0) true _ ?side1 A7.out).mono ?_); (case side1 => exact GW.below HG.out bsq); rintro e w' ⟨rfl, ⟨nd, rfl⟩⟩; refine ⟨_, rfl, ?_⟩) | ((with_reducible refine zc (f := 47) rfl ?_); refine zh (some 24) rfl rfl Tryd.func47 (by kernel_rfl) rfl #[.slice (some ad316) l0.length c0, .int .i64 x12_1] rfl hq ?_; (with_reducible refine (xz.calls k1 _ _ l0 x12_1 t319 false _ ?side3 ?side1 ?side2 A9.out).mono ?_); (case side1 => repeat (exact (Kd.zF HR0.out bsq))); (case side2 => exact HC0.out); (case side3 => exact GW.below HG.out bsq); rintro e w' ⟨rfl, ⟨nd, rfl⟩⟩; refine ⟨_, rfl, ?_⟩))
      go_roundg k1
      case measure => have := HK1.out; omega
      case rel => exact ⟨(x3_1), (wrap64 (x12_1 + 1)), eq0, H', ⟨by have := HK1.out; omega⟩, ⟨Kd.rx (Kd.zH HO_3.out (fun _ hk => trivial))⟩, ⟨bsq⟩⟩
    ·replace c8 := Bool.eq_false_iff.mpr c8
     subst c8
     replace H := ifF H
     have H' := zb.mk H
     clear H
     have p316 : 0 ≤ (x12_1 : Int) := dq
     have q316 : x12_1 < (l0.length : Int) := dq
     obtain ⟨ad316, e316, hx316_0, hx316_1, hx316_2, hx316_3, hx316_4, hx316_5, hx316_6, hx316_7, hx316_8⟩ := zU HR0.out x12_1 p316 q316
     cases e316
     replace hx316_0 := cb HB.out hx316_0
     replace hx316_1 := cb HB.out hx316_1
     replace hx316_2 := cb HB.out hx316_2
     replace hx316_3 := cb HB.out hx316_3
     replace hx316_4 := cb HB.out hx316_4
     replace hx316_5 := cb HB.out hx316_5
     replace hx316_6 := cb HB.out hx316_6
     replace hx316_7 := cb HB.out hx316_7
     replace hx316_8 := cb HB.out hx316_8
     replace p316 := eq_true p316
     replace q316 := eq_true q316
     go_wp2_with (first | ((with_reducible refine z3 (N := 5) rfl ?_); refine qk ?hg (N := 5) ?hd (cs := #[.int .i64 0, .int .i64 0, .int .i64 0, .int .i64 0, .string (⟨#[]⟩ : ByteArray), .int .u64 0, .int .u64 0, .int .u64 0, .int .u64 0]) (t := 34) ?hr ?_; (case hd => rfl); (case hg => rfl); (case hr => (go_simp; done)); intro gb317 hg w40 hbox hb; replace HO_3 := zb.mk (Kd.xk (Kd.xT (Kd.rx HO_3.out) gb317 (Nat.le_of_eq hg.symm)) hb); have BK317 := zb.mk (hbox); have GW317 := zb.mk ((by rw [hg]; exact (zj (bl HB.out)) : w.heap.size ≤ gb317)); have GE317 := zb.mk ((by rw [hg]; exact (zj (bl HB.out)) : w.heap.size ≤ gb317)); replace HB := bst HB hb; clear hb hbox hg; obtain ⟨hcz41_0, hcz41_1, hcz41_2, hcz41_3, hcz41_4, hcz41_5, hcz41_6, hcz41_7, hcz41_8⟩ := zS BK317.out; obtain ⟨hfz41_0, hfz41_1, hfz41_2, hfz41_3, hfz41_4, hfz41_5, hfz41_6, hfz41_7, hfz41_8⟩ := zR BK317.out) | ((with_reducible refine zM (t := 34) (p := 5) rfl ?_); refine zB (t := 34) (p := 5) (v := ?vo_w42) (w1 := (xr w40 gb317 #[.int .i64 ((za l0 x12_1).f0), .int .i64 ((za l0 x12_1).f1), .int .i64 ((za l0 x12_1).f2), .int .i64 ((za l0 x12_1).f3), .string ((za l0 x12_1).f4), .int .u64 ((za l0 x12_1).f5.f0), .int .u64 ((za l0 x12_1).f5.f1), .int .u64 ((za l0 x12_1).f5.f2), .int .u64 ((za l0 x12_1).f5.f3)])) ?hg ?ho ?hn ?hr ?_; (case ho => rfl); (case hg => rfl); (case hn => rfl); (case hr => (go_simp; rfl)); intro w42 hw; replace HO_3 : zb (Kd.R k34 34 w42 w.heap.size (fun k_ => k_ ≠ gb317) v314 x3_1) := ⟨(by rw [hw]; exact (Kd.rx (Kd.zH (Kd.jc (g := gb317) (Kd.zH HO_3.out (fun k_ hk => (⟨hk, hk.2⟩ : _ ∧ k_ ≠ gb317))) (fun _ hk => hk.2) #[.int .i64 ((za l0 x12_1).f0), .int .i64 ((za l0 x12_1).f1), .int .i64 ((za l0 x12_1).f2), .int .i64 ((za l0 x12_1).f3), .string ((za l0 x12_1).f4), .int .u64 ((za l0 x12_1).f5.f0), .int .u64 ((za l0 x12_1).f5.f1), .int .u64 ((za l0 x12_1).f5.f2), .int .u64 ((za l0 x12_1).f5.f3)]) (fun _ hk => hk.1.2))))⟩; replace BK317 : zb (w42.heap[gb317]? = some (.cells #[.int .i64 ((za l0 x12_1).f0), .int .i64 ((za l0 x12_1).f1), .int .i64 ((za l0 x12_1).f2), .int .i64 ((za l0 x12_1).f3), .string ((za l0 x12_1).f4), .int .u64 ((za l0 x12_1).f5.f0), .int .u64 ((za l0 x12_1).f5.f1), .int .u64 ((za l0 x12_1).f5.f2), .int .u64 ((za l0 x12_1).f5.f3)] 34 (0, 0))) := ⟨(by rw [hw]; exact (by (with_reducible skip); refine xd (cs := #[.int .i64 0, .int .i64 0, .int .i64 0, .int .i64 0, .string (⟨#[]⟩ : ByteArray), .int .u64 0, .int .u64 0, .int .u64 0, .int .u64 0]) ?_ _ rfl; (with_reducible skip); exact BK317.out))⟩; replace HB : zb (Below w.heap.size w w42) := ⟨(by rw [hw]; exact bsq)⟩; clear hw; obtain ⟨hcz43_0, hcz43_1, hcz43_2, hcz43_3, hcz43_4, hcz43_5, hcz43_6, hcz43_7, hcz43_8⟩ := zS BK317.out; obtain ⟨hfz43_0, hfz43_1, hfz43_2, hfz43_3, hfz43_4, hfz43_5, hfz43_6, hfz43_7, hfz43_8⟩ := zR BK317.out) | ((with_reducible refine zc (f := 46) rfl ?_); refine zh (some 19) rfl rfl Tryd.func46 (by kernel_rfl) rfl #[.int .i64 ((za l0 x12_1).f0)] rfl hq ?_; (with_reducible refine (jk.calls ((za l0 x12_1).f0) false _ ?side1 A7.out).mono ?_); (case side1 => exact GW.below HG.out bsq); rintro e w' ⟨rfl, ⟨nd, rfl⟩⟩; refine ⟨_, rfl, ?_⟩))
     go_roundg k1
     case measure => have := HK1.out; omega
     case rel => exact ⟨(x3_1), (wrap64 (x12_1 + 1)), eq0, H', ⟨by have := HK1.out; omega⟩, ⟨Kd.rx (Kd.zH HO_3.out (fun _ hk => trivial))⟩, ⟨bsq⟩⟩
   ·rw [if_neg c4] at H
    have c4b0 := decide_eq_false c4
    clear c4
    obtain rfl := Option.some.inj H
    go_wp2
    go_ret
    exact ⟨_, eq1, Kd.rx HO_3.out, bl HB.out⟩
def qR.l0 : Nat → List (S34) → List Bool → List (S34) → Int → Int → Option ((List (S34)))
 | 0, _, _, _, _, _ => none
 | k + 1, x0, x3, x9, x10, x11 => if x11 < x10 then (if 0 ≤ x11 then (if x11 < (x9.length : Int) then (if ((za x9 x11).f0) = 14 then (if x11 < (x3.length : Int) then (qR.l0 k x0 (x3.set (x11 : Int).toNat (((za x9 x11).f1) == 1)) x9 x10 (wrap64 (x11 + 1))) else (none)) else (if x11 < (x3.length : Int) then (qR.l0 k x0 (x3.set (x11 : Int).toNat false) x9 x10 (wrap64 (x11 + 1))) else (none))) else (none)) else (none)) else ((zP.f k x0 x3).bind fun t332 => (some t332))
def qR.f (k : Nat) (l0 : List (S34)) : Option ((List (S34))) := if 0 ≤ (l0.length : Int) then (if ((l0.length : Int) : Int).toNat ≤ 281474976710656 then (qR.l0 k l0 (List.replicate ((l0.length : Int) : Int).toNat false) l0 (l0.length : Int) 0) else (none)) else (none)
theorem qR.calls (k : Nat) (A0 : Option Addr) (c0 : Nat) (l0 r : List (S34)) (w : World) (hG : GW w) (hr0 : Kd.C k34 w A0 l0.length l0) (hc0 : l0.length ≤ c0) (h : qR.f k l0 = some r) :
  Calls Tryd.prog 28 #[.slice A0 l0.length c0] w fun e w' => ∃ v0_ : Value, e = .returned (v0_) ∧ Kd.R k34 34 w' w.heap.size (fun _ => True) v0_ r ∧ Below w.heap.size w w' := by
 have hu34 := Tryd.underlying34
 have HR0 := zb.mk hr0
 have HC0 := zb.mk hc0
 clear hr0 hc0
 have HG := zb.mk hG
 clear hG
 have HB := zb.mk (Below.refl w.heap.size w)
 have H : (if 0 ≤ (l0.length : Int) then (if ((l0.length : Int) : Int).toNat ≤ 281474976710656 then (qR.l0 k l0 (List.replicate ((l0.length : Int) : Int).toNat false) l0 (l0.length : Int) 0) else (none)) else (none)) = some r := h
 clear h
 by_cases c2 : 0 ≤ (l0.length : Int)
 ·rw [if_pos c2] at H
  have c2b0 := eq_true c2
  have c2b1 := decide_eq_true c2
  clear c2
  replace H := qh H; obtain ⟨c3, H⟩ := H
  have c3b0 := eq_true c3
  have c3b1 := decide_eq_true c3
  clear c3
  obtain ⟨y325, hy325⟩ : ∃ y_ : List Bool, y_ = (List.replicate ((l0.length : Int) : Int).toNat false) := ⟨_, rfl⟩
  replace H : (qR.l0 k l0 y325 l0 (l0.length : Int) 0) = some r := by (rw [hy325]; with_reducible exact H)
  have Ny325 := zb.mk hy325
  clear hy325
  have H' := zb.mk H
  clear H
  go_enter Tryd.func28, Tryd.ntmps28
  go_wp2_with (((with_reducible refine z3 (N := 8) rfl ?_); refine Kd.R_make Kd.bool _ 4 rfl (N := 8) rfl 27 _ _ rfl (l0.length : Int) rfl rfl Tryd.underlying27 (.bool false) 1 info4 rfl (by decide) (by omega) false (ok := fun _ => True) (okp := fun _ => True) rfl (fun _ hk => hk) trivial (dq) (Nat.le_trans (Nat.mul_le_mul_right _ (dq : (l0.length : Int).toNat ≤ 281474976710656)) (by omega)) (Below.refl _ _) (Nat.le_refl _) ?_; intro v326 w4 ho5 hb hg_ hnew_; clear hg_ hnew_; (rw [← Ny325.out] at ho5); have HO327 := zb.mk (Kd.rlo ho5 HB); replace HB := bst HB hb; clear hb ho5))
  go_loopg [11] k (fun kq v11 w' => ∃ (x3_1 : List Bool) (x11_1 : Int), v11 = .int .i64 x11_1 ∧ zb (qR.l0 kq l0 x3_1 l0 (l0.length : Int) x11_1 = some r) ∧ zb (kq ≤ k) ∧ zb (Kd.R Kd.bool 4 w' w.heap.size (fun _ => True) v326 x3_1) ∧ zb (Below w.heap.size w w'))
  case atStart => exact ⟨(y325), (0), eq0, H', ⟨Nat.le_refl _⟩, ⟨Kd.rx HO327.out⟩, ⟨bl HB.out⟩⟩
  case round =>
   clear H'
   (try clear c2b0); (try clear c2b1); (try clear c3b0); (try clear c3b1)
   obtain ⟨x3_1, x11_1, rfl, HA, HK1, HO_3, HB⟩ := hrel
   cases gk with
   | zero => exact absurd HA.out (by simp [qR.l0])
   | succ k1 =>
    have H := HA.out
    clear HA
    simp only [qR.l0] at H
    by_cases c6 : x11_1 < (l0.length : Int)
    ·rw [if_pos c6] at H
     have c6b0 := decide_eq_true c6
     clear c6
     replace H := qh H; obtain ⟨c7, H⟩ := H
     have c7b0 := decide_eq_true c7
     clear c7
     replace H := qh H; obtain ⟨c8, H⟩ := H
     have c8b0 := decide_eq_true c8
     clear c8
     by_cases c9 : ((za l0 x11_1).f0) = 14
     ·rw [if_pos c9] at H
      have c9b0 := beq_iff_eq.mpr c9
      have c9b1 := bne_eq_false_iff_eq.mpr c9
      clear c9
      replace H := qh H; obtain ⟨c10, H⟩ := H
      have c10b0 := decide_eq_true c10
      clear c10
      obtain ⟨y330, hy330⟩ : ∃ y_ : List Bool, y_ = (x3_1.set (x11_1 : Int).toNat (((za l0 x11_1).f1) == 1)) := ⟨_, rfl⟩
      replace H : (qR.l0 k1 l0 y330 l0 (l0.length : Int) (wrap64 (x11_1 + 1))) = some r := by (rw [hy330]; with_reducible exact H)
      have Ny330 := zb.mk hy330
      clear hy330
      have H' := zb.mk H
      clear H
      have p328 : 0 ≤ (x11_1 : Int) := dq
      have q328 : x11_1 < (l0.length : Int) := dq
      obtain ⟨ad328, e328, hx328_0, hx328_1, hx328_2, hx328_3, hx328_4, hx328_5, hx328_6, hx328_7, hx328_8⟩ := zU HR0.out x11_1 p328 q328
      cases e328
      replace hx328_0 := cb HB.out hx328_0
      replace hx328_1 := cb HB.out hx328_1
      replace hx328_2 := cb HB.out hx328_2
      replace hx328_3 := cb HB.out hx328_3
      replace hx328_4 := cb HB.out hx328_4
      replace hx328_5 := cb HB.out hx328_5
      replace hx328_6 := cb HB.out hx328_6
      replace hx328_7 := cb HB.out hx328_7
      replace hx328_8 := cb HB.out hx328_8
      replace p328 := eq_true p328
      replace q328 := eq_true q328
      go_wp2_with (first | ((with_reducible refine z3 (N := 5) rfl ?_); refine qk ?hg (N := 5) ?hd (cs := #[.int .i64 0, .int .i64 0, .int .i64 0, .int .i64 0, .string (⟨#[]⟩ : ByteArray), .int .u64 0, .int .u64 0, .int .u64 0, .int .u64 0]) (t := 34) ?hr ?_; (case hd => rfl); (case hg => rfl); (case hr => (go_simp; done)); intro gb329 hg w12 hbox hb; replace HO_3 := Kd.rbl HO_3 hb; have BK329 := zb.mk (hbox); have GW329 := zb.mk ((by rw [hg]; exact (zj (bl HB.out)) : w.heap.size ≤ gb329)); have GE329 := zb.mk ((by rw [hg]; exact (zj (bl HB.out)) : w.heap.size ≤ gb329)); replace HB := bst HB hb; clear hb hbox hg; obtain ⟨hcz13_0, hcz13_1, hcz13_2, hcz13_3, hcz13_4, hcz13_5, hcz13_6, hcz13_7, hcz13_8⟩ := zS BK329.out; obtain ⟨hfz13_0, hfz13_1, hfz13_2, hfz13_3, hfz13_4, hfz13_5, hfz13_6, hfz13_7, hfz13_8⟩ := zR BK329.out) | ((with_reducible refine zM (t := 34) (p := 5) rfl ?_); refine zB (t := 34) (p := 5) (v := ?vo_w14) (w1 := (xr w12 gb329 #[.int .i64 ((za l0 x11_1).f0), .int .i64 ((za l0 x11_1).f1), .int .i64 ((za l0 x11_1).f2), .int .i64 ((za l0 x11_1).f3), .string ((za l0 x11_1).f4), .int .u64 ((za l0 x11_1).f5.f0), .int .u64 ((za l0 x11_1).f5.f1), .int .u64 ((za l0 x11_1).f5.f2), .int .u64 ((za l0 x11_1).f5.f3)])) ?hg ?ho ?hn ?hr ?_; (case ho => rfl); (case hg => rfl); (case hn => rfl); (case hr => (go_simp; rfl)); intro w14 hw; replace HO_3 : zb (Kd.R Kd.bool 4 w14 w.heap.size (fun _ => True) v326 x3_1) := ⟨(by rw [hw]; exact (Kd.rx (Kd.zH (Kd.jc (g := gb329) (Kd.jK HO_3.out BK329.out (by decide)) (fun _ hk => hk.2) #[.int .i64 ((za l0 x11_1).f0), .int .i64 ((za l0 x11_1).f1), .int .i64 ((za l0 x11_1).f2), .int .i64 ((za l0 x11_1).f3), .string ((za l0 x11_1).f4), .int .u64 ((za l0 x11_1).f5.f0), .int .u64 ((za l0 x11_1).f5.f1), .int .u64 ((za l0 x11_1).f5.f2), .int .u64 ((za l0 x11_1).f5.f3)]) (fun _ hk => trivial))))⟩; replace BK329 : zb (w14.heap[gb329]? = some (.cells #[.int .i64 ((za l0 x11_1).f0), .int .i64 ((za l0 x11_1).f1), .int .i64 ((za l0 x11_1).f2), .int .i64 ((za l0 x11_1).f3), .string ((za l0 x11_1).f4), .int .u64 ((za l0 x11_1).f5.f0), .int .u64 ((za l0 x11_1).f5.f1), .int .u64 ((za l0 x11_1).f5.f2), .int .u64 ((za l0 x11_1).f5.f3)] 34 (0, 0))) := ⟨(by rw [hw]; exact (by (with_reducible skip); refine xd (cs := #[.int .i64 0, .int .i64 0, .int .i64 0, .int .i64 0, .string (⟨#[]⟩ : ByteArray), .int .u64 0, .int .u64 0, .int .u64 0, .int .u64 0]) ?_ _ rfl; (with_reducible skip); exact BK329.out))⟩; replace HB : zb (Below w.heap.size w w14) := ⟨(by rw [hw]; exact bsq)⟩; clear hw; obtain ⟨hcz15_0, hcz15_1, hcz15_2, hcz15_3, hcz15_4, hcz15_5, hcz15_6, hcz15_7, hcz15_8⟩ := zS BK329.out; obtain ⟨hfz15_0, hfz15_1, hfz15_2, hfz15_3, hfz15_4, hfz15_5, hfz15_6, hfz15_7, hfz15_8⟩ := zR BK329.out; have p11 : 0 ≤ (x11_1 : Int) := dq; have q11 : (x11_1 : Int) < ((x3_1.length : Int) : Int) := dq; obtain ⟨go11, co11, eo11, gb11, gl11, cl11, HG11⟩ := Kd.xR HO_3.out (by omega); (cases eo11); have GB11 := zb.mk gb11; have GG11 := zb.mk HG11; clear gb11 gl11 HG11; obtain ⟨hx11_0, hf11_0⟩ := Kd.xG false HO_3.out (x11_1 : Int) p11 q11; replace p11 := eq_true p11; replace q11 := eq_true q11; obtain ⟨hy16_, hz16_⟩ := Kd.xG false HO_3.out (x11_1 : Int) (dq) (dq); have HP16 := Kd.jL HO_3.out (x11_1 : Int) (((za l0 x11_1).f1) == 1)) | ((with_reducible refine zM (t := 4) (p := 26) rfl ?_); refine zB (t := 4) (p := 26) (v := ?vo_w17) (w1 := (w14.setCell ⟨go11, (x11_1 : Int).toNat, none⟩ (.bool (((za l0 x11_1).f1) == 1)))) ?hg ?ho ?hn ?hr ?_; (case ho => rfl); (case hg => rfl); (case hn => rfl); (case hr => (go_simp; done)); intro w17 hw; have hg : w14.grownBy w17 (some go11) := (by rw [hw]; exact HP16.2); have hp_ : Kd.R Kd.bool 4 w17 w.heap.size (fun _ => True) (.slice (some ⟨go11, 0, none⟩) x3_1.length co11) y330 := (by rw [hw, Ny330.out]; exact HP16.1); clear HP16; replace BK329 := zb.mk (xc (g := gb329) (o := .cells #[.int .i64 ((za l0 x11_1).f0), .int .i64 ((za l0 x11_1).f1), .int .i64 ((za l0 x11_1).f2), .int .i64 ((za l0 x11_1).f3), .string ((za l0 x11_1).f4), .int .u64 ((za l0 x11_1).f5.f0), .int .u64 ((za l0 x11_1).f5.f1), .int .u64 ((za l0 x11_1).f5.f2), .int .u64 ((za l0 x11_1).f5.f3)] 34 (0, 0)) (bx BK329.out) hg (Kd.R_ne HO_3.out BK329.out (by decide))); replace HO_3 := zb.mk (hp_); replace HB := zb.mk ((by rw [hw]; exact zz (HB.out) GB11.out : Below w.heap.size w w17)); clear hg hw hp_))
      go_roundg k1
      case measure => have := HK1.out; omega
      case rel => exact ⟨(y330), (wrap64 (x11_1 + 1)), eq0, H', ⟨by have := HK1.out; omega⟩, ⟨Kd.rx HO_3.out⟩, ⟨bsq⟩⟩
     ·rw [if_neg c9] at H
      have c9b0 := beq_eq_false_iff_ne.mpr c9
      have c9b1 := bne_iff_ne.mpr c9
      replace H := qh H; obtain ⟨c18, H⟩ := H
      have c18b0 := decide_eq_true c18
      clear c18
      obtain ⟨y331, hy331⟩ : ∃ y_ : List Bool, y_ = (x3_1.set (x11_1 : Int).toNat false) := ⟨_, rfl⟩
      replace H : (qR.l0 k1 l0 y331 l0 (l0.length : Int) (wrap64 (x11_1 + 1))) = some r := by (rw [hy331]; with_reducible exact H)
      have Ny331 := zb.mk hy331
      clear hy331
      have H' := zb.mk H
      clear H
      have p328 : 0 ≤ (x11_1 : Int) := dq
      have q328 : x11_1 < (l0.length : Int) := dq
      obtain ⟨ad328, e328, hx328_0, hx328_1, hx328_2, hx328_3, hx328_4, hx328_5, hx328_6, hx328_7, hx328_8⟩ := zU HR0.out x11_1 p328 q328
      cases e328
      replace hx328_0 := cb HB.out hx328_0
      replace hx328_1 := cb HB.out hx328_1
      replace hx328_2 := cb HB.out hx328_2
      replace hx328_3 := cb HB.out hx328_3
      replace hx328_4 := cb HB.out hx328_4
      replace hx328_5 := cb HB.out hx328_5
      replace hx328_6 := cb HB.out hx328_6
      replace hx328_7 := cb HB.out hx328_7
      replace hx328_8 := cb HB.out hx328_8
      replace p328 := eq_true p328
      replace q328 := eq_true q328
      go_wp2_with (first | ((with_reducible refine z3 (N := 5) rfl ?_); refine qk ?hg (N := 5) ?hd (cs := #[.int .i64 0, .int .i64 0, .int .i64 0, .int .i64 0, .string (⟨#[]⟩ : ByteArray), .int .u64 0, .int .u64 0, .int .u64 0, .int .u64 0]) (t := 34) ?hr ?_; (case hd => rfl); (case hg => rfl); (case hr => (go_simp; done)); intro gb329 hg w20 hbox hb; replace HO_3 := Kd.rbl HO_3 hb; have BK329 := zb.mk (hbox); have GW329 := zb.mk ((by rw [hg]; exact (zj (bl HB.out)) : w.heap.size ≤ gb329)); have GE329 := zb.mk ((by rw [hg]; exact (zj (bl HB.out)) : w.heap.size ≤ gb329)); replace HB := bst HB hb; clear hb hbox hg; obtain ⟨hcz21_0, hcz21_1, hcz21_2, hcz21_3, hcz21_4, hcz21_5, hcz21_6, hcz21_7, hcz21_8⟩ := zS BK329.out; obtain ⟨hfz21_0, hfz21_1, hfz21_2, hfz21_3, hfz21_4, hfz21_5, hfz21_6, hfz21_7, hfz21_8⟩ := zR BK329.out) | ((with_reducible refine zM (t := 34) (p := 5) rfl ?_); refine zB (t := 34) (p := 5) (v := ?vo_w22) (w1 := (xr w20 gb329 #[.int .i64 ((za l0 x11_1).f0), .int .i64 ((za l0 x11_1).f1), .int .i64 ((za l0 x11_1).f2), .int .i64 ((za l0 x11_1).f3), .string ((za l0 x11_1).f4), .int .u64 ((za l0 x11_1).f5.f0), .int .u64 ((za l0 x11_1).f5.f1), .int .u64 ((za l0 x11_1).f5.f2), .int .u64 ((za l0 x11_1).f5.f3)])) ?hg ?ho ?hn ?hr ?_; (case ho => rfl); (case hg => rfl); (case hn => rfl); (case hr => (go_simp; rfl)); intro w22 hw; replace HO_3 : zb (Kd.R Kd.bool 4 w22 w.heap.size (fun _ => True) v326 x3_1) := ⟨(by rw [hw]; exact (Kd.rx (Kd.zH (Kd.jc (g := gb329) (Kd.jK HO_3.out BK329.out (by decide)) (fun _ hk => hk.2) #[.int .i64 ((za l0 x11_1).f0), .int .i64 ((za l0 x11_1).f1), .int .i64 ((za l0 x11_1).f2), .int .i64 ((za l0 x11_1).f3), .string ((za l0 x11_1).f4), .int .u64 ((za l0 x11_1).f5.f0), .int .u64 ((za l0 x11_1).f5.f1), .int .u64 ((za l0 x11_1).f5.f2), .int .u64 ((za l0 x11_1).f5.f3)]) (fun _ hk => trivial))))⟩; replace BK329 : zb (w22.heap[gb329]? = some (.cells #[.int .i64 ((za l0 x11_1).f0), .int .i64 ((za l0 x11_1).f1), .int .i64 ((za l0 x11_1).f2), .int .i64 ((za l0 x11_1).f3), .string ((za l0 x11_1).f4), .int .u64 ((za l0 x11_1).f5.f0), .int .u64 ((za l0 x11_1).f5.f1), .int .u64 ((za l0 x11_1).f5.f2), .int .u64 ((za l0 x11_1).f5.f3)] 34 (0, 0))) := ⟨(by rw [hw]; exact (by (with_reducible skip); refine xd (cs := #[.int .i64 0, .int .i64 0, .int .i64 0, .int .i64 0, .string (⟨#[]⟩ : ByteArray), .int .u64 0, .int .u64 0, .int .u64 0, .int .u64 0]) ?_ _ rfl; (with_reducible skip); exact BK329.out))⟩; replace HB : zb (Below w.heap.size w w22) := ⟨(by rw [hw]; exact bsq)⟩; clear hw; obtain ⟨hcz23_0, hcz23_1, hcz23_2, hcz23_3, hcz23_4, hcz23_5, hcz23_6, hcz23_7, hcz23_8⟩ := zS BK329.out; obtain ⟨hfz23_0, hfz23_1, hfz23_2, hfz23_3, hfz23_4, hfz23_5, hfz23_6, hfz23_7, hfz23_8⟩ := zR BK329.out; have p19 : 0 ≤ (x11_1 : Int) := dq; have q19 : (x11_1 : Int) < ((x3_1.length : Int) : Int) := dq; obtain ⟨go19, co19, eo19, gb19, gl19, cl19, HG19⟩ := Kd.xR HO_3.out (by omega); (cases eo19); have GB19 := zb.mk gb19; have GG19 := zb.mk HG19; clear gb19 gl19 HG19; obtain ⟨hx19_0, hf19_0⟩ := Kd.xG false HO_3.out (x11_1 : Int) p19 q19; replace p19 := eq_true p19; replace q19 := eq_true q19; obtain ⟨hy24_, hz24_⟩ := Kd.xG false HO_3.out (x11_1 : Int) (dq) (dq); have HP24 := Kd.jL HO_3.out (x11_1 : Int) false) | ((with_reducible refine zM (t := 4) (p := 26) rfl ?_); refine zB (t := 4) (p := 26) (v := ?vo_w25) (w1 := (w22.setCell ⟨go19, (x11_1 : Int).toNat, none⟩ (.bool false))) ?hg ?ho ?hn ?hr ?_; (case ho => rfl); (case hg => rfl); (case hn => rfl); (case hr => (go_simp; done)); intro w25 hw; have hg : w22.grownBy w25 (some go19) := (by rw [hw]; exact HP24.2); have hp_ : Kd.R Kd.bool 4 w25 w.heap.size (fun _ => True) (.slice (some ⟨go19, 0, none⟩) x3_1.length co19) y331 := (by rw [hw, Ny331.out]; exact HP24.1); clear HP24; replace BK329 := zb.mk (xc (g := gb329) (o := .cells #[.int .i64 ((za l0 x11_1).f0), .int .i64 ((za l0 x11_1).f1), .int .i64 ((za l0 x11_1).f2), .int .i64 ((za l0 x11_1).f3), .string ((za l0 x11_1).f4), .int .u64 ((za l0 x11_1).f5.f0), .int .u64 ((za l0 x11_1).f5.f1), .int .u64 ((za l0 x11_1).f5.f2), .int .u64 ((za l0 x11_1).f5.f3)] 34 (0, 0)) (bx BK329.out) hg (Kd.R_ne HO_3.out BK329.out (by decide))); replace HO_3 := zb.mk (hp_); replace HB := zb.mk ((by rw [hw]; exact zz (HB.out) GB19.out : Below w.heap.size w w25)); clear hg hw hp_))
      go_roundg k1
      case measure => have := HK1.out; omega
      case rel => exact ⟨(y331), (wrap64 (x11_1 + 1)), eq0, H', ⟨by have := HK1.out; omega⟩, ⟨Kd.rx HO_3.out⟩, ⟨bsq⟩⟩
    ·rw [if_neg c6] at H
     have c6b0 := decide_eq_false c6
     clear c6
     replace H := zO H; obtain ⟨t332, A26, H⟩ := H
     obtain rfl := Option.some.inj H
     obtain ⟨Ao27, co27, eo27⟩ := Kd.zw HO_3.out
     subst eo27
     go_wp2_with (((with_reducible refine zc (f := 48) rfl ?_); refine zh (some 30) rfl rfl Tryd.func48 (by kernel_rfl) rfl #[.slice A0 l0.length c0, .slice Ao27 x3_1.length co27] rfl hq ?_; (with_reducible refine (zP.calls k1 _ _ l0 _ _ x3_1 t332 _ ?side5 ?side1 ?side2 ?side3 ?side4 A26.out).mono ?_); (case side1 => exact Kd.cx (Kd.zF HR0.out HB.out)); (case side2 => exact HC0.out); (case side3 => repeat (exact (Kd.zf HO_3.out).2.2)); (case side4 => exact (Kd.zf HO_3.out).2.1); (case side5 => exact gb HG HB); rintro e w28 ⟨v333, rfl, ho0, hb⟩; refine ⟨_, rfl, ?_⟩; replace HO_3 := Kd.rbl HO_3 hb; have HO334 := zb.mk (Kd.rlo ho0 HB); replace HB := bst HB hb; (try clear hb); (try clear ho0)))
     go_ret
     exact ⟨_, eq1, Kd.rx HO334.out, bl HB.out⟩
 ·rw [if_neg c2] at H
  exact absurd H (by simp)
end Go.Proofs.YtnpeabmlcakegaaDoor.PAll
namespace Go.Proofs.YtnpeabmlcakegaaDoor.PAll
open Go.RowKit Go.Proofs.YtnpeabmlcakegaaDoorW.PrintWords Go.Proofs.YtnpeabmlcakegaaDoorW.PrintLast Go.Proofs.YtnpeabmlcakegaaDoorW.PrintMore
attribute [local go_sem] z9 qe ql xb xa xp xn qL qK qZ qY
set_option linter.unusedVariables false
set_option linter.unusedSimpArgs false
attribute [local go_sem high] eqA34
def qO.l0 : Nat → List (S34) → List (S34) → Int → Int → Option (Bool)
 | 0, _, _, _, _ => none
 | k + 1, x0, x1, x12, x13 => if x13 < x12 then (if 0 ≤ x13 then (if x13 < (x0.length : Int) then (if x13 < (x1.length : Int) then (if (!(((za x0 x13).f0) == ((za x1 x13).f0)) || (!(((za x0 x13).f1) == ((za x1 x13).f1)) || (!(((za x0 x13).f2) == ((za x1 x13).f2)) || (!(((za x0 x13).f3) == ((za x1 x13).f3)) || (!((((za x0 x13).f4).toList) == (((za x1 x13).f4).toList)) || ((!(((za x0 x13).f5.f0) == ((za x1 x13).f5.f0)) || (!(((za x0 x13).f5.f1) == ((za x1 x13).f5.f1)) || (!(((za x0 x13).f5.f2) == ((za x1 x13).f5.f2)) || (!(((za x0 x13).f5.f3) == ((za x1 x13).f5.f3)))))))))))) = true then (some false) else (qO.l0 k x0 x1 x12 (wrap64 (x13 + 1)))) else (none)) else (none)) else (none)) else (some true)
def qO.f (k : Nat) (l0 : List (S34)) (l1 : List (S34)) : Option (Bool) := if (l0.length : Int) = (l1.length : Int) then (qO.l0 k l0 l1 (l0.length : Int) 0) else (some false)
theorem qO.calls (k : Nat) (A0 : Option Addr) (c0 : Nat) (l0 : List (S34)) (A1 : Option Addr) (c1 : Nat) (l1 : List (S34)) (r : Bool) (w : World) (hG : GW w) (hr0 : Kd.C k34 w A0 l0.length l0) (hc0 : l0.length ≤ c0) (hr1 : Kd.C k34 w A1 l1.length l1) (hc1 : l1.length ≤ c1) (h : qO.f k l0 l1 = some r) :
  Calls Tryd.prog 53 #[.slice A0 l0.length c0, .slice A1 l1.length c1] w fun e w' => e = .returned (.bool r) ∧ zi w w' := by
 have hu34 := Tryd.underlying34
 have HR0 := zb.mk hr0
 have HC0 := zb.mk hc0
 clear hr0 hc0
 have HR1 := zb.mk hr1
 have HC1 := zb.mk hc1
 clear hr1 hc1
 have HG := zb.mk hG
 clear hG
 have H : (if (l0.length : Int) = (l1.length : Int) then (qO.l0 k l0 l1 (l0.length : Int) 0) else (some false)) = some r := h
 clear h
 by_cases c3 : (l0.length : Int) = (l1.length : Int)
 ·rw [if_pos c3] at H
  have c3b0 := beq_iff_eq.mpr c3
  have c3b1 := bne_eq_false_iff_eq.mpr c3
  have c3b2 : (l0.length == l1.length) = true := by (simp at c3 ⊢; omega)
  clear c3
  have H' := zb.mk H
  clear H
  go_enter Tryd.func53, Tryd.ntmps53
  go_wp2
  go_loopg [13] k (fun kq v13 w' => ∃ (x13_1 : Int), v13 = .int .i64 x13_1 ∧ zb (qO.l0 kq l0 l1 (l0.length : Int) x13_1 = some r) ∧ zb (kq ≤ k) ∧ zi w w')
  case atStart => exact ⟨(0), eq0, H', ⟨Nat.le_refl _⟩, by repeat (exact zi.refl _)⟩
  case round =>
   clear H'
   (try clear c3b0); (try clear c3b1); (try clear c3b2)
   obtain ⟨x13_1, rfl, HA, HK1, ⟨m1, rfl⟩⟩ := hrel
   cases gk with
   | zero => exact absurd HA.out (by simp [qO.l0])
   | succ k1 =>
    have H := HA.out
    clear HA
    simp only [qO.l0] at H
    by_cases c4 : x13_1 < (l0.length : Int)
    ·rw [if_pos c4] at H
     have c4b0 := decide_eq_true c4
     clear c4
     replace H := qh H; obtain ⟨c5, H⟩ := H
     have c5b0 := decide_eq_true c5
     clear c5
     replace H := qh H; obtain ⟨c6, H⟩ := H
     have c6b0 := decide_eq_true c6
     clear c6
     replace H := qh H; obtain ⟨c7, H⟩ := H
     have c7b0 := decide_eq_true c7
     clear c7
     by_cases c8 : (!(((za l0 x13_1).f0) == ((za l1 x13_1).f0)) || (!(((za l0 x13_1).f1) == ((za l1 x13_1).f1)) || (!(((za l0 x13_1).f2) == ((za l1 x13_1).f2)) || (!(((za l0 x13_1).f3) == ((za l1 x13_1).f3)) || (!((((za l0 x13_1).f4).toList) == (((za l1 x13_1).f4).toList)) || ((!(((za l0 x13_1).f5.f0) == ((za l1 x13_1).f5.f0)) || (!(((za l0 x13_1).f5.f1) == ((za l1 x13_1).f5.f1)) || (!(((za l0 x13_1).f5.f2) == ((za l1 x13_1).f5.f2)) || (!(((za l0 x13_1).f5.f3) == ((za l1 x13_1).f5.f3)))))))))))) = true
     ·rw [if_pos c8] at H
      have c8b0 : (!(((za l0 x13_1).f0) == ((za l1 x13_1).f0)) || (!(((za l0 x13_1).f1) == ((za l1 x13_1).f1)) || (!(((za l0 x13_1).f2) == ((za l1 x13_1).f2)) || (!(((za l0 x13_1).f3) == ((za l1 x13_1).f3)) || (!((((za l0 x13_1).f4).toList) == (((za l1 x13_1).f4).toList)) || ((!(((za l0 x13_1).f5.f0) == ((za l1 x13_1).f5.f0)) || (!(((za l0 x13_1).f5.f1) == ((za l1 x13_1).f5.f1)) || (!(((za l0 x13_1).f5.f2) == ((za l1 x13_1).f5.f2)) || (!(((za l0 x13_1).f5.f3) == ((za l1 x13_1).f5.f3)))))))))))) = true := c8
      clear c8
      obtain rfl := Option.some.inj H
      have p335 : 0 ≤ (x13_1 : Int) := dq
      have q335 : x13_1 < (l0.length : Int) := dq
      obtain ⟨ad335, e335, hx335_0, hx335_1, hx335_2, hx335_3, hx335_4, hx335_5, hx335_6, hx335_7, hx335_8⟩ := zU HR0.out x13_1 p335 q335
      cases e335
      replace p335 := eq_true p335
      replace q335 := eq_true q335
      have p336 : 0 ≤ (x13_1 : Int) := dq
      have q336 : x13_1 < (l1.length : Int) := dq
      obtain ⟨ad336, e336, hx336_0, hx336_1, hx336_2, hx336_3, hx336_4, hx336_5, hx336_6, hx336_7, hx336_8⟩ := zU HR1.out x13_1 p336 q336
      cases e336
      replace p336 := eq_true p336
      replace q336 := eq_true q336
      go_wp2
      repeat (go_quiet (fail); try go_wp2)
      go_ret
      exact ⟨eq0, by repeat (first | exact zi.refl _ | apply zi.step)⟩
     ·rw [if_neg c8] at H
      have c8b0 : (!(((za l0 x13_1).f0) == ((za l1 x13_1).f0)) || (!(((za l0 x13_1).f1) == ((za l1 x13_1).f1)) || (!(((za l0 x13_1).f2) == ((za l1 x13_1).f2)) || (!(((za l0 x13_1).f3) == ((za l1 x13_1).f3)) || (!((((za l0 x13_1).f4).toList) == (((za l1 x13_1).f4).toList)) || ((!(((za l0 x13_1).f5.f0) == ((za l1 x13_1).f5.f0)) || (!(((za l0 x13_1).f5.f1) == ((za l1 x13_1).f5.f1)) || (!(((za l0 x13_1).f5.f2) == ((za l1 x13_1).f5.f2)) || (!(((za l0 x13_1).f5.f3) == ((za l1 x13_1).f5.f3)))))))))))) = false := by simpa using c8
      clear c8
      have H' := zb.mk H
      clear H
      have p335 : 0 ≤ (x13_1 : Int) := dq
      have q335 : x13_1 < (l0.length : Int) := dq
      obtain ⟨ad335, e335, hx335_0, hx335_1, hx335_2, hx335_3, hx335_4, hx335_5, hx335_6, hx335_7, hx335_8⟩ := zU HR0.out x13_1 p335 q335
      cases e335
      replace p335 := eq_true p335
      replace q335 := eq_true q335
      have p336 : 0 ≤ (x13_1 : Int) := dq
      have q336 : x13_1 < (l1.length : Int) := dq
      obtain ⟨ad336, e336, hx336_0, hx336_1, hx336_2, hx336_3, hx336_4, hx336_5, hx336_6, hx336_7, hx336_8⟩ := zU HR1.out x13_1 p336 q336
      cases e336
      replace p336 := eq_true p336
      replace q336 := eq_true q336
      go_wp2
      repeat (go_quiet (fail); try go_wp2)
      go_roundg k1
      case measure => have := HK1.out; omega
      case rel => exact ⟨(wrap64 (x13_1 + 1)), eq0, H', ⟨by have := HK1.out; omega⟩, by repeat (first | exact zi.refl _ | apply zi.step)⟩
    ·rw [if_neg c4] at H
     have c4b0 := decide_eq_false c4
     clear c4
     obtain rfl := Option.some.inj H
     go_wp2
     go_ret
     exact ⟨eq0, by repeat (first | exact zi.refl _ | apply zi.step)⟩
 ·rw [if_neg c3] at H
  have c3b0 := beq_eq_false_iff_ne.mpr c3
  have c3b1 := bne_iff_ne.mpr c3
  have c3b2 : (l0.length == l1.length) = false := by (simp at c3 ⊢; omega)
  obtain rfl := Option.some.inj H
  go_enter Tryd.func53, Tryd.ntmps53
  go_wp2
  go_ret
  exact ⟨eq0, by repeat (exact zi.refl _)⟩
def jb.f (k : Nat) (l0 : List (S34)) (l1 : List (S34)) : Option (Bool) := (qO.f k l0 l1).bind fun t337 => (some t337)
theorem jb.calls (k : Nat) (A0 : Option Addr) (c0 : Nat) (l0 : List (S34)) (A1 : Option Addr) (c1 : Nat) (l1 : List (S34)) (r : Bool) (w : World) (hG : GW w) (hr0 : Kd.C k34 w A0 l0.length l0) (hc0 : l0.length ≤ c0) (hr1 : Kd.C k34 w A1 l1.length l1) (hc1 : l1.length ≤ c1) (h : jb.f k l0 l1 = some r) :
  Calls Tryd.prog 32 #[.slice A0 l0.length c0, .slice A1 l1.length c1] w fun e w' => e = .returned (.bool r) ∧ zi w w' := by
 have HR0 := zb.mk hr0
 have HC0 := zb.mk hc0
 clear hr0 hc0
 have HR1 := zb.mk hr1
 have HC1 := zb.mk hc1
 clear hr1 hc1
 have HG := zb.mk hG
 clear hG
 have H : ((qO.f k l0 l1).bind fun t337 => (some t337)) = some r := h
 clear h
 replace H := zO H; obtain ⟨t337, A3, H⟩ := H
 obtain rfl := Option.some.inj H
 go_enter Tryd.func32, Tryd.ntmps32
 go_wp2_with (((with_reducible refine zc (f := 53) rfl ?_); refine zh (some 7) rfl rfl Tryd.func53 (by kernel_rfl) rfl #[.slice A0 l0.length c0, .slice A1 l1.length c1] rfl hq ?_; (with_reducible refine (qO.calls k _ _ l0 _ _ l1 t337 _ ?side5 ?side1 ?side2 ?side3 ?side4 A3.out).mono ?_); (case side1 => exact Kd.cx HR0.out); (case side2 => exact HC0.out); (case side3 => exact Kd.cx HR1.out); (case side4 => exact HC1.out); (case side5 => repeat (exact HG.out)); rintro e w' ⟨rfl, ⟨nd, rfl⟩⟩; refine ⟨_, rfl, ?_⟩))
 go_ret
 exact ⟨eq0, by repeat (first | exact zi.refl _ | apply zi.step)⟩
def qf.round (k : Nat) (x : List S34) (a1 : Int) : Option (List S34) :=
 ((if (Go.bits .and .i64 a1 32 != 0) = true then qH.f k x else some x).bind fun y =>
  if (Go.bits .and .i64 a1 64 != 0) = true then (zY.f k y).bind fun y1 => (qX.f k y1).bind fun y2 => qR.f k y2 else some y)
def qf.l0 : Nat → List S34 → Int → Option (List S34)
 | 0, _, _ => none
 | k + 1, x, a1 => (qf.round k x a1).bind fun y => (jb.f k x y).bind fun s => if s = true then (qD.f y) else qf.l0 k y a1
def qf.f (k : Nat) (l0 : List S34) (a1 : Int) : Option (List S34 × Int) :=
 (zC.f k l0).bind fun c => if c.2 = 0 then (if 0 ≤ a1 then (if a1 ≤ 127 then (qD.f l0).bind fun x => (qf.l0 k x a1).bind fun y => some (y, 0) else some ([], 1)) else some ([], 1)) else some ([], c.2)
theorem bind_self {α : Type} (o : Option α) : (o.bind fun y => some y) = o := by cases o <;> rfl
theorem scope_rounds {P : Program} {a : Act} {w : World} {Q : Exit → Act → World → Prop} {c rest : Code} (l : Nat) (J : Nat → Act → World → Prop) (hf : findLabel c l = some (.seq .skip rest))
  (pass : ∀ n a w, J n a w → rest.wp P (Exit.jump l (fun a' w' => ∃ m, J m a' w' ∧ m < n) Q) a w)
  (first : (∀ n a w, J n a w → rest.wp P (Exit.jump l (fun a' w' => ∃ m, J m a' w') Q) a w) → c.wp P (Exit.jump l (fun a' w' => ∃ m, J m a' w') Q) a w) : (Code.scope c).wp P Q a w := by
 have first' := first (fun n a w hJ => by
  refine wp_mono (pass n a w hJ) ?_
  intro e a' w' hq
  cases e <;> first | exact hq | (obtain ⟨h1, m, h2, _⟩ := hq; exact ⟨h1, m, h2⟩))
 intro b k cs
 have hg : gotoIn l (.inScope c :: k) = some (.code (.seq .skip rest) :: .inScope c :: k) := by simp [gotoIn, hf]
 have key : ∀ n a w, J n a w → ∃ e a' w', Q e a' w' ∧ Arrives P (lone (b.at a (.code (.seq .skip rest) :: .inScope c :: k)) cs w) b k cs e a' w' := by
  intro n
  induction n using Nat.strongRecOn with
  | _ n ih =>
   intro a w hJ
   obtain ⟨e, a₁, w₁, hq, harr⟩ := wp_seq (wp_skip (pass n a w hJ)) b (.inScope c :: k) cs
   cases e with
   | normal => exact ⟨.normal, a₁, w₁, hq, Steps.trans harr (.one step_inScope)⟩
   | exit id => exact ⟨.exit id, a₁, w₁, hq, fun k' hk => harr k' (by simp [exitTo, hk])⟩
   | goto l' =>
    obtain ⟨rfl, m, hJ', hlt⟩ := hq
    obtain ⟨e₂, a₂, w₂, hq₂, harr₂⟩ := ih m hlt a₁ w₁ hJ'
    exact ⟨e₂, a₂, w₂, hq₂, .of_steps (harr _ hg) harr₂⟩
   | ret => exact ⟨_, a₁, w₁, hq, harr⟩
   | panic ch => exact ⟨_, a₁, w₁, hq, harr⟩
   | outgrown => exact ⟨_, a₁, w₁, hq, harr⟩
 obtain ⟨e, a₁, w₁, hq, harr⟩ := first' b (.inScope c :: k) cs
 cases e with
 | normal => exact ⟨.normal, a₁, w₁, hq, .head step_scope (Steps.trans harr (.one step_inScope))⟩
 | exit id => exact ⟨.exit id, a₁, w₁, hq, fun k' hk => .head step_scope (harr k' (by simp [exitTo, hk]))⟩
 | goto l' =>
  obtain ⟨rfl, m, hJ'⟩ := hq
  obtain ⟨e₂, a₂, w₂, hq₂, harr₂⟩ := key m a₁ w₁ hJ'
  exact ⟨e₂, a₂, w₂, hq₂, .of_steps (.head step_scope (harr _ hg)) harr₂⟩
 | ret => exact ⟨_, a₁, w₁, hq, .of_steps (.one step_scope) harr⟩
 | panic ch => exact ⟨_, a₁, w₁, hq, .of_steps (.one step_scope) harr⟩
 | outgrown => exact ⟨_, a₁, w₁, hq, .of_steps (.one step_scope) harr⟩
theorem qf.calls (k : Nat) (A0 : Option Addr) (c0 : Nat) (l0 : List (S34)) (a1 : Int) (r1 : List S34) (r2 : Int) (w : World) (hG : GW w) (hr0 : Kd.C k34 w A0 l0.length l0) (hc0 : l0.length ≤ c0) (h : qf.f k l0 a1 = some (r1, r2)) :
  Calls Tryd.prog 14 #[.slice A0 l0.length c0, .int .i64 a1] w fun e w' => ∃ v0_ : Value, e = .returned (.tuple #[v0_, .int .i64 r2]) ∧ Kd.R k34 34 w' w.heap.size (fun _ => True) v0_ r1 ∧ Below w.heap.size w w' := by
 have HR0 := zb.mk hr0
 have HC0 := zb.mk hc0
 have HG := zb.mk hG
 have HB := zb.mk (Below.refl w.heap.size w)
 clear hr0 hc0 hG
 have H := h
 clear h
 unfold qf.f at H
 replace H := Option.bind_eq_some_iff.mp H
 obtain ⟨⟨t1, t2⟩, A20, H⟩ := H
 have A2 := zb.mk A20
 clear A20
 have H := zb.mk H
 go_enter Tryd.func14, Tryd.ntmps14
 go_wp2_with fail
 refine scope_rounds 0 (fun n a w' => ∃ (v : Value) (y : List S34) (x2 x3 x4 x5 x6 x7 x9 x10 x11 x12 x13 x14 x15 x16 x17 x18 x19 x20 x21 x22 x23 x24 x25 x26 x27 x28 x29 x30 x31 x32 x33 x34 x35 x36 x37 x38 x39 x40 x41 x42 x43 x44 : Value),
  a = { tmps := #[.slice A0 l0.length c0, .int .i64 a1, x2, x3, x4, x5, x6, x7, v, x9, x10, x11, x12, x13, x14, x15, x16, x17, x18, x19, x20, x21, x22, x23, x24, x25, x26, x27, x28, x29, x30, x31, x32, x33, x34, x35, x36, x37, x38, x39, x40, x41, x42, x43, x44], defers := [] } ∧
  Kd.R k34 34 w' w.heap.size (fun _ => True) v y ∧ Below w.heap.size w w' ∧ qf.l0 n y a1 = some r1 ∧ r2 = 0) (by rfl) ?pass ?first
 case first =>
  intro hp
  go_wp2_with fail
  refine (zC.calls k A0 c0 l0 t1 t2 _ HG.out HR0.out HC0.out A2.out).mono ?_
  rintro e w1 ⟨rfl, hb⟩
  have HB1 := zb.mk hb
  clear hb
  by_cases c1 : t2 = 0
  ·have c1b : (t2 != 0) = false := bne_eq_false_iff_eq.mpr c1
   by_cases c2 : 0 ≤ a1
   ·have c2b : decide (a1 < 0) = false := decide_eq_false (by omega)
    by_cases c3 : a1 ≤ 127
    ·have c3b : decide (127 < a1) = false := decide_eq_false (by omega)
     go_wp2_with fail
     have H1 := H.out
     simp only [c1, c2, c3, if_true] at H1
     replace H1 := Option.bind_eq_some_iff.mp H1
     obtain ⟨y0, B1, H1⟩ := H1
     replace H1 := Option.bind_eq_some_iff.mp H1
     obtain ⟨y1, B2, H1⟩ := H1
     simp only [Option.some.injEq, Prod.mk.injEq] at H1
     obtain ⟨rfl, e2⟩ := H1
     have E2 := zb.mk e2.symm
     clear e2
     refine (qD.calls A0 c0 l0 y0 _ (GW.below HG.out HB1.out) (Kd.zF HR0.out HB1.out) HC0.out B1).mono ?_
     rintro e w2 ⟨v, rfl, ho, hb⟩
     have HO := zb.mk (Kd.xV ho (zj HB1.out))
     have HB2 := zb.mk (z6 HB1.out hb)
     have B2' := zb.mk B2
     clear ho hb B2
     go_wp2_with fail
     apply wp_label
     simp only [Exit.then]
     refine (‹∀ (a : Act) (w : World), Code.wp _ _ _ a w → _› : ∀ (a : Act) (w : World), Code.wp _ _ _ a w → _) _ _ ?_
     refine hp k _ _ ?_
     exact ⟨_, _, _, _, _, _, _, _, _, _, _, _, _, _, _, _, _, _, _, _, _, _, _, _, _, _, _, _, _, _, _, _, _, _, _, _, _, _, _, _, _, _, _, _, rfl, HO.out, HB2.out, B2'.out, E2.out⟩
    ·have H' := H.out
     simp only [c1, c2, c3, if_true, if_false] at H'
     obtain ⟨rfl, rfl⟩ := by simpa using H'
     have c3b : decide (127 < a1) = true := decide_eq_true (by omega)
     go_wp2_with fail
     simp only [Exit.jump]
     go_ret2
     exact ⟨_, rfl, Kd.ji _ _ _ _ _, HB1.out⟩
   ·have H' := H.out
    simp only [c1, c2, if_true, if_false] at H'
    obtain ⟨rfl, rfl⟩ := by simpa using H'
    have c2b : decide (a1 < 0) = true := decide_eq_true (by omega)
    go_wp2_with fail
    simp only [Exit.jump]
    go_ret2
    exact ⟨_, rfl, Kd.ji _ _ _ _ _, HB1.out⟩
  ·have c1b : (t2 != 0) = true := bne_iff_ne.mpr c1
   have H' := H.out
   simp only [if_neg c1] at H'
   obtain ⟨rfl, rfl⟩ := by simpa using H'
   go_wp2_with fail
   simp only [Exit.jump]
   go_ret2
   exact ⟨_, rfl, Kd.ji _ _ _ _ _, HB1.out⟩
 case pass =>
  rintro n a w' ⟨v, y, x2, x3, x4, x5, x6, x7, x9, x10, x11, x12, x13, x14, x15, x16, x17, x18, x19, x20, x21, x22, x23, x24, x25, x26, x27, x28, x29, x30, x31, x32, x33, x34, x35, x36, x37, x38, x39, x40, x41, x42, x43, x44, rfl, ho, hB, hl, hr2⟩
  clear H A2
  have HR2 := zb.mk hr2
  clear hr2
  cases n with
  | zero => simp [qf.l0] at hl
  | succ k =>
  simp only [qf.l0] at hl
  obtain ⟨y', hR, hl⟩ := Option.bind_eq_some_iff.mp hl
  obtain ⟨s, hs, hl⟩ := Option.bind_eq_some_iff.mp hl
  unfold qf.round at hR
  have HB0 := zb.mk hB
  have HX := zb.mk ho
  obtain ⟨Ao, co, rfl, lo, Co⟩ := Kd.jd ho
  have HC := zb.mk Co
  have HL := zb.mk lo
  clear ho hB lo Co HR0 HC0 HB
  rcases bt : (Go.bits .and .i64 a1 32 != 0) with _ | _ <;> rcases bj : (Go.bits .and .i64 a1 64 != 0) with _ | _
  ·
   simp only [bt, bj, if_true, if_false, Bool.false_eq_true, Option.bind_some, bind_self] at hR
   go_wp2_with fail
   obtain rfl := Option.some.inj hR
   obtain ⟨Ax, cx, ex, lx, Cx⟩ := Kd.jd HX.out
   cases ex
   refine (jb.calls k _ _ y _ _ y s _ (GW.below HG.out HB0.out) Cx lx HC.out HL.out hs).mono ?_
   rintro e u9 ⟨rfl, hd⟩
   have HB' := zb.mk (z6 HB0.out (zi.below hd))
   have HX' := zb.mk (Kd.xk HX.out (zi.below hd))
   rcases s with _ | _
   ·simp only [Bool.false_eq_true, if_false] at hl
    have hl' := zb.mk hl
    clear hl hs hd
    go_wp2_with fail
    apply wp_goto
    exact And.intro rfl ⟨k, ⟨_, _, _, _, _, _, _, _, _, _, _, _, _, _, _, _, _, _, _, _, _, _, _, _, _, _, _, _, _, _, _, _, _, _, _, _, _, _, _, _, _, _, _, _, rfl, HX'.out, HB'.out, hl'.out, HR2.out⟩, Nat.lt_succ_self _⟩
   ·simp only [if_true] at hl
    have hl' := zb.mk hl
    have HCs := zb.mk (Kd.zF HC.out (zi.below hd))
    clear hl hs hd
    go_wp2_with fail
    refine (qD.calls Ao co y _ _ (GW.below HG.out HB'.out) HCs.out HL.out hl'.out).mono ?_
    rintro e u10 ⟨v10, rfl, o10, b10⟩
    have HO10 := zb.mk (Kd.xV o10 (zj HB'.out))
    have HB10 := zb.mk (z6 HB'.out b10)
    clear o10 b10
    go_wp2_with fail
    simp only [Exit.jump]
    go_ret2
    have hr2 := HR2.out
    subst hr2
    exact ⟨_, rfl, HO10.out, HB10.out⟩
  ·
   simp only [bt, bj, if_true, if_false, Bool.false_eq_true, Option.bind_some, bind_self] at hR
   go_wp2_with fail
   obtain ⟨z0, F0, hR⟩ := Option.bind_eq_some_iff.mp hR
   refine (zY.calls k Ao co y z0 _ (GW.below HG.out HB0.out) HC.out HL.out F0).mono ?_
   rintro e u0 ⟨v0, rfl, o0, b0⟩
   have HB1 := zb.mk (z6 HB0.out b0)
   have HX := zb.mk (Kd.xk HX.out b0)
   obtain ⟨E0, k0, rfl, l0, C0⟩ := Kd.jd o0
   have HO1 := zb.mk (Kd.xV o0 (zj HB0.out))
   have HC1 := zb.mk C0
   have HL1 := zb.mk l0
   clear o0 b0 l0 C0
   go_wp2_with fail
   obtain ⟨z1, F1, hR⟩ := Option.bind_eq_some_iff.mp hR
   refine (qX.calls k E0 k0 z0 z1 _ (GW.below HG.out HB1.out) HC1.out HL1.out F1).mono ?_
   rintro e u1 ⟨v1, rfl, o1, b1⟩
   have HB2 := zb.mk (z6 HB1.out b1)
   have HX := zb.mk (Kd.xk HX.out b1)
   obtain ⟨E1, k1, rfl, l1, C1⟩ := Kd.jd o1
   have HO2 := zb.mk (Kd.xV o1 (zj HB1.out))
   have HC2 := zb.mk C1
   have HL2 := zb.mk l1
   clear o1 b1 l1 C1
   go_wp2_with fail
   refine (qR.calls k E1 k1 z1 y' _ (GW.below HG.out HB2.out) HC2.out HL2.out hR).mono ?_
   rintro e u2 ⟨v2, rfl, o2, b2⟩
   have HB3 := zb.mk (z6 HB2.out b2)
   have HX := zb.mk (Kd.xk HX.out b2)
   obtain ⟨E2, k2, rfl, l2, C2⟩ := Kd.jd o2
   have HO3 := zb.mk (Kd.xV o2 (zj HB2.out))
   have HC3 := zb.mk C2
   have HL3 := zb.mk l2
   clear o2 b2 l2 C2
   go_wp2_with fail
   obtain ⟨Ax, cx, ex, lx, Cx⟩ := Kd.jd HX.out
   cases ex
   refine (jb.calls k _ _ y _ _ y' s _ (GW.below HG.out HB3.out) Cx lx HC3.out HL3.out hs).mono ?_
   rintro e u9 ⟨rfl, hd⟩
   have HB' := zb.mk (z6 HB3.out (zi.below hd))
   have HX' := zb.mk (Kd.xk HO3.out (zi.below hd))
   rcases s with _ | _
   ·simp only [Bool.false_eq_true, if_false] at hl
    have hl' := zb.mk hl
    clear hl hs hd
    go_wp2_with fail
    apply wp_goto
    exact And.intro rfl ⟨k, ⟨_, _, _, _, _, _, _, _, _, _, _, _, _, _, _, _, _, _, _, _, _, _, _, _, _, _, _, _, _, _, _, _, _, _, _, _, _, _, _, _, _, _, _, _, rfl, HX'.out, HB'.out, hl'.out, HR2.out⟩, Nat.lt_succ_self _⟩
   ·simp only [if_true] at hl
    have hl' := zb.mk hl
    have HCs := zb.mk (Kd.zF HC3.out (zi.below hd))
    clear hl hs hd
    go_wp2_with fail
    refine (qD.calls E2 k2 y' _ _ (GW.below HG.out HB'.out) HCs.out HL3.out hl'.out).mono ?_
    rintro e u10 ⟨v10, rfl, o10, b10⟩
    have HO10 := zb.mk (Kd.xV o10 (zj HB'.out))
    have HB10 := zb.mk (z6 HB'.out b10)
    clear o10 b10
    go_wp2_with fail
    simp only [Exit.jump]
    go_ret2
    have hr2 := HR2.out
    subst hr2
    exact ⟨_, rfl, HO10.out, HB10.out⟩
  ·
   simp only [bt, bj, if_true, if_false, Bool.false_eq_true, Option.bind_some, bind_self] at hR
   go_wp2_with fail
   refine (qH.calls k Ao co y y' _ (GW.below HG.out HB0.out) HC.out HL.out hR).mono ?_
   rintro e u0 ⟨v0, rfl, o0, b0⟩
   have HB1 := zb.mk (z6 HB0.out b0)
   have HX := zb.mk (Kd.xk HX.out b0)
   obtain ⟨E0, k0, rfl, l0, C0⟩ := Kd.jd o0
   have HO1 := zb.mk (Kd.xV o0 (zj HB0.out))
   have HC1 := zb.mk C0
   have HL1 := zb.mk l0
   clear o0 b0 l0 C0
   go_wp2_with fail
   obtain ⟨Ax, cx, ex, lx, Cx⟩ := Kd.jd HX.out
   cases ex
   refine (jb.calls k _ _ y _ _ y' s _ (GW.below HG.out HB1.out) Cx lx HC1.out HL1.out hs).mono ?_
   rintro e u9 ⟨rfl, hd⟩
   have HB' := zb.mk (z6 HB1.out (zi.below hd))
   have HX' := zb.mk (Kd.xk HO1.out (zi.below hd))
   rcases s with _ | _
   ·simp only [Bool.false_eq_true, if_false] at hl
    have hl' := zb.mk hl
    clear hl hs hd
    go_wp2_with fail
    apply wp_goto
    exact And.intro rfl ⟨k, ⟨_, _, _, _, _, _, _, _, _, _, _, _, _, _, _, _, _, _, _, _, _, _, _, _, _, _, _, _, _, _, _, _, _, _, _, _, _, _, _, _, _, _, _, _, rfl, HX'.out, HB'.out, hl'.out, HR2.out⟩, Nat.lt_succ_self _⟩
   ·simp only [if_true] at hl
    have hl' := zb.mk hl
    have HCs := zb.mk (Kd.zF HC1.out (zi.below hd))
    clear hl hs hd
    go_wp2_with fail
    refine (qD.calls E0 k0 y' _ _ (GW.below HG.out HB'.out) HCs.out HL1.out hl'.out).mono ?_
    rintro e u10 ⟨v10, rfl, o10, b10⟩
    have HO10 := zb.mk (Kd.xV o10 (zj HB'.out))
    have HB10 := zb.mk (z6 HB'.out b10)
    clear o10 b10
    go_wp2_with fail
    simp only [Exit.jump]
    go_ret2
    have hr2 := HR2.out
    subst hr2
    exact ⟨_, rfl, HO10.out, HB10.out⟩
  ·
   simp only [bt, bj, if_true, if_false, Bool.false_eq_true, Option.bind_some, bind_self] at hR
   go_wp2_with fail
   obtain ⟨z0, F0, hR⟩ := Option.bind_eq_some_iff.mp hR
   refine (qH.calls k Ao co y z0 _ (GW.below HG.out HB0.out) HC.out HL.out F0).mono ?_
   rintro e u0 ⟨v0, rfl, o0, b0⟩
   have HB1 := zb.mk (z6 HB0.out b0)
   have HX := zb.mk (Kd.xk HX.out b0)
   obtain ⟨E0, k0, rfl, l0, C0⟩ := Kd.jd o0
   have HO1 := zb.mk (Kd.xV o0 (zj HB0.out))
   have HC1 := zb.mk C0
   have HL1 := zb.mk l0
   clear o0 b0 l0 C0
   go_wp2_with fail
   obtain ⟨z1, F1, hR⟩ := Option.bind_eq_some_iff.mp hR
   refine (zY.calls k E0 k0 z0 z1 _ (GW.below HG.out HB1.out) HC1.out HL1.out F1).mono ?_
   rintro e u1 ⟨v1, rfl, o1, b1⟩
   have HB2 := zb.mk (z6 HB1.out b1)
   have HX := zb.mk (Kd.xk HX.out b1)
   obtain ⟨E1, k1, rfl, l1, C1⟩ := Kd.jd o1
   have HO2 := zb.mk (Kd.xV o1 (zj HB1.out))
   have HC2 := zb.mk C1
   have HL2 := zb.mk l1
   clear o1 b1 l1 C1
   go_wp2_with fail
   obtain ⟨z2, F2, hR⟩ := Option.bind_eq_some_iff.mp hR
   refine (qX.calls k E1 k1 z1 z2 _ (GW.below HG.out HB2.out) HC2.out HL2.out F2).mono ?_
   rintro e u2 ⟨v2, rfl, o2, b2⟩
   have HB3 := zb.mk (z6 HB2.out b2)
   have HX := zb.mk (Kd.xk HX.out b2)
   obtain ⟨E2, k2, rfl, l2, C2⟩ := Kd.jd o2
   have HO3 := zb.mk (Kd.xV o2 (zj HB2.out))
   have HC3 := zb.mk C2
   have HL3 := zb.mk l2
   clear o2 b2 l2 C2
   go_wp2_with fail
   refine (qR.calls k E2 k2 z2 y' _ (GW.below HG.out HB3.out) HC3.out HL3.out hR).mono ?_
   rintro e u3 ⟨v3, rfl, o3, b3⟩
   have HB4 := zb.mk (z6 HB3.out b3)
   have HX := zb.mk (Kd.xk HX.out b3)
   obtain ⟨E3, k3, rfl, l3, C3⟩ := Kd.jd o3
   have HO4 := zb.mk (Kd.xV o3 (zj HB3.out))
   have HC4 := zb.mk C3
   have HL4 := zb.mk l3
   clear o3 b3 l3 C3
   go_wp2_with fail
   obtain ⟨Ax, cx, ex, lx, Cx⟩ := Kd.jd HX.out
   cases ex
   refine (jb.calls k _ _ y _ _ y' s _ (GW.below HG.out HB4.out) Cx lx HC4.out HL4.out hs).mono ?_
   rintro e u9 ⟨rfl, hd⟩
   have HB' := zb.mk (z6 HB4.out (zi.below hd))
   have HX' := zb.mk (Kd.xk HO4.out (zi.below hd))
   rcases s with _ | _
   ·simp only [Bool.false_eq_true, if_false] at hl
    have hl' := zb.mk hl
    clear hl hs hd
    go_wp2_with fail
    apply wp_goto
    exact And.intro rfl ⟨k, ⟨_, _, _, _, _, _, _, _, _, _, _, _, _, _, _, _, _, _, _, _, _, _, _, _, _, _, _, _, _, _, _, _, _, _, _, _, _, _, _, _, _, _, _, _, rfl, HX'.out, HB'.out, hl'.out, HR2.out⟩, Nat.lt_succ_self _⟩
   ·simp only [if_true] at hl
    have hl' := zb.mk hl
    have HCs := zb.mk (Kd.zF HC4.out (zi.below hd))
    clear hl hs hd
    go_wp2_with fail
    refine (qD.calls E3 k3 y' _ _ (GW.below HG.out HB'.out) HCs.out HL4.out hl'.out).mono ?_
    rintro e u10 ⟨v10, rfl, o10, b10⟩
    have HO10 := zb.mk (Kd.xV o10 (zj HB'.out))
    have HB10 := zb.mk (z6 HB'.out b10)
    clear o10 b10
    go_wp2_with fail
    simp only [Exit.jump]
    go_ret2
    have hr2 := HR2.out
    subst hr2
    exact ⟨_, rfl, HO10.out, HB10.out⟩
def zk.l0 : Nat → List (S34) → List (S34) → Int → Option (Bool)
 | 0, _, _, _ => none
 | k + 1, x0, x1, x5 => if x5 < (x0.length : Int) then (if 0 ≤ x5 then (if x5 < (x1.length : Int) then (if (!(((za x0 x5).f0) == ((za x1 x5).f0)) || (!(((za x0 x5).f1) == ((za x1 x5).f1)) || (!(((za x0 x5).f2) == ((za x1 x5).f2)) || (!(((za x0 x5).f3) == ((za x1 x5).f3)) || (!((((za x0 x5).f4).toList) == (((za x1 x5).f4).toList)) || ((!(((za x0 x5).f5.f0) == ((za x1 x5).f5.f0)) || (!(((za x0 x5).f5.f1) == ((za x1 x5).f5.f1)) || (!(((za x0 x5).f5.f2) == ((za x1 x5).f5.f2)) || (!(((za x0 x5).f5.f3) == ((za x1 x5).f5.f3)))))))))))) = true then (some false) else (zk.l0 k x0 x1 (wrap64 (x5 + 1)))) else (none)) else (none)) else (some true)
def zk.f (k : Nat) (l0 : List (S34)) (l1 : List (S34)) : Option (Bool) := if (l0.length : Int) = (l1.length : Int) then (zk.l0 k l0 l1 0) else (some false)
theorem zk.calls (k : Nat) (A0 : Option Addr) (c0 : Nat) (l0 : List (S34)) (A1 : Option Addr) (c1 : Nat) (l1 : List (S34)) (r : Bool) (w : World) (hG : GW w) (hr0 : Kd.C k34 w A0 l0.length l0) (hc0 : l0.length ≤ c0) (hr1 : Kd.C k34 w A1 l1.length l1) (hc1 : l1.length ≤ c1) (h : zk.f k l0 l1 = some r) :
  Calls Tryd.prog 16 #[.slice A0 l0.length c0, .slice A1 l1.length c1] w fun e w' => e = .returned (.bool r) ∧ zi w w' := by
 have hu34 := Tryd.underlying34
 have HR0 := zb.mk hr0
 have HC0 := zb.mk hc0
 clear hr0 hc0
 have HR1 := zb.mk hr1
 have HC1 := zb.mk hc1
 clear hr1 hc1
 have HG := zb.mk hG
 clear hG
 have H : (if (l0.length : Int) = (l1.length : Int) then (zk.l0 k l0 l1 0) else (some false)) = some r := h
 clear h
 by_cases c3 : (l0.length : Int) = (l1.length : Int)
 ·rw [if_pos c3] at H
  have c3b0 := beq_iff_eq.mpr c3
  have c3b1 := bne_eq_false_iff_eq.mpr c3
  have c3b2 : (l0.length == l1.length) = true := by (simp at c3 ⊢; omega)
  clear c3
  have H' := zb.mk H
  clear H
  go_enter Tryd.func16, Tryd.ntmps16
  go_wp2
  go_loopg [5] k (fun kq v5 w' => ∃ (x5_1 : Int), v5 = .int .i64 x5_1 ∧ zb (zk.l0 kq l0 l1 x5_1 = some r) ∧ zb (kq ≤ k) ∧ zi w w')
  case atStart => exact ⟨(0), eq0, H', ⟨Nat.le_refl _⟩, by repeat (exact zi.refl _)⟩
  case round =>
   clear H'
   (try clear c3b0); (try clear c3b1); (try clear c3b2)
   obtain ⟨x5_1, rfl, HA, HK1, ⟨m1, rfl⟩⟩ := hrel
   cases gk with
   | zero => exact absurd HA.out (by simp [zk.l0])
   | succ k1 =>
    have H := HA.out
    clear HA
    simp only [zk.l0] at H
    by_cases c4 : x5_1 < (l0.length : Int)
    ·rw [if_pos c4] at H
     have c4b0 := decide_eq_true c4
     clear c4
     replace H := qh H; obtain ⟨c5, H⟩ := H
     have c5b0 := decide_eq_true c5
     clear c5
     replace H := qh H; obtain ⟨c6, H⟩ := H
     have c6b0 := decide_eq_true c6
     clear c6
     by_cases c7 : (!(((za l0 x5_1).f0) == ((za l1 x5_1).f0)) || (!(((za l0 x5_1).f1) == ((za l1 x5_1).f1)) || (!(((za l0 x5_1).f2) == ((za l1 x5_1).f2)) || (!(((za l0 x5_1).f3) == ((za l1 x5_1).f3)) || (!((((za l0 x5_1).f4).toList) == (((za l1 x5_1).f4).toList)) || ((!(((za l0 x5_1).f5.f0) == ((za l1 x5_1).f5.f0)) || (!(((za l0 x5_1).f5.f1) == ((za l1 x5_1).f5.f1)) || (!(((za l0 x5_1).f5.f2) == ((za l1 x5_1).f5.f2)) || (!(((za l0 x5_1).f5.f3) == ((za l1 x5_1).f5.f3)))))))))))) = true
     ·rw [if_pos c7] at H
      have c7b0 : (!(((za l0 x5_1).f0) == ((za l1 x5_1).f0)) || (!(((za l0 x5_1).f1) == ((za l1 x5_1).f1)) || (!(((za l0 x5_1).f2) == ((za l1 x5_1).f2)) || (!(((za l0 x5_1).f3) == ((za l1 x5_1).f3)) || (!((((za l0 x5_1).f4).toList) == (((za l1 x5_1).f4).toList)) || ((!(((za l0 x5_1).f5.f0) == ((za l1 x5_1).f5.f0)) || (!(((za l0 x5_1).f5.f1) == ((za l1 x5_1).f5.f1)) || (!(((za l0 x5_1).f5.f2) == ((za l1 x5_1).f5.f2)) || (!(((za l0 x5_1).f5.f3) == ((za l1 x5_1).f5.f3)))))))))))) = true := c7
      clear c7
      obtain rfl := Option.some.inj H
      have p338 : 0 ≤ (x5_1 : Int) := dq
      have q338 : x5_1 < (l0.length : Int) := dq
      obtain ⟨ad338, e338, hx338_0, hx338_1, hx338_2, hx338_3, hx338_4, hx338_5, hx338_6, hx338_7, hx338_8⟩ := zU HR0.out x5_1 p338 q338
      cases e338
      replace p338 := eq_true p338
      replace q338 := eq_true q338
      have p339 : 0 ≤ (x5_1 : Int) := dq
      have q339 : x5_1 < (l1.length : Int) := dq
      obtain ⟨ad339, e339, hx339_0, hx339_1, hx339_2, hx339_3, hx339_4, hx339_5, hx339_6, hx339_7, hx339_8⟩ := zU HR1.out x5_1 p339 q339
      cases e339
      replace p339 := eq_true p339
      replace q339 := eq_true q339
      go_wp2
      repeat (go_quiet (fail); try go_wp2)
      go_ret
      exact ⟨eq0, by repeat (first | exact zi.refl _ | apply zi.step)⟩
     ·rw [if_neg c7] at H
      have c7b0 : (!(((za l0 x5_1).f0) == ((za l1 x5_1).f0)) || (!(((za l0 x5_1).f1) == ((za l1 x5_1).f1)) || (!(((za l0 x5_1).f2) == ((za l1 x5_1).f2)) || (!(((za l0 x5_1).f3) == ((za l1 x5_1).f3)) || (!((((za l0 x5_1).f4).toList) == (((za l1 x5_1).f4).toList)) || ((!(((za l0 x5_1).f5.f0) == ((za l1 x5_1).f5.f0)) || (!(((za l0 x5_1).f5.f1) == ((za l1 x5_1).f5.f1)) || (!(((za l0 x5_1).f5.f2) == ((za l1 x5_1).f5.f2)) || (!(((za l0 x5_1).f5.f3) == ((za l1 x5_1).f5.f3)))))))))))) = false := by simpa using c7
      clear c7
      have H' := zb.mk H
      clear H
      have p338 : 0 ≤ (x5_1 : Int) := dq
      have q338 : x5_1 < (l0.length : Int) := dq
      obtain ⟨ad338, e338, hx338_0, hx338_1, hx338_2, hx338_3, hx338_4, hx338_5, hx338_6, hx338_7, hx338_8⟩ := zU HR0.out x5_1 p338 q338
      cases e338
      replace p338 := eq_true p338
      replace q338 := eq_true q338
      have p339 : 0 ≤ (x5_1 : Int) := dq
      have q339 : x5_1 < (l1.length : Int) := dq
      obtain ⟨ad339, e339, hx339_0, hx339_1, hx339_2, hx339_3, hx339_4, hx339_5, hx339_6, hx339_7, hx339_8⟩ := zU HR1.out x5_1 p339 q339
      cases e339
      replace p339 := eq_true p339
      replace q339 := eq_true q339
      go_wp2
      repeat (go_quiet (fail); try go_wp2)
      go_roundg k1
      case measure => have := HK1.out; omega
      case rel => exact ⟨(wrap64 (x5_1 + 1)), eq0, H', ⟨by have := HK1.out; omega⟩, by repeat (first | exact zi.refl _ | apply zi.step)⟩
    ·rw [if_neg c4] at H
     have c4b0 := decide_eq_false c4
     clear c4
     obtain rfl := Option.some.inj H
     go_wp2
     go_ret
     exact ⟨eq0, by repeat (first | exact zi.refl _ | apply zi.step)⟩
 ·rw [if_neg c3] at H
  have c3b0 := beq_eq_false_iff_ne.mpr c3
  have c3b1 := bne_iff_ne.mpr c3
  have c3b2 : (l0.length == l1.length) = false := by (simp at c3 ⊢; omega)
  obtain rfl := Option.some.inj H
  go_enter Tryd.func16, Tryd.ntmps16
  go_wp2
  go_ret
  exact ⟨eq0, by repeat (exact zi.refl _)⟩
end Go.Proofs.YtnpeabmlcakegaaDoor.PAll
namespace Go.Proofs.YtnpeabmlcakegaaDoor.PAll
open Go.RowKit Go.Proofs.YtnpeabmlcakegaaDoorW.PrintWords Go.Proofs.YtnpeabmlcakegaaDoorW.PrintLast Go.Proofs.YtnpeabmlcakegaaDoorW.PrintMore
attribute [local go_sem] z9 qe ql xb xa xp xn qL qK qZ qY
set_option linter.unusedVariables false
set_option linter.unusedSimpArgs false
def zX.f (a0 : Int) : Option (Int × ByteArray × Bool) := if a0 = 1 then (some (0, (⟨#[97, 110, 121]⟩ : ByteArray), true)) else (if a0 = 2 then (some (4, (⟨#[99, 104, 97, 114]⟩ : ByteArray), true)) else (if a0 = 3 then (some (16, (⟨#[115, 101, 116]⟩ : ByteArray), true)) else (if a0 = 4 then (some (1, (⟨#[116, 101, 115, 116, 97, 110, 121]⟩ : ByteArray), true)) else (if a0 = 5 then (some (5, (⟨#[116, 101, 115, 116, 99, 104, 97, 114]⟩ : ByteArray), true)) else (if a0 = 6 then (some (17, (⟨#[116, 101, 115, 116, 115, 101, 116]⟩ : ByteArray), true)) else (if a0 = 7 then (some (16, (⟨#[115, 112, 97, 110]⟩ : ByteArray), true)) else (if a0 = 8 then (some (1, (⟨#[99, 104, 111, 105, 99, 101]⟩ : ByteArray), true)) else (if a0 = 9 then (some (1, (⟨#[99, 111, 109, 109, 105, 116]⟩ : ByteArray), false)) else (if a0 = 10 then (some (1, (⟨#[112, 97, 114, 116, 105, 97, 108]⟩ : ByteArray), false)) else (if a0 = 11 then (some (1, (⟨#[98, 97, 99, 107]⟩ : ByteArray), false)) else (if a0 = 12 then (some (0, (⟨#[116, 119, 105, 99, 101]⟩ : ByteArray), false)) else (if a0 = 13 then (some (0, (⟨#[102, 97, 105, 108]⟩ : ByteArray), false)) else (if a0 = 14 then (some (1, (⟨#[106, 117, 109, 112]⟩ : ByteArray), false)) else (if a0 = 15 then (some (1, (⟨#[99, 97, 108, 108]⟩ : ByteArray), true)) else (if a0 = 16 then (some (0, (⟨#[114, 101, 116]⟩ : ByteArray), false)) else (if a0 = 17 then (some (0, (⟨#[101, 110, 100]⟩ : ByteArray), false)) else (if a0 = 18 then (some (8, (⟨#[111, 112, 101, 110]⟩ : ByteArray), true)) else (if a0 = 19 then (some (0, (⟨#[99, 108, 111, 115, 101]⟩ : ByteArray), true)) else (if a0 = 20 then (some (10, (⟨#[102, 117, 108, 108]⟩ : ByteArray), true)) else (some (0, (⟨#[]⟩ : ByteArray), false)))))))))))))))))))))
theorem zX.calls (a0 r1 : Int) (r2 : ByteArray) (r3 : Bool) (w : World) (hG : GW w) (h : zX.f a0 = some (r1, r2, r3)) :
  Calls Tryd.prog 39 #[.int .i64 a0] w fun e w' => e = .returned (.tuple #[.int .i64 r1, .string r2, .bool r3]) ∧ zi w w' := by
 have HG := zb.mk hG
 clear hG
 have H : (if a0 = 1 then (some (0, (⟨#[97, 110, 121]⟩ : ByteArray), true)) else (if a0 = 2 then (some (4, (⟨#[99, 104, 97, 114]⟩ : ByteArray), true)) else (if a0 = 3 then (some (16, (⟨#[115, 101, 116]⟩ : ByteArray), true)) else (if a0 = 4 then (some (1, (⟨#[116, 101, 115, 116, 97, 110, 121]⟩ : ByteArray), true)) else (if a0 = 5 then (some (5, (⟨#[116, 101, 115, 116, 99, 104, 97, 114]⟩ : ByteArray), true)) else (if a0 = 6 then (some (17, (⟨#[116, 101, 115, 116, 115, 101, 116]⟩ : ByteArray), true)) else (if a0 = 7 then (some (16, (⟨#[115, 112, 97, 110]⟩ : ByteArray), true)) else (if a0 = 8 then (some (1, (⟨#[99, 104, 111, 105, 99, 101]⟩ : ByteArray), true)) else (if a0 = 9 then (some (1, (⟨#[99, 111, 109, 109, 105, 116]⟩ : ByteArray), false)) else (if a0 = 10 then (some (1, (⟨#[112, 97, 114, 116, 105, 97, 108]⟩ : ByteArray), false)) else (if a0 = 11 then (some (1, (⟨#[98, 97, 99, 107]⟩ : ByteArray), false)) else (if a0 = 12 then (some (0, (⟨#[116, 119, 105, 99, 101]⟩ : ByteArray), false)) else (if a0 = 13 then (some (0, (⟨#[102, 97, 105, 108]⟩ : ByteArray), false)) else (if a0 = 14 then (some (1, (⟨#[106, 117, 109, 112]⟩ : ByteArray), false)) else (if a0 = 15 then (some (1, (⟨#[99, 97, 108, 108]⟩ : ByteArray), true)) else (if a0 = 16 then (some (0, (⟨#[114, 101, 116]⟩ : ByteArray), false)) else (if a0 = 17 then (some (0, (⟨#[101, 110, 100]⟩ : ByteArray), false)) else (if a0 = 18 then (some (8, (⟨#[111, 112, 101, 110]⟩ : ByteArray), true)) else (if a0 = 19 then (some (0, (⟨#[99, 108, 111, 115, 101]⟩ : ByteArray), true)) else (if a0 = 20 then (some (10, (⟨#[102, 117, 108, 108]⟩ : ByteArray), true)) else (some (0, (⟨#[]⟩ : ByteArray), false)))))))))))))))))))))) = some (r1, r2, r3) := h
 clear h
 by_cases c2 : a0 = 1
 ·rw [if_pos c2] at H
  have c2b0 := beq_iff_eq.mpr c2
  have c2b1 := bne_eq_false_iff_eq.mpr c2
  clear c2
  simp only [Option.some.injEq, Prod.mk.injEq] at H
  obtain ⟨rfl, rfl, rfl⟩ := H
  go_enter Tryd.func39, Tryd.ntmps39
  go_wp2
  go_ret3
  exact ⟨eq0, by repeat (exact zi.refl _)⟩
 ·rw [if_neg c2] at H
  have c2b0 := beq_eq_false_iff_ne.mpr c2
  have c2b1 := bne_iff_ne.mpr c2
  by_cases c3 : a0 = 2
  ·rw [if_pos c3] at H
   have c3b0 := beq_iff_eq.mpr c3
   have c3b1 := bne_eq_false_iff_eq.mpr c3
   clear c3
   simp only [Option.some.injEq, Prod.mk.injEq] at H
   obtain ⟨rfl, rfl, rfl⟩ := H
   go_enter Tryd.func39, Tryd.ntmps39
   go_wp2
   go_ret3
   exact ⟨eq0, by repeat (exact zi.refl _)⟩
  ·rw [if_neg c3] at H
   have c3b0 := beq_eq_false_iff_ne.mpr c3
   have c3b1 := bne_iff_ne.mpr c3
   by_cases c4 : a0 = 3
   ·rw [if_pos c4] at H
    have c4b0 := beq_iff_eq.mpr c4
    have c4b1 := bne_eq_false_iff_eq.mpr c4
    clear c4
    simp only [Option.some.injEq, Prod.mk.injEq] at H
    obtain ⟨rfl, rfl, rfl⟩ := H
    go_enter Tryd.func39, Tryd.ntmps39
    go_wp2
    go_ret3
    exact ⟨eq0, by repeat (exact zi.refl _)⟩
   ·rw [if_neg c4] at H
    have c4b0 := beq_eq_false_iff_ne.mpr c4
    have c4b1 := bne_iff_ne.mpr c4
    by_cases c5 : a0 = 4
    ·rw [if_pos c5] at H
     have c5b0 := beq_iff_eq.mpr c5
     have c5b1 := bne_eq_false_iff_eq.mpr c5
     clear c5
     simp only [Option.some.injEq, Prod.mk.injEq] at H
     obtain ⟨rfl, rfl, rfl⟩ := H
     go_enter Tryd.func39, Tryd.ntmps39
     go_wp2
     go_ret3
     exact ⟨eq0, by repeat (exact zi.refl _)⟩
    ·rw [if_neg c5] at H
     have c5b0 := beq_eq_false_iff_ne.mpr c5
     have c5b1 := bne_iff_ne.mpr c5
     by_cases c6 : a0 = 5
     ·rw [if_pos c6] at H
      have c6b0 := beq_iff_eq.mpr c6
      have c6b1 := bne_eq_false_iff_eq.mpr c6
      clear c6
      simp only [Option.some.injEq, Prod.mk.injEq] at H
      obtain ⟨rfl, rfl, rfl⟩ := H
      go_enter Tryd.func39, Tryd.ntmps39
      go_wp2
      go_ret3
      exact ⟨eq0, by repeat (exact zi.refl _)⟩
     ·rw [if_neg c6] at H
      have c6b0 := beq_eq_false_iff_ne.mpr c6
      have c6b1 := bne_iff_ne.mpr c6
      by_cases c7 : a0 = 6
      ·rw [if_pos c7] at H
       have c7b0 := beq_iff_eq.mpr c7
       have c7b1 := bne_eq_false_iff_eq.mpr c7
       clear c7
       simp only [Option.some.injEq, Prod.mk.injEq] at H
       obtain ⟨rfl, rfl, rfl⟩ := H
       go_enter Tryd.func39, Tryd.ntmps39
       go_wp2
       go_ret3
       exact ⟨eq0, by repeat (exact zi.refl _)⟩
      ·rw [if_neg c7] at H
       have c7b0 := beq_eq_false_iff_ne.mpr c7
       have c7b1 := bne_iff_ne.mpr c7
       by_cases c8 : a0 = 7
       ·rw [if_pos c8] at H
        have c8b0 := beq_iff_eq.mpr c8
        have c8b1 := bne_eq_false_iff_eq.mpr c8
        clear c8
        simp only [Option.some.injEq, Prod.mk.injEq] at H
        obtain ⟨rfl, rfl, rfl⟩ := H
        go_enter Tryd.func39, Tryd.ntmps39
        go_wp2
        go_ret3
        exact ⟨eq0, by repeat (exact zi.refl _)⟩
       ·rw [if_neg c8] at H
        have c8b0 := beq_eq_false_iff_ne.mpr c8
        have c8b1 := bne_iff_ne.mpr c8
        by_cases c9 : a0 = 8
        ·rw [if_pos c9] at H
         have c9b0 := beq_iff_eq.mpr c9
         have c9b1 := bne_eq_false_iff_eq.mpr c9
         clear c9
         simp only [Option.some.injEq, Prod.mk.injEq] at H
         obtain ⟨rfl, rfl, rfl⟩ := H
         go_enter Tryd.func39, Tryd.ntmps39
         go_wp2
         go_ret3
         exact ⟨eq0, by repeat (exact zi.refl _)⟩
        ·rw [if_neg c9] at H
         have c9b0 := beq_eq_false_iff_ne.mpr c9
         have c9b1 := bne_iff_ne.mpr c9
         by_cases c10 : a0 = 9
         ·rw [if_pos c10] at H
          have c10b0 := beq_iff_eq.mpr c10
          have c10b1 := bne_eq_false_iff_eq.mpr c10
          clear c10
          simp only [Option.some.injEq, Prod.mk.injEq] at H
          obtain ⟨rfl, rfl, rfl⟩ := H
          go_enter Tryd.func39, Tryd.ntmps39
          go_wp2
          go_ret3
          exact ⟨eq0, by repeat (exact zi.refl _)⟩
         ·rw [if_neg c10] at H
          have c10b0 := beq_eq_false_iff_ne.mpr c10
          have c10b1 := bne_iff_ne.mpr c10
          by_cases c11 : a0 = 10
          ·rw [if_pos c11] at H
           have c11b0 := beq_iff_eq.mpr c11
           have c11b1 := bne_eq_false_iff_eq.mpr c11
           clear c11
           simp only [Option.some.injEq, Prod.mk.injEq] at H
           obtain ⟨rfl, rfl, rfl⟩ := H
           go_enter Tryd.func39, Tryd.ntmps39
           go_wp2
           go_ret3
           exact ⟨eq0, by repeat (exact zi.refl _)⟩
          ·rw [if_neg c11] at H
           have c11b0 := beq_eq_false_iff_ne.mpr c11
           have c11b1 := bne_iff_ne.mpr c11
           by_cases c12 : a0 = 11
           ·rw [if_pos c12] at H
            have c12b0 := beq_iff_eq.mpr c12
            have c12b1 := bne_eq_false_iff_eq.mpr c12
            clear c12
            simp only [Option.some.injEq, Prod.mk.injEq] at H
            obtain ⟨rfl, rfl, rfl⟩ := H
            go_enter Tryd.func39, Tryd.ntmps39
            go_wp2
            go_ret3
            exact ⟨eq0, by repeat (exact zi.refl _)⟩
           ·rw [if_neg c12] at H
            have c12b0 := beq_eq_false_iff_ne.mpr c12
            have c12b1 := bne_iff_ne.mpr c12
            by_cases c13 : a0 = 12
            ·rw [if_pos c13] at H
             have c13b0 := beq_iff_eq.mpr c13
             have c13b1 := bne_eq_false_iff_eq.mpr c13
             clear c13
             simp only [Option.some.injEq, Prod.mk.injEq] at H
             obtain ⟨rfl, rfl, rfl⟩ := H
             go_enter Tryd.func39, Tryd.ntmps39
             go_wp2
             go_ret3
             exact ⟨eq0, by repeat (exact zi.refl _)⟩
            ·rw [if_neg c13] at H
             have c13b0 := beq_eq_false_iff_ne.mpr c13
             have c13b1 := bne_iff_ne.mpr c13
             by_cases c14 : a0 = 13
             ·rw [if_pos c14] at H
              have c14b0 := beq_iff_eq.mpr c14
              have c14b1 := bne_eq_false_iff_eq.mpr c14
              clear c14
              simp only [Option.some.injEq, Prod.mk.injEq] at H
              obtain ⟨rfl, rfl, rfl⟩ := H
              go_enter Tryd.func39, Tryd.ntmps39
              go_wp2
              go_ret3
              exact ⟨eq0, by repeat (exact zi.refl _)⟩
             ·rw [if_neg c14] at H
              have c14b0 := beq_eq_false_iff_ne.mpr c14
              have c14b1 := bne_iff_ne.mpr c14
              by_cases c15 : a0 = 14
              ·rw [if_pos c15] at H
               have c15b0 := beq_iff_eq.mpr c15
               have c15b1 := bne_eq_false_iff_eq.mpr c15
               clear c15
               simp only [Option.some.injEq, Prod.mk.injEq] at H
               obtain ⟨rfl, rfl, rfl⟩ := H
               go_enter Tryd.func39, Tryd.ntmps39
               go_wp2
               go_ret3
               exact ⟨eq0, by repeat (exact zi.refl _)⟩
              ·rw [if_neg c15] at H
               have c15b0 := beq_eq_false_iff_ne.mpr c15
               have c15b1 := bne_iff_ne.mpr c15
               by_cases c16 : a0 = 15
               ·rw [if_pos c16] at H
                have c16b0 := beq_iff_eq.mpr c16
                have c16b1 := bne_eq_false_iff_eq.mpr c16
                clear c16
                simp only [Option.some.injEq, Prod.mk.injEq] at H
                obtain ⟨rfl, rfl, rfl⟩ := H
                go_enter Tryd.func39, Tryd.ntmps39
                go_wp2
                go_ret3
                exact ⟨eq0, by repeat (exact zi.refl _)⟩
               ·rw [if_neg c16] at H
                have c16b0 := beq_eq_false_iff_ne.mpr c16
                have c16b1 := bne_iff_ne.mpr c16
                by_cases c17 : a0 = 16
                ·rw [if_pos c17] at H
                 have c17b0 := beq_iff_eq.mpr c17
                 have c17b1 := bne_eq_false_iff_eq.mpr c17
                 clear c17
                 simp only [Option.some.injEq, Prod.mk.injEq] at H
                 obtain ⟨rfl, rfl, rfl⟩ := H
                 go_enter Tryd.func39, Tryd.ntmps39
                 go_wp2
                 go_ret3
                 exact ⟨eq0, by repeat (exact zi.refl _)⟩
                ·rw [if_neg c17] at H
                 have c17b0 := beq_eq_false_iff_ne.mpr c17
                 have c17b1 := bne_iff_ne.mpr c17
                 by_cases c18 : a0 = 17
                 ·rw [if_pos c18] at H
                  have c18b0 := beq_iff_eq.mpr c18
                  have c18b1 := bne_eq_false_iff_eq.mpr c18
                  clear c18
                  simp only [Option.some.injEq, Prod.mk.injEq] at H
                  obtain ⟨rfl, rfl, rfl⟩ := H
                  go_enter Tryd.func39, Tryd.ntmps39
                  go_wp2
                  go_ret3
                  exact ⟨eq0, by repeat (exact zi.refl _)⟩
                 ·rw [if_neg c18] at H
                  have c18b0 := beq_eq_false_iff_ne.mpr c18
                  have c18b1 := bne_iff_ne.mpr c18
                  by_cases c19 : a0 = 18
                  ·rw [if_pos c19] at H
                   have c19b0 := beq_iff_eq.mpr c19
                   have c19b1 := bne_eq_false_iff_eq.mpr c19
                   clear c19
                   simp only [Option.some.injEq, Prod.mk.injEq] at H
                   obtain ⟨rfl, rfl, rfl⟩ := H
                   go_enter Tryd.func39, Tryd.ntmps39
                   go_wp2
                   go_ret3
                   exact ⟨eq0, by repeat (exact zi.refl _)⟩
                  ·rw [if_neg c19] at H
                   have c19b0 := beq_eq_false_iff_ne.mpr c19
                   have c19b1 := bne_iff_ne.mpr c19
                   by_cases c20 : a0 = 19
                   ·rw [if_pos c20] at H
                    have c20b0 := beq_iff_eq.mpr c20
                    have c20b1 := bne_eq_false_iff_eq.mpr c20
                    clear c20
                    simp only [Option.some.injEq, Prod.mk.injEq] at H
                    obtain ⟨rfl, rfl, rfl⟩ := H
                    go_enter Tryd.func39, Tryd.ntmps39
                    go_wp2
                    go_ret3
                    exact ⟨eq0, by repeat (exact zi.refl _)⟩
                   ·rw [if_neg c20] at H
                    have c20b0 := beq_eq_false_iff_ne.mpr c20
                    have c20b1 := bne_iff_ne.mpr c20
                    by_cases c21 : a0 = 20
                    ·rw [if_pos c21] at H
                     have c21b0 := beq_iff_eq.mpr c21
                     have c21b1 := bne_eq_false_iff_eq.mpr c21
                     clear c21
                     simp only [Option.some.injEq, Prod.mk.injEq] at H
                     obtain ⟨rfl, rfl, rfl⟩ := H
                     go_enter Tryd.func39, Tryd.ntmps39
                     go_wp2
                     go_ret3
                     exact ⟨eq0, by repeat (exact zi.refl _)⟩
                    ·rw [if_neg c21] at H
                     have c21b0 := beq_eq_false_iff_ne.mpr c21
                     have c21b1 := bne_iff_ne.mpr c21
                     simp only [Option.some.injEq, Prod.mk.injEq] at H
                     obtain ⟨rfl, rfl, rfl⟩ := H
                     go_enter Tryd.func39, Tryd.ntmps39
                     go_wp2
                     go_ret3
                     exact ⟨eq0, by repeat (exact zi.refl _)⟩
def zr.f (a0 : Int) (a1 : Int) : Option (Bool) := if a1 = 0 then (none) else (some ((Int.tmod (wrap64 (Int.tdiv a0 a1)) 2) == 1))
theorem zr.calls (a0 a1 : Int) (r : Bool) (w : World) (hG : GW w) (h : zr.f a0 a1 = some r) :
  Calls Tryd.prog 41 #[.int .i64 a0, .int .i64 a1] w fun e w' => e = .returned (.bool r) ∧ zi w w' := by
 have HG := zb.mk hG
 clear hG
 have H : (if a1 = 0 then (none) else (some ((Int.tmod (wrap64 (Int.tdiv a0 a1)) 2) == 1))) = some r := h
 clear h
 replace H := iteN H; obtain ⟨c3, H⟩ := H
 have c3b0 := beq_eq_false_iff_ne.mpr c3
 have c3b1 := bne_iff_ne.mpr c3
 obtain rfl := Option.some.inj H
 go_enter Tryd.func41, Tryd.ntmps41
 go_wp2
 go_ret
 exact ⟨eq0, by repeat (exact zi.refl _)⟩
def zv.f (a0 : Int) : Option (Bool) := (zX.f a0).bind fun bt340 => ((zr.f bt340.1 1).bind fun t343 => (some t343))
theorem zv.calls (a0 : Int) (r : Bool) (w : World) (hG : GW w) (h : zv.f a0 = some r) :
  Calls Tryd.prog 19 #[.int .i64 a0] w fun e w' => e = .returned (.bool r) ∧ zi w w' := by
 have HG := zb.mk hG
 clear hG
 have H : ((zX.f a0).bind fun bt340 => ((zr.f bt340.1 1).bind fun t343 => (some t343))) = some r := h
 clear h
 replace H := zO H; obtain ⟨⟨t340, t341, t342⟩, A2, H⟩ := H; try dsimp only at H
 replace H := zO H; obtain ⟨t343, A3, H⟩ := H
 obtain rfl := Option.some.inj H
 go_enter Tryd.func19, Tryd.ntmps19
 go_wp2_with (first | ((with_reducible refine zc (f := 39) rfl ?_); refine zh (some 8) rfl rfl Tryd.func39 (by kernel_rfl) rfl #[.int .i64 a0] rfl hq ?_; (with_reducible refine (zX.calls a0 t340 t341 t342 _ ?side1 A2.out).mono ?_); (case side1 => repeat (exact HG.out)); rintro e w' ⟨rfl, ⟨nd, rfl⟩⟩; refine ⟨_, rfl, ?_⟩) | ((with_reducible refine zc (f := 41) rfl ?_); refine zh (some 13) rfl rfl Tryd.func41 (by kernel_rfl) rfl #[.int .i64 t340, .int .i64 1] rfl hq ?_; (with_reducible refine (zr.calls t340 1 t343 _ ?side1 A3.out).mono ?_); (case side1 => repeat (exact HG.out)); rintro e w' ⟨rfl, ⟨nd, rfl⟩⟩; refine ⟨_, rfl, ?_⟩))
 go_ret
 exact ⟨eq0, by repeat (first | exact zi.refl _ | apply zi.step)⟩
mutual
def zn.j0 : Nat → ByteArray → Bool → Option (Bool)
 | 0, _, _ => none
 | k + 1, x0, x22 => if x22 = true then (some false) else (zn.l0 k x0 0)
def zn.l0 : Nat → ByteArray → Int → Option (Bool)
 | 0, _, _ => none
 | k + 1, x0, x3 => if x3 < (x0.size : Int) then (if 0 ≤ x3 then (if (bt x0 x3) ≥ 97 then (if (bt x0 x3) ≤ 122 then (zn.l0 k x0 (wrap64 (x3 + 1))) else (if (bt x0 x3) ≥ 65 then (if (bt x0 x3) ≤ 90 then (zn.l0 k x0 (wrap64 (x3 + 1))) else (if (bt x0 x3) ≥ 48 then (if (bt x0 x3) ≤ 57 then (zn.l0 k x0 (wrap64 (x3 + 1))) else (if ((bt x0 x3) = 95) then (zn.l0 k x0 (wrap64 (x3 + 1))) else (some false))) else (if ((bt x0 x3) = 95) then (zn.l0 k x0 (wrap64 (x3 + 1))) else (some false)))) else (if (bt x0 x3) ≥ 48 then (if (bt x0 x3) ≤ 57 then (zn.l0 k x0 (wrap64 (x3 + 1))) else (if ((bt x0 x3) = 95) then (zn.l0 k x0 (wrap64 (x3 + 1))) else (some false))) else (if ((bt x0 x3) = 95) then (zn.l0 k x0 (wrap64 (x3 + 1))) else (some false))))) else (if (bt x0 x3) ≥ 65 then (if (bt x0 x3) ≤ 90 then (zn.l0 k x0 (wrap64 (x3 + 1))) else (if (bt x0 x3) ≥ 48 then (if (bt x0 x3) ≤ 57 then (zn.l0 k x0 (wrap64 (x3 + 1))) else (if ((bt x0 x3) = 95) then (zn.l0 k x0 (wrap64 (x3 + 1))) else (some false))) else (if ((bt x0 x3) = 95) then (zn.l0 k x0 (wrap64 (x3 + 1))) else (some false)))) else (if (bt x0 x3) ≥ 48 then (if (bt x0 x3) ≤ 57 then (zn.l0 k x0 (wrap64 (x3 + 1))) else (if ((bt x0 x3) = 95) then (zn.l0 k x0 (wrap64 (x3 + 1))) else (some false))) else (if ((bt x0 x3) = 95) then (zn.l0 k x0 (wrap64 (x3 + 1))) else (some false))))) else (none)) else (some true)
end
def zn.f (k : Nat) (a0 : ByteArray) : Option (Bool) := if (a0.size : Int) < 1 then (zn.j0 k a0 true) else (if (a0.size : Int) > 32 then (zn.j0 k a0 true) else (if 0 < (a0.size : Int) then (if (bt a0 0) ≥ 48 then (zn.j0 k a0 (decide ((bt a0 0) ≤ 57))) else (zn.j0 k a0 false)) else (none)))
theorem zn.calls (k : Nat) (a0 : ByteArray) (r : Bool) (w : World) (hG : GW w) (h : zn.f k a0 = some r) :
  Calls Tryd.prog 63 #[.string a0] w fun e w' => e = .returned (.bool r) ∧ zi w w' := by
 have HG := zb.mk hG
 clear hG
 have H : (if (a0.size : Int) < 1 then (zn.j0 k a0 true) else (if (a0.size : Int) > 32 then (zn.j0 k a0 true) else (if 0 < (a0.size : Int) then (if (bt a0 0) ≥ 48 then (zn.j0 k a0 (decide ((bt a0 0) ≤ 57))) else (zn.j0 k a0 false)) else (none)))) = some r := h
 clear h
 have HC2 := zb.mk H
 clear H
 go_enter Tryd.func63, Tryd.ntmps63
 go_upto_region 1 with (fail)
 go_cut [22] (fun v22 wc => ∃ (kq : Nat) (x22_1 : Bool), v22 = .bool x22_1 ∧ zb (zn.j0 kq a0 x22_1 = some r) ∧ zb (kq ≤ k) ∧ zi w wc)
 case first =>
  have H := HC2.out
  clear HC2
  by_cases c3 : (a0.size : Int) < 1
  ·rw [if_pos c3] at H
   have c3b0 := decide_eq_true c3
   have c3b1 : decide (a0.size < 1) = true := decide_eq_true (by omega)
   clear c3
   (skip)
   have H' := zb.mk H
   clear H
   go_wp2
   go_meet
   case rel => exact ⟨_, (true), eq0, H', ⟨by omega⟩, by repeat (exact zi.refl _)⟩
  ·rw [if_neg c3] at H
   have c3b0 := decide_eq_false c3
   have c3b1 : decide (a0.size < 1) = false := decide_eq_false (by omega)
   clear c3
   (skip)
   by_cases c4 : (a0.size : Int) > 32
   ·rw [if_pos c4] at H
    have c4b0 := decide_eq_true c4
    have c4b1 : decide (32 < a0.size) = true := decide_eq_true (by omega)
    clear c4
    have H' := zb.mk H
    clear H
    go_wp2
    go_meet
    case rel => exact ⟨_, (true), eq0, H', ⟨by omega⟩, by repeat (exact zi.refl _)⟩
   ·rw [if_neg c4] at H
    have c4b0 := decide_eq_false c4
    have c4b1 : decide (32 < a0.size) = false := decide_eq_false (by omega)
    clear c4
    replace H := qh H; obtain ⟨c5, H⟩ := H
    have c5b0 := decide_eq_true c5
    have c5b1 : decide (0 < a0.size) = true := decide_eq_true (by omega)
    clear c5
    by_cases c7 : (bt a0 0) ≥ 48
    ·rw [if_pos c7] at H
     have c7b0 := decide_eq_true c7
     clear c7
     have H' := zb.mk H
     clear H
     have p6 : 0 ≤ (0 : Int) := (by omega)
     have q6 : 0 < a0.size := (by have : (0 : Int) < (a0.size : Int) := dq; omega)
     have hx6 : ∀ h : 0 < a0.size, ((a0[0]'h).toNat : Int) = bt a0 0 := qJ a0 0
     clear p6
     have qi6 : (0 < (a0.size : Int)) = True := eq_true (dq)
     replace q6 := eq_true q6
     have p8 : 0 ≤ (0 : Int) := (by omega)
     have q8 : 0 < a0.size := (by have : (0 : Int) < (a0.size : Int) := dq; omega)
     have hx8 : ∀ h : 0 < a0.size, ((a0[0]'h).toNat : Int) = bt a0 0 := qJ a0 0
     clear p8
     have qi8 : (0 < (a0.size : Int)) = True := eq_true (dq)
     replace q8 := eq_true q8
     go_wp2
     go_meet
     case rel => exact ⟨_, (decide ((bt a0 0) ≤ 57)), eq0, H', ⟨by omega⟩, by repeat (exact zi.refl _)⟩
    ·rw [if_neg c7] at H
     have c7b0 := decide_eq_false c7
     clear c7
     have H' := zb.mk H
     clear H
     have p6 : 0 ≤ (0 : Int) := (by omega)
     have q6 : 0 < a0.size := (by have : (0 : Int) < (a0.size : Int) := dq; omega)
     have hx6 : ∀ h : 0 < a0.size, ((a0[0]'h).toNat : Int) = bt a0 0 := qJ a0 0
     clear p6
     have qi6 : (0 < (a0.size : Int)) = True := eq_true (dq)
     replace q6 := eq_true q6
     go_wp2
     go_meet
     case rel => exact ⟨_, (false), eq0, H', ⟨by omega⟩, by repeat (exact zi.refl _)⟩
 case rest =>
  clear HC2
  obtain ⟨kq, x22_1, rfl, HA, HJ1, ⟨mc1, rfl⟩⟩ := hcut
  cases kq with
  | zero => exact absurd HA.out (by simp [zn.j0])
  | succ kj1 =>
   have H := HA.out
   clear HA
   simp only [zn.j0] at H
   by_cases c9 : x22_1 = true
   ·subst c9
    replace H := ifT H
    obtain rfl := Option.some.inj H
    go_wp2
    go_ret
    exact ⟨eq0, by repeat (first | exact zi.refl _ | apply zi.step)⟩
   ·replace c9 := Bool.eq_false_iff.mpr c9
    subst c9
    replace H := ifF H
    have H' := zb.mk H
    clear H
    go_wp2
    go_loopg [3] kj1 (fun kq v3 w' => ∃ (x3_2 : Int), v3 = .int .i64 x3_2 ∧ zb (zn.l0 kq a0 x3_2 = some r) ∧ zb (kq ≤ kj1) ∧ zi w w')
    case atStart => exact ⟨(0), eq0, H', ⟨Nat.le_refl _⟩, by repeat (first | exact zi.refl _ | apply zi.step)⟩
    case round =>
     clear H'
     obtain ⟨x3_2, rfl, HA, HK2, ⟨m2, rfl⟩⟩ := hrel
     cases gk with
     | zero => exact absurd HA.out (by simp [zn.l0])
     | succ k2 =>
      have H := HA.out
      clear HA
      simp only [zn.l0] at H
      by_cases c10 : x3_2 < (a0.size : Int)
      ·rw [if_pos c10] at H
       have c10b0 := decide_eq_true c10
       clear c10
       replace H := qh H; obtain ⟨c11, H⟩ := H
       have c11b0 := decide_eq_true c11
       clear c11
       by_cases c13 : (bt a0 x3_2) ≥ 97
       ·rw [if_pos c13] at H
        have c13b0 := decide_eq_true c13
        clear c13
        by_cases c14 : (bt a0 x3_2) ≤ 122
        ·rw [if_pos c14] at H
         have c14b0 := decide_eq_true c14
         clear c14
         have H' := zb.mk H
         clear H
         have p12 : 0 ≤ (x3_2 : Int) := dq
         have q12 : x3_2 < (a0.size : Int) := dq
         have hx12 := qJ a0 x3_2
         replace p12 := eq_true p12
         replace q12 := eq_true q12
         go_wp2
         go_roundg k2
         case measure => have := HJ1.out; have := HK2.out; omega
         case rel => exact ⟨(wrap64 (x3_2 + 1)), eq0, H', ⟨by have := HJ1.out; have := HK2.out; omega⟩, by repeat (first | exact zi.refl _ | apply zi.step)⟩
        ·rw [if_neg c14] at H
         have c14b0 := decide_eq_false c14
         clear c14
         by_cases c15 : (bt a0 x3_2) ≥ 65
         ·rw [if_pos c15] at H
          have c15b0 := decide_eq_true c15
          clear c15
          by_cases c16 : (bt a0 x3_2) ≤ 90
          ·rw [if_pos c16] at H
           have c16b0 := decide_eq_true c16
           clear c16
           have H' := zb.mk H
           clear H
           have p12 : 0 ≤ (x3_2 : Int) := dq
           have q12 : x3_2 < (a0.size : Int) := dq
           have hx12 := qJ a0 x3_2
           replace p12 := eq_true p12
           replace q12 := eq_true q12
           go_wp2
           go_roundg k2
           case measure => have := HJ1.out; have := HK2.out; omega
           case rel => exact ⟨(wrap64 (x3_2 + 1)), eq0, H', ⟨by have := HJ1.out; have := HK2.out; omega⟩, by repeat (first | exact zi.refl _ | apply zi.step)⟩
          ·rw [if_neg c16] at H
           have c16b0 := decide_eq_false c16
           clear c16
           by_cases c17 : (bt a0 x3_2) ≥ 48
           ·rw [if_pos c17] at H
            have c17b0 := decide_eq_true c17
            clear c17
            by_cases c18 : (bt a0 x3_2) ≤ 57
            ·rw [if_pos c18] at H
             have c18b0 := decide_eq_true c18
             clear c18
             have H' := zb.mk H
             clear H
             have p12 : 0 ≤ (x3_2 : Int) := dq
             have q12 : x3_2 < (a0.size : Int) := dq
             have hx12 := qJ a0 x3_2
             replace p12 := eq_true p12
             replace q12 := eq_true q12
             go_wp2
             go_roundg k2
             case measure => have := HJ1.out; have := HK2.out; omega
             case rel => exact ⟨(wrap64 (x3_2 + 1)), eq0, H', ⟨by have := HJ1.out; have := HK2.out; omega⟩, by repeat (first | exact zi.refl _ | apply zi.step)⟩
            ·rw [if_neg c18] at H
             have c18b0 := decide_eq_false c18
             clear c18
             by_cases c19 : ((bt a0 x3_2) = 95)
             ·rw [if_pos c19] at H
              have c19b0 := beq_iff_eq.mpr c19
              have c19b1 := bne_eq_false_iff_eq.mpr c19
              clear c19
              have H' := zb.mk H
              clear H
              have p12 : 0 ≤ (x3_2 : Int) := dq
              have q12 : x3_2 < (a0.size : Int) := dq
              have hx12 := qJ a0 x3_2
              replace p12 := eq_true p12
              replace q12 := eq_true q12
              go_wp2
              go_roundg k2
              case measure => have := HJ1.out; have := HK2.out; omega
              case rel => exact ⟨(wrap64 (x3_2 + 1)), eq0, H', ⟨by have := HJ1.out; have := HK2.out; omega⟩, by repeat (first | exact zi.refl _ | apply zi.step)⟩
             ·rw [if_neg c19] at H
              have c19b0 := beq_eq_false_iff_ne.mpr c19
              have c19b1 := bne_iff_ne.mpr c19
              obtain rfl := Option.some.inj H
              have p12 : 0 ≤ (x3_2 : Int) := dq
              have q12 : x3_2 < (a0.size : Int) := dq
              have hx12 := qJ a0 x3_2
              replace p12 := eq_true p12
              replace q12 := eq_true q12
              go_wp2
              go_ret
              exact ⟨eq0, by repeat (first | exact zi.refl _ | apply zi.step)⟩
           ·rw [if_neg c17] at H
            have c17b0 := decide_eq_false c17
            clear c17
            by_cases c20 : ((bt a0 x3_2) = 95)
            ·rw [if_pos c20] at H
             have c20b0 := beq_iff_eq.mpr c20
             have c20b1 := bne_eq_false_iff_eq.mpr c20
             clear c20
             have H' := zb.mk H
             clear H
             have p12 : 0 ≤ (x3_2 : Int) := dq
             have q12 : x3_2 < (a0.size : Int) := dq
             have hx12 := qJ a0 x3_2
             replace p12 := eq_true p12
             replace q12 := eq_true q12
             go_wp2
             go_roundg k2
             case measure => have := HJ1.out; have := HK2.out; omega
             case rel => exact ⟨(wrap64 (x3_2 + 1)), eq0, H', ⟨by have := HJ1.out; have := HK2.out; omega⟩, by repeat (first | exact zi.refl _ | apply zi.step)⟩
            ·rw [if_neg c20] at H
             have c20b0 := beq_eq_false_iff_ne.mpr c20
             have c20b1 := bne_iff_ne.mpr c20
             obtain rfl := Option.some.inj H
             have p12 : 0 ≤ (x3_2 : Int) := dq
             have q12 : x3_2 < (a0.size : Int) := dq
             have hx12 := qJ a0 x3_2
             replace p12 := eq_true p12
             replace q12 := eq_true q12
             go_wp2
             go_ret
             exact ⟨eq0, by repeat (first | exact zi.refl _ | apply zi.step)⟩
         ·rw [if_neg c15] at H
          have c15b0 := decide_eq_false c15
          clear c15
          by_cases c21 : (bt a0 x3_2) ≥ 48
          ·rw [if_pos c21] at H
           have c21b0 := decide_eq_true c21
           clear c21
           by_cases c22 : (bt a0 x3_2) ≤ 57
           ·rw [if_pos c22] at H
            have c22b0 := decide_eq_true c22
            clear c22
            have H' := zb.mk H
            clear H
            have p12 : 0 ≤ (x3_2 : Int) := dq
            have q12 : x3_2 < (a0.size : Int) := dq
            have hx12 := qJ a0 x3_2
            replace p12 := eq_true p12
            replace q12 := eq_true q12
            go_wp2
            go_roundg k2
            case measure => have := HJ1.out; have := HK2.out; omega
            case rel => exact ⟨(wrap64 (x3_2 + 1)), eq0, H', ⟨by have := HJ1.out; have := HK2.out; omega⟩, by repeat (first | exact zi.refl _ | apply zi.step)⟩
           ·rw [if_neg c22] at H
            have c22b0 := decide_eq_false c22
            clear c22
            by_cases c23 : ((bt a0 x3_2) = 95)
            ·rw [if_pos c23] at H
             have c23b0 := beq_iff_eq.mpr c23
             have c23b1 := bne_eq_false_iff_eq.mpr c23
             clear c23
             have H' := zb.mk H
             clear H
             have p12 : 0 ≤ (x3_2 : Int) := dq
             have q12 : x3_2 < (a0.size : Int) := dq
             have hx12 := qJ a0 x3_2
             replace p12 := eq_true p12
             replace q12 := eq_true q12
             go_wp2
             go_roundg k2
             case measure => have := HJ1.out; have := HK2.out; omega
             case rel => exact ⟨(wrap64 (x3_2 + 1)), eq0, H', ⟨by have := HJ1.out; have := HK2.out; omega⟩, by repeat (first | exact zi.refl _ | apply zi.step)⟩
            ·rw [if_neg c23] at H
             have c23b0 := beq_eq_false_iff_ne.mpr c23
             have c23b1 := bne_iff_ne.mpr c23
             obtain rfl := Option.some.inj H
             have p12 : 0 ≤ (x3_2 : Int) := dq
             have q12 : x3_2 < (a0.size : Int) := dq
             have hx12 := qJ a0 x3_2
             replace p12 := eq_true p12
             replace q12 := eq_true q12
             go_wp2
             go_ret
             exact ⟨eq0, by repeat (first | exact zi.refl _ | apply zi.step)⟩
          ·rw [if_neg c21] at H
           have c21b0 := decide_eq_false c21
           clear c21
           by_cases c24 : ((bt a0 x3_2) = 95)
           ·rw [if_pos c24] at H
            have c24b0 := beq_iff_eq.mpr c24
            have c24b1 := bne_eq_false_iff_eq.mpr c24
            clear c24
            have H' := zb.mk H
            clear H
            have p12 : 0 ≤ (x3_2 : Int) := dq
            have q12 : x3_2 < (a0.size : Int) := dq
            have hx12 := qJ a0 x3_2
            replace p12 := eq_true p12
            replace q12 := eq_true q12
            go_wp2
            go_roundg k2
            case measure => have := HJ1.out; have := HK2.out; omega
            case rel => exact ⟨(wrap64 (x3_2 + 1)), eq0, H', ⟨by have := HJ1.out; have := HK2.out; omega⟩, by repeat (first | exact zi.refl _ | apply zi.step)⟩
           ·rw [if_neg c24] at H
            have c24b0 := beq_eq_false_iff_ne.mpr c24
            have c24b1 := bne_iff_ne.mpr c24
            obtain rfl := Option.some.inj H
            have p12 : 0 ≤ (x3_2 : Int) := dq
            have q12 : x3_2 < (a0.size : Int) := dq
            have hx12 := qJ a0 x3_2
            replace p12 := eq_true p12
            replace q12 := eq_true q12
            go_wp2
            go_ret
            exact ⟨eq0, by repeat (first | exact zi.refl _ | apply zi.step)⟩
       ·rw [if_neg c13] at H
        have c13b0 := decide_eq_false c13
        clear c13
        by_cases c25 : (bt a0 x3_2) ≥ 65
        ·rw [if_pos c25] at H
         have c25b0 := decide_eq_true c25
         clear c25
         by_cases c26 : (bt a0 x3_2) ≤ 90
         ·rw [if_pos c26] at H
          have c26b0 := decide_eq_true c26
          clear c26
          have H' := zb.mk H
          clear H
          have p12 : 0 ≤ (x3_2 : Int) := dq
          have q12 : x3_2 < (a0.size : Int) := dq
          have hx12 := qJ a0 x3_2
          replace p12 := eq_true p12
          replace q12 := eq_true q12
          go_wp2
          go_roundg k2
          case measure => have := HJ1.out; have := HK2.out; omega
          case rel => exact ⟨(wrap64 (x3_2 + 1)), eq0, H', ⟨by have := HJ1.out; have := HK2.out; omega⟩, by repeat (first | exact zi.refl _ | apply zi.step)⟩
         ·rw [if_neg c26] at H
          have c26b0 := decide_eq_false c26
          clear c26
          by_cases c27 : (bt a0 x3_2) ≥ 48
          ·rw [if_pos c27] at H
           have c27b0 := decide_eq_true c27
           clear c27
           by_cases c28 : (bt a0 x3_2) ≤ 57
           ·rw [if_pos c28] at H
            have c28b0 := decide_eq_true c28
            clear c28
            have H' := zb.mk H
            clear H
            have p12 : 0 ≤ (x3_2 : Int) := dq
            have q12 : x3_2 < (a0.size : Int) := dq
            have hx12 := qJ a0 x3_2
            replace p12 := eq_true p12
            replace q12 := eq_true q12
            go_wp2
            go_roundg k2
            case measure => have := HJ1.out; have := HK2.out; omega
            case rel => exact ⟨(wrap64 (x3_2 + 1)), eq0, H', ⟨by have := HJ1.out; have := HK2.out; omega⟩, by repeat (first | exact zi.refl _ | apply zi.step)⟩
           ·rw [if_neg c28] at H
            have c28b0 := decide_eq_false c28
            clear c28
            by_cases c29 : ((bt a0 x3_2) = 95)
            ·rw [if_pos c29] at H
             have c29b0 := beq_iff_eq.mpr c29
             have c29b1 := bne_eq_false_iff_eq.mpr c29
             clear c29
             have H' := zb.mk H
             clear H
             have p12 : 0 ≤ (x3_2 : Int) := dq
             have q12 : x3_2 < (a0.size : Int) := dq
             have hx12 := qJ a0 x3_2
             replace p12 := eq_true p12
             replace q12 := eq_true q12
             go_wp2
             go_roundg k2
             case measure => have := HJ1.out; have := HK2.out; omega
             case rel => exact ⟨(wrap64 (x3_2 + 1)), eq0, H', ⟨by have := HJ1.out; have := HK2.out; omega⟩, by repeat (first | exact zi.refl _ | apply zi.step)⟩
            ·rw [if_neg c29] at H
             have c29b0 := beq_eq_false_iff_ne.mpr c29
             have c29b1 := bne_iff_ne.mpr c29
             obtain rfl := Option.some.inj H
             have p12 : 0 ≤ (x3_2 : Int) := dq
             have q12 : x3_2 < (a0.size : Int) := dq
             have hx12 := qJ a0 x3_2
             replace p12 := eq_true p12
             replace q12 := eq_true q12
             go_wp2
             go_ret
             exact ⟨eq0, by repeat (first | exact zi.refl _ | apply zi.step)⟩
          ·rw [if_neg c27] at H
           have c27b0 := decide_eq_false c27
           clear c27
           by_cases c30 : ((bt a0 x3_2) = 95)
           ·rw [if_pos c30] at H
            have c30b0 := beq_iff_eq.mpr c30
            have c30b1 := bne_eq_false_iff_eq.mpr c30
            clear c30
            have H' := zb.mk H
            clear H
            have p12 : 0 ≤ (x3_2 : Int) := dq
            have q12 : x3_2 < (a0.size : Int) := dq
            have hx12 := qJ a0 x3_2
            replace p12 := eq_true p12
            replace q12 := eq_true q12
            go_wp2
            go_roundg k2
            case measure => have := HJ1.out; have := HK2.out; omega
            case rel => exact ⟨(wrap64 (x3_2 + 1)), eq0, H', ⟨by have := HJ1.out; have := HK2.out; omega⟩, by repeat (first | exact zi.refl _ | apply zi.step)⟩
           ·rw [if_neg c30] at H
            have c30b0 := beq_eq_false_iff_ne.mpr c30
            have c30b1 := bne_iff_ne.mpr c30
            obtain rfl := Option.some.inj H
            have p12 : 0 ≤ (x3_2 : Int) := dq
            have q12 : x3_2 < (a0.size : Int) := dq
            have hx12 := qJ a0 x3_2
            replace p12 := eq_true p12
            replace q12 := eq_true q12
            go_wp2
            go_ret
            exact ⟨eq0, by repeat (first | exact zi.refl _ | apply zi.step)⟩
        ·rw [if_neg c25] at H
         have c25b0 := decide_eq_false c25
         clear c25
         by_cases c31 : (bt a0 x3_2) ≥ 48
         ·rw [if_pos c31] at H
          have c31b0 := decide_eq_true c31
          clear c31
          by_cases c32 : (bt a0 x3_2) ≤ 57
          ·rw [if_pos c32] at H
           have c32b0 := decide_eq_true c32
           clear c32
           have H' := zb.mk H
           clear H
           have p12 : 0 ≤ (x3_2 : Int) := dq
           have q12 : x3_2 < (a0.size : Int) := dq
           have hx12 := qJ a0 x3_2
           replace p12 := eq_true p12
           replace q12 := eq_true q12
           go_wp2
           go_roundg k2
           case measure => have := HJ1.out; have := HK2.out; omega
           case rel => exact ⟨(wrap64 (x3_2 + 1)), eq0, H', ⟨by have := HJ1.out; have := HK2.out; omega⟩, by repeat (first | exact zi.refl _ | apply zi.step)⟩
          ·rw [if_neg c32] at H
           have c32b0 := decide_eq_false c32
           clear c32
           by_cases c33 : ((bt a0 x3_2) = 95)
           ·rw [if_pos c33] at H
            have c33b0 := beq_iff_eq.mpr c33
            have c33b1 := bne_eq_false_iff_eq.mpr c33
            clear c33
            have H' := zb.mk H
            clear H
            have p12 : 0 ≤ (x3_2 : Int) := dq
            have q12 : x3_2 < (a0.size : Int) := dq
            have hx12 := qJ a0 x3_2
            replace p12 := eq_true p12
            replace q12 := eq_true q12
            go_wp2
            go_roundg k2
            case measure => have := HJ1.out; have := HK2.out; omega
            case rel => exact ⟨(wrap64 (x3_2 + 1)), eq0, H', ⟨by have := HJ1.out; have := HK2.out; omega⟩, by repeat (first | exact zi.refl _ | apply zi.step)⟩
           ·rw [if_neg c33] at H
            have c33b0 := beq_eq_false_iff_ne.mpr c33
            have c33b1 := bne_iff_ne.mpr c33
            obtain rfl := Option.some.inj H
            have p12 : 0 ≤ (x3_2 : Int) := dq
            have q12 : x3_2 < (a0.size : Int) := dq
            have hx12 := qJ a0 x3_2
            replace p12 := eq_true p12
            replace q12 := eq_true q12
            go_wp2
            go_ret
            exact ⟨eq0, by repeat (first | exact zi.refl _ | apply zi.step)⟩
         ·rw [if_neg c31] at H
          have c31b0 := decide_eq_false c31
          clear c31
          by_cases c34 : ((bt a0 x3_2) = 95)
          ·rw [if_pos c34] at H
           have c34b0 := beq_iff_eq.mpr c34
           have c34b1 := bne_eq_false_iff_eq.mpr c34
           clear c34
           have H' := zb.mk H
           clear H
           have p12 : 0 ≤ (x3_2 : Int) := dq
           have q12 : x3_2 < (a0.size : Int) := dq
           have hx12 := qJ a0 x3_2
           replace p12 := eq_true p12
           replace q12 := eq_true q12
           go_wp2
           go_roundg k2
           case measure => have := HJ1.out; have := HK2.out; omega
           case rel => exact ⟨(wrap64 (x3_2 + 1)), eq0, H', ⟨by have := HJ1.out; have := HK2.out; omega⟩, by repeat (first | exact zi.refl _ | apply zi.step)⟩
          ·rw [if_neg c34] at H
           have c34b0 := beq_eq_false_iff_ne.mpr c34
           have c34b1 := bne_iff_ne.mpr c34
           obtain rfl := Option.some.inj H
           have p12 : 0 ≤ (x3_2 : Int) := dq
           have q12 : x3_2 < (a0.size : Int) := dq
           have hx12 := qJ a0 x3_2
           replace p12 := eq_true p12
           replace q12 := eq_true q12
           go_wp2
           go_ret
           exact ⟨eq0, by repeat (first | exact zi.refl _ | apply zi.step)⟩
      ·rw [if_neg c10] at H
       have c10b0 := decide_eq_false c10
       clear c10
       obtain rfl := Option.some.inj H
       go_wp2
       go_ret
       exact ⟨eq0, by repeat (first | exact zi.refl _ | apply zi.step)⟩
def z4.l0 : Nat → ByteArray → Int → Option (Bool)
 | 0, _, _ => none
 | k + 1, x0, x3 => if x3 < (x0.size : Int) then (if 0 ≤ x3 then (if (bt x0 x3) = 37 then (if (wrap64 (x3 + 1)) = (x0.size : Int) then (some false) else (if 0 ≤ (wrap64 (x3 + 1)) then (if (wrap64 (x3 + 1)) < (x0.size : Int) then (if (bt x0 (wrap64 (x3 + 1))) = 37 then (z4.l0 k x0 (wrap64 ((wrap64 (x3 + 1)) + 1))) else (if (bt x0 (wrap64 (x3 + 1))) < 48 then (some false) else (if (bt x0 (wrap64 (x3 + 1))) > 57 then (some false) else (z4.l0 k x0 (wrap64 ((wrap64 (x3 + 1)) + 1)))))) else (none)) else (none))) else (z4.l0 k x0 (wrap64 (x3 + 1)))) else (none)) else (some true)
def z4.f (k : Nat) (a0 : ByteArray) : Option (Bool) := if (a0.size : Int) > 255 then (some false) else (z4.l0 k a0 0)
theorem z4.calls (k : Nat) (a0 : ByteArray) (r : Bool) (w : World) (hG : GW w) (h : z4.f k a0 = some r) :
  Calls Tryd.prog 64 #[.string a0] w fun e w' => e = .returned (.bool r) ∧ zi w w' := by
 have HG := zb.mk hG
 clear hG
 have H : (if (a0.size : Int) > 255 then (some false) else (z4.l0 k a0 0)) = some r := h
 clear h
 by_cases c2 : (a0.size : Int) > 255
 ·rw [if_pos c2] at H
  have c2b0 := decide_eq_true c2
  have c2b1 : decide (255 < a0.size) = true := decide_eq_true (by omega)
  clear c2
  obtain rfl := Option.some.inj H
  go_enter Tryd.func64, Tryd.ntmps64
  go_wp2
  go_ret
  exact ⟨eq0, by repeat (exact zi.refl _)⟩
 ·rw [if_neg c2] at H
  have c2b0 := decide_eq_false c2
  have c2b1 : decide (255 < a0.size) = false := decide_eq_false (by omega)
  clear c2
  have H' := zb.mk H
  clear H
  go_enter Tryd.func64, Tryd.ntmps64
  go_wp2
  go_loopg [3] k (fun kq v3 w' => ∃ (x3_1 : Int), v3 = .int .i64 x3_1 ∧ zb (z4.l0 kq a0 x3_1 = some r) ∧ zb (kq ≤ k) ∧ zi w w')
  case atStart => exact ⟨(0), eq0, H', ⟨Nat.le_refl _⟩, by repeat (exact zi.refl _)⟩
  case round =>
   clear H'
   (try clear c2b0); (try clear c2b1)
   obtain ⟨x3_1, rfl, HA, HK1, ⟨m1, rfl⟩⟩ := hrel
   cases gk with
   | zero => exact absurd HA.out (by simp [z4.l0])
   | succ k1 =>
    have H := HA.out
    clear HA
    simp only [z4.l0] at H
    by_cases c3 : x3_1 < (a0.size : Int)
    ·rw [if_pos c3] at H
     have c3b0 := decide_eq_true c3
     clear c3
     replace H := qh H; obtain ⟨c4, H⟩ := H
     have c4b0 := decide_eq_true c4
     clear c4
     by_cases c6 : (bt a0 x3_1) = 37
     ·rw [if_pos c6] at H
      have c6b0 := beq_iff_eq.mpr c6
      have c6b1 := bne_eq_false_iff_eq.mpr c6
      clear c6
      by_cases c7 : (wrap64 (x3_1 + 1)) = (a0.size : Int)
      ·rw [if_pos c7] at H
       have c7b0 := beq_iff_eq.mpr c7
       have c7b1 := bne_eq_false_iff_eq.mpr c7
       clear c7
       obtain rfl := Option.some.inj H
       have p5 : 0 ≤ (x3_1 : Int) := dq
       have q5 : x3_1 < (a0.size : Int) := dq
       have hx5 := qJ a0 x3_1
       replace p5 := eq_true p5
       replace q5 := eq_true q5
       go_wp2
       go_ret
       exact ⟨eq0, by repeat (first | exact zi.refl _ | apply zi.step)⟩
      ·rw [if_neg c7] at H
       have c7b0 := beq_eq_false_iff_ne.mpr c7
       have c7b1 := bne_iff_ne.mpr c7
       obtain ⟨ji8, hji8⟩ : ∃ j_ : Int, (wrap64 (x3_1 + 1)) = j_ := ⟨_, rfl⟩
       rw [hji8] at H
       (try rw [hji8] at c7b0)
       (try rw [hji8] at c7b1)
       have hji8w : (IntKind.i64.wrap (x3_1 + 1)) = ji8 := (qd _).trans hji8
       replace H := qh H; obtain ⟨c9, H⟩ := H
       have c9b0 := decide_eq_true c9
       clear c9
       replace H := qh H; obtain ⟨c10, H⟩ := H
       have c10b0 := decide_eq_true c10
       clear c10
       by_cases c12 : (bt a0 (ji8)) = 37
       ·rw [if_pos c12] at H
        have c12b0 := beq_iff_eq.mpr c12
        have c12b1 := bne_eq_false_iff_eq.mpr c12
        clear c12
        have H' := zb.mk H
        clear H
        have p5 : 0 ≤ (x3_1 : Int) := dq
        have q5 : x3_1 < (a0.size : Int) := dq
        have hx5 := qJ a0 x3_1
        replace p5 := eq_true p5
        replace q5 := eq_true q5
        have p11 : 0 ≤ ((ji8) : Int) := dq
        have q11 : (ji8) < (a0.size : Int) := dq
        have hx11 := qJ a0 (ji8)
        replace p11 := eq_true p11
        replace q11 := eq_true q11
        go_wp2
        go_roundg k1
        case measure => have := HK1.out; omega
        case rel => exact ⟨(wrap64 ((ji8) + 1)), (by rfl), H', ⟨by have := HK1.out; omega⟩, by repeat (first | exact zi.refl _ | apply zi.step)⟩
       ·rw [if_neg c12] at H
        have c12b0 := beq_eq_false_iff_ne.mpr c12
        have c12b1 := bne_iff_ne.mpr c12
        by_cases c14 : (bt a0 (ji8)) < 48
        ·rw [if_pos c14] at H
         have c14b0 := decide_eq_true c14
         clear c14
         obtain rfl := Option.some.inj H
         have p5 : 0 ≤ (x3_1 : Int) := dq
         have q5 : x3_1 < (a0.size : Int) := dq
         have hx5 := qJ a0 x3_1
         replace p5 := eq_true p5
         replace q5 := eq_true q5
         have p11 : 0 ≤ ((ji8) : Int) := dq
         have q11 : (ji8) < (a0.size : Int) := dq
         have hx11 := qJ a0 (ji8)
         replace p11 := eq_true p11
         replace q11 := eq_true q11
         have p13 : 0 ≤ ((ji8) : Int) := dq
         have q13 : (ji8) < (a0.size : Int) := dq
         have hx13 := qJ a0 (ji8)
         replace p13 := eq_true p13
         replace q13 := eq_true q13
         go_wp2
         go_ret
         exact ⟨by rfl, by repeat (first | exact zi.refl _ | apply zi.step)⟩
        ·rw [if_neg c14] at H
         have c14b0 := decide_eq_false c14
         clear c14
         by_cases c16 : (bt a0 (ji8)) > 57
         ·rw [if_pos c16] at H
          have c16b0 := decide_eq_true c16
          clear c16
          obtain rfl := Option.some.inj H
          have p5 : 0 ≤ (x3_1 : Int) := dq
          have q5 : x3_1 < (a0.size : Int) := dq
          have hx5 := qJ a0 x3_1
          replace p5 := eq_true p5
          replace q5 := eq_true q5
          have p11 : 0 ≤ ((ji8) : Int) := dq
          have q11 : (ji8) < (a0.size : Int) := dq
          have hx11 := qJ a0 (ji8)
          replace p11 := eq_true p11
          replace q11 := eq_true q11
          have p13 : 0 ≤ ((ji8) : Int) := dq
          have q13 : (ji8) < (a0.size : Int) := dq
          have hx13 := qJ a0 (ji8)
          replace p13 := eq_true p13
          replace q13 := eq_true q13
          have p15 : 0 ≤ ((ji8) : Int) := dq
          have q15 : (ji8) < (a0.size : Int) := dq
          have hx15 := qJ a0 (ji8)
          replace p15 := eq_true p15
          replace q15 := eq_true q15
          go_wp2
          go_ret
          exact ⟨by rfl, by repeat (first | exact zi.refl _ | apply zi.step)⟩
         ·rw [if_neg c16] at H
          have c16b0 := decide_eq_false c16
          clear c16
          have H' := zb.mk H
          clear H
          have p5 : 0 ≤ (x3_1 : Int) := dq
          have q5 : x3_1 < (a0.size : Int) := dq
          have hx5 := qJ a0 x3_1
          replace p5 := eq_true p5
          replace q5 := eq_true q5
          have p11 : 0 ≤ ((ji8) : Int) := dq
          have q11 : (ji8) < (a0.size : Int) := dq
          have hx11 := qJ a0 (ji8)
          replace p11 := eq_true p11
          replace q11 := eq_true q11
          have p13 : 0 ≤ ((ji8) : Int) := dq
          have q13 : (ji8) < (a0.size : Int) := dq
          have hx13 := qJ a0 (ji8)
          replace p13 := eq_true p13
          replace q13 := eq_true q13
          have p15 : 0 ≤ ((ji8) : Int) := dq
          have q15 : (ji8) < (a0.size : Int) := dq
          have hx15 := qJ a0 (ji8)
          replace p15 := eq_true p15
          replace q15 := eq_true q15
          go_wp2
          go_roundg k1
          case measure => have := HK1.out; omega
          case rel => exact ⟨(wrap64 ((ji8) + 1)), (by rfl), H', ⟨by have := HK1.out; omega⟩, by repeat (first | exact zi.refl _ | apply zi.step)⟩
     ·rw [if_neg c6] at H
      have c6b0 := beq_eq_false_iff_ne.mpr c6
      have c6b1 := bne_iff_ne.mpr c6
      have H' := zb.mk H
      clear H
      have p5 : 0 ≤ (x3_1 : Int) := dq
      have q5 : x3_1 < (a0.size : Int) := dq
      have hx5 := qJ a0 x3_1
      replace p5 := eq_true p5
      replace q5 := eq_true q5
      go_wp2
      go_roundg k1
      case measure => have := HK1.out; omega
      case rel => exact ⟨(wrap64 (x3_1 + 1)), eq0, H', ⟨by have := HK1.out; omega⟩, by repeat (first | exact zi.refl _ | apply zi.step)⟩
    ·rw [if_neg c3] at H
     have c3b0 := decide_eq_false c3
     clear c3
     obtain rfl := Option.some.inj H
     go_wp2
     go_ret
     exact ⟨eq0, by repeat (first | exact zi.refl _ | apply zi.step)⟩
mutual
def zD.j0 : Nat → Int → Int → Int → Int → Int → ByteArray → Int → Int → Int → Int → Option (Bool)
 | 0, _, _, _, _, _, _, _, _, _, _ => none
 | k + 1, x3, x345000, x345001, x345002, x345003, x345004, x345005, x345006, x345007, x345008 => if x345002 < x3 then (zD.j1 k true x345000 x345001 x345002 x345003 x345004 x345005 x345006 x345007 x345008) else (if x345002 > 7 then (zD.j1 k true x345000 x345001 x345002 x345003 x345004 x345005 x345006 x345007 x345008) else (if x345003 < 0 then (zD.j1 k true x345000 x345001 x345002 x345003 x345004 x345005 x345006 x345007 x345008) else (if x345003 > 50 then (zD.j1 k true x345000 x345001 x345002 x345003 x345004 x345005 x345006 x345007 x345008) else (if x345002 = 7 then (zD.j1 k false x345000 x345001 x345002 x345003 x345004 x345005 x345006 x345007 x345008) else (zD.j1 k (x345003 != 0) x345000 x345001 x345002 x345003 x345004 x345005 x345006 x345007 x345008)))))
def zD.j1 : Nat → Bool → Int → Int → Int → Int → ByteArray → Int → Int → Int → Int → Option (Bool)
 | 0, _, _, _, _, _, _, _, _, _, _ => none
 | k + 1, x35, x345000, x345001, x345002, x345003, x345004, x345005, x345006, x345007, x345008 => if x35 = true then (some false) else (if x345002 = 3 then (if x345004.toList = ([] : List UInt8) then (some true) else ((zn.f k x345004).bind fun t345 => (some t345))) else (if x345002 = 6 then ((z4.f k x345004).bind fun t346 => (some t346)) else (some (x345004.toList == ([] : List UInt8)))))
end
def zD.f (k : Nat) (a0_0 : Int) (a0_1 : Int) (a0_2 : Int) (a0_3 : Int) (a0_4 : ByteArray) (a0_5 : Int) (a0_6 : Int) (a0_7 : Int) (a0_8 : Int) : Option (Bool) := if a0_0 = 18 then (zD.j0 k 2 a0_0 a0_1 a0_2 a0_3 a0_4 a0_5 a0_6 a0_7 a0_8) else (zD.j0 k 1 a0_0 a0_1 a0_2 a0_3 a0_4 a0_5 a0_6 a0_7 a0_8)
theorem zD.calls (k : Nat) (a0_0 a0_1 a0_2 a0_3 : Int) (a0_4 : ByteArray) (a0_5 a0_6 a0_7 a0_8 : Int) (r : Bool) (w : World) (hG : GW w) (h : zD.f k a0_0 a0_1 a0_2 a0_3 a0_4 a0_5 a0_6 a0_7 a0_8 = some r) :
  Calls Tryd.prog 57 #[.agg #[.int .i64 a0_0, .int .i64 a0_1, .int .i64 a0_2, .int .i64 a0_3, .string a0_4, .int .u64 a0_5, .int .u64 a0_6, .int .u64 a0_7, .int .u64 a0_8]] w fun e w' => e = .returned (.bool r) ∧ Below w.heap.size w w' := by
 have hu34 := Tryd.underlying34
 have HG := zb.mk hG
 clear hG
 have HB := zb.mk (Below.refl w.heap.size w)
 have H : (if a0_0 = 18 then (zD.j0 k 2 a0_0 a0_1 a0_2 a0_3 a0_4 a0_5 a0_6 a0_7 a0_8) else (zD.j0 k 1 a0_0 a0_1 a0_2 a0_3 a0_4 a0_5 a0_6 a0_7 a0_8)) = some r := h
 clear h
 have HC2 := zb.mk H
 clear H
 go_enter Tryd.func57, Tryd.ntmps57
 go_upto_if 6 with (((with_reducible refine z3 (N := 1) rfl ?_); refine qk ?hg (N := 1) ?hd (cs := #[.int .i64 a0_0, .int .i64 a0_1, .int .i64 a0_2, .int .i64 a0_3, .string a0_4, .int .u64 a0_5, .int .u64 a0_6, .int .u64 a0_7, .int .u64 a0_8]) (t := 34) ?hr ?_; (case hd => rfl); (case hg => rfl); (case hr => (go_simp; done)); intro gb344 hg w3 hbox hb; have BK344 := zb.mk (hbox); have GW344 := zb.mk ((by rw [hg]; exact (zj (bl HB.out)) : w.heap.size ≤ gb344)); have GE344 := zb.mk ((by rw [hg]; exact (zj (bl HB.out)) : w.heap.size ≤ gb344)); replace HB := bst HB hb; clear hb hbox hg; obtain ⟨hcz4_0, hcz4_1, hcz4_2, hcz4_3, hcz4_4, hcz4_5, hcz4_6, hcz4_7, hcz4_8⟩ := zS BK344.out; obtain ⟨hfz4_0, hfz4_1, hfz4_2, hfz4_3, hfz4_4, hfz4_5, hfz4_6, hfz4_7, hfz4_8⟩ := zR BK344.out))
 go_cut [3] (fun v3 wc => ∃ (kq : Nat) (x3_1 : Int), v3 = .int .i64 x3_1 ∧ zb (zD.j0 kq x3_1 a0_0 a0_1 a0_2 a0_3 a0_4 a0_5 a0_6 a0_7 a0_8 = some r) ∧ zb (kq ≤ k) ∧ zb (wc.heap[gb344]? = some (.cells #[.int .i64 a0_0, .int .i64 a0_1, .int .i64 a0_2, .int .i64 a0_3, .string a0_4, .int .u64 a0_5, .int .u64 a0_6, .int .u64 a0_7, .int .u64 a0_8] 34 (0, 0))) ∧ zb (Below w.heap.size w wc))
 case first =>
  have H := HC2.out
  clear HC2
  by_cases c5 : a0_0 = 18
  ·rw [if_pos c5] at H
   have c5b0 := beq_iff_eq.mpr c5
   have c5b1 := bne_eq_false_iff_eq.mpr c5
   clear c5
   (rw [c5b0])
   have H' := zb.mk H
   clear H
   go_wp2
   go_meet
   case rel => exact ⟨_, (2), eq0, H', ⟨by omega⟩, ⟨by (with_reducible skip); exact BK344.out⟩, ⟨bsq⟩⟩
  ·rw [if_neg c5] at H
   have c5b0 := beq_eq_false_iff_ne.mpr c5
   have c5b1 := bne_iff_ne.mpr c5
   (rw [c5b0])
   have H' := zb.mk H
   clear H
   go_wp2
   go_meet
   case rel => exact ⟨_, (1), eq0, H', ⟨by omega⟩, ⟨by (with_reducible skip); exact BK344.out⟩, ⟨bsq⟩⟩
 case rest =>
  clear HC2
  (try clear hcz4_0); (try clear hcz4_1); (try clear hcz4_2); (try clear hcz4_3); (try clear hcz4_4); (try clear hcz4_5); (try clear hcz4_6); (try clear hcz4_7); (try clear hcz4_8); (try clear hfz4_0); (try clear hfz4_1); (try clear hfz4_2); (try clear hfz4_3); (try clear hfz4_4); (try clear hfz4_5); (try clear hfz4_6); (try clear hfz4_7); (try clear hfz4_8)
  obtain ⟨kq, x3_1, rfl, HA, HJ1, BK344, HB⟩ := hcut
  cases kq with
  | zero => exact absurd HA.out (by simp [zD.j0])
  | succ kj1 =>
   have H := HA.out
   clear HA
   simp only [zD.j0] at H
   have HC6 := zb.mk H
   clear H
   go_upto_region 4 with (fail)
   go_cut [35] (fun v35 wc => ∃ (kq : Nat) (x35_5 : Bool), v35 = .bool x35_5 ∧ zb (zD.j1 kq x35_5 a0_0 a0_1 a0_2 a0_3 a0_4 a0_5 a0_6 a0_7 a0_8 = some r) ∧ zb (kq ≤ kj1) ∧ zb (wc.heap[gb344]? = some (.cells #[.int .i64 a0_0, .int .i64 a0_1, .int .i64 a0_2, .int .i64 a0_3, .string a0_4, .int .u64 a0_5, .int .u64 a0_6, .int .u64 a0_7, .int .u64 a0_8] 34 (0, 0))) ∧ zb (Below w.heap.size w wc))
   case first =>
    have H := HC6.out
    clear HC6
    by_cases c7 : a0_2 < x3_1
    ·rw [if_pos c7] at H
     have c7b0 := decide_eq_true c7
     clear c7
     (skip)
     have H' := zb.mk H
     clear H
     obtain ⟨hcz8_0, hcz8_1, hcz8_2, hcz8_3, hcz8_4, hcz8_5, hcz8_6, hcz8_7, hcz8_8⟩ := zS BK344.out
     obtain ⟨hfz8_0, hfz8_1, hfz8_2, hfz8_3, hfz8_4, hfz8_5, hfz8_6, hfz8_7, hfz8_8⟩ := zR BK344.out
     go_wp2
     go_meet
     case rel => exact ⟨_, (true), eq0, H', ⟨by have := HJ1.out; omega⟩, ⟨by (with_reducible skip); exact BK344.out⟩, ⟨bsq⟩⟩
    ·rw [if_neg c7] at H
     have c7b0 := decide_eq_false c7
     clear c7
     (skip)
     by_cases c9 : a0_2 > 7
     ·rw [if_pos c9] at H
      have c9b0 := decide_eq_true c9
      clear c9
      have H' := zb.mk H
      clear H
      obtain ⟨hcz10_0, hcz10_1, hcz10_2, hcz10_3, hcz10_4, hcz10_5, hcz10_6, hcz10_7, hcz10_8⟩ := zS BK344.out
      obtain ⟨hfz10_0, hfz10_1, hfz10_2, hfz10_3, hfz10_4, hfz10_5, hfz10_6, hfz10_7, hfz10_8⟩ := zR BK344.out
      go_wp2
      go_meet
      case rel => exact ⟨_, (true), eq0, H', ⟨by have := HJ1.out; omega⟩, ⟨by (with_reducible skip); exact BK344.out⟩, ⟨bsq⟩⟩
     ·rw [if_neg c9] at H
      have c9b0 := decide_eq_false c9
      clear c9
      by_cases c11 : a0_3 < 0
      ·rw [if_pos c11] at H
       have c11b0 := decide_eq_true c11
       clear c11
       have H' := zb.mk H
       clear H
       obtain ⟨hcz12_0, hcz12_1, hcz12_2, hcz12_3, hcz12_4, hcz12_5, hcz12_6, hcz12_7, hcz12_8⟩ := zS BK344.out
       obtain ⟨hfz12_0, hfz12_1, hfz12_2, hfz12_3, hfz12_4, hfz12_5, hfz12_6, hfz12_7, hfz12_8⟩ := zR BK344.out
       go_wp2
       go_meet
       case rel => exact ⟨_, (true), eq0, H', ⟨by have := HJ1.out; omega⟩, ⟨by (with_reducible skip); exact BK344.out⟩, ⟨bsq⟩⟩
      ·rw [if_neg c11] at H
       have c11b0 := decide_eq_false c11
       clear c11
       by_cases c13 : a0_3 > 50
       ·rw [if_pos c13] at H
        have c13b0 := decide_eq_true c13
        clear c13
        have H' := zb.mk H
        clear H
        obtain ⟨hcz14_0, hcz14_1, hcz14_2, hcz14_3, hcz14_4, hcz14_5, hcz14_6, hcz14_7, hcz14_8⟩ := zS BK344.out
        obtain ⟨hfz14_0, hfz14_1, hfz14_2, hfz14_3, hfz14_4, hfz14_5, hfz14_6, hfz14_7, hfz14_8⟩ := zR BK344.out
        go_wp2
        go_meet
        case rel => exact ⟨_, (true), eq0, H', ⟨by have := HJ1.out; omega⟩, ⟨by (with_reducible skip); exact BK344.out⟩, ⟨bsq⟩⟩
       ·rw [if_neg c13] at H
        have c13b0 := decide_eq_false c13
        clear c13
        by_cases c15 : a0_2 = 7
        ·rw [if_pos c15] at H
         have c15b0 := beq_iff_eq.mpr c15
         have c15b1 := bne_eq_false_iff_eq.mpr c15
         clear c15
         have H' := zb.mk H
         clear H
         obtain ⟨hcz16_0, hcz16_1, hcz16_2, hcz16_3, hcz16_4, hcz16_5, hcz16_6, hcz16_7, hcz16_8⟩ := zS BK344.out
         obtain ⟨hfz16_0, hfz16_1, hfz16_2, hfz16_3, hfz16_4, hfz16_5, hfz16_6, hfz16_7, hfz16_8⟩ := zR BK344.out
         go_wp2
         go_meet
         case rel => exact ⟨_, (false), eq0, H', ⟨by have := HJ1.out; omega⟩, ⟨by (with_reducible skip); exact BK344.out⟩, ⟨bsq⟩⟩
        ·rw [if_neg c15] at H
         have c15b0 := beq_eq_false_iff_ne.mpr c15
         have c15b1 := bne_iff_ne.mpr c15
         have H' := zb.mk H
         clear H
         obtain ⟨hcz17_0, hcz17_1, hcz17_2, hcz17_3, hcz17_4, hcz17_5, hcz17_6, hcz17_7, hcz17_8⟩ := zS BK344.out
         obtain ⟨hfz17_0, hfz17_1, hfz17_2, hfz17_3, hfz17_4, hfz17_5, hfz17_6, hfz17_7, hfz17_8⟩ := zR BK344.out
         go_wp2
         go_meet
         case rel => exact ⟨_, ((a0_3 != 0)), eq0, H', ⟨by have := HJ1.out; omega⟩, ⟨by (with_reducible skip); exact BK344.out⟩, ⟨bsq⟩⟩
   case rest =>
    clear HC6
    obtain ⟨kq, x35_5, rfl, HA, HJ5, BK344, HB⟩ := hcut
    cases kq with
    | zero => exact absurd HA.out (by simp [zD.j1])
    | succ kj5 =>
     have H := HA.out
     clear HA
     simp only [zD.j1] at H
     by_cases c18 : x35_5 = true
     ·subst c18
      replace H := ifT H
      obtain rfl := Option.some.inj H
      go_wp2
      go_ret
      exact ⟨eq1, bsq⟩
     ·replace c18 := Bool.eq_false_iff.mpr c18
      subst c18
      replace H := ifF H
      by_cases c19 : a0_2 = 3
      ·rw [if_pos c19] at H
       have c19b0 := beq_iff_eq.mpr c19
       have c19b1 := bne_eq_false_iff_eq.mpr c19
       clear c19
       by_cases c20 : a0_4.toList = ([] : List UInt8)
       ·rw [if_pos c20] at H
        have c20b0 := beq_iff_eq.mpr c20
        have c20b1 := bne_eq_false_iff_eq.mpr c20
        clear c20
        obtain rfl := Option.some.inj H
        obtain ⟨hcz21_0, hcz21_1, hcz21_2, hcz21_3, hcz21_4, hcz21_5, hcz21_6, hcz21_7, hcz21_8⟩ := zS BK344.out
        obtain ⟨hfz21_0, hfz21_1, hfz21_2, hfz21_3, hfz21_4, hfz21_5, hfz21_6, hfz21_7, hfz21_8⟩ := zR BK344.out
        go_wp2
        go_ret
        exact ⟨eq1, bsq⟩
       ·rw [if_neg c20] at H
        have c20b0 := beq_eq_false_iff_ne.mpr c20
        have c20b1 := bne_iff_ne.mpr c20
        replace H := zO H; obtain ⟨t345, A22, H⟩ := H
        obtain rfl := Option.some.inj H
        obtain ⟨hcz23_0, hcz23_1, hcz23_2, hcz23_3, hcz23_4, hcz23_5, hcz23_6, hcz23_7, hcz23_8⟩ := zS BK344.out
        obtain ⟨hfz23_0, hfz23_1, hfz23_2, hfz23_3, hfz23_4, hfz23_5, hfz23_6, hfz23_7, hfz23_8⟩ := zR BK344.out
        go_wp2_with ((go_at_call 63; (with_reducible refine (zn.calls kj5 a0_4 t345 _ ?side1 A22.out).mono ?_); (case side1 => exact GW.below HG.out bsq); rintro e w' ⟨rfl, ⟨nd, rfl⟩⟩))
        go_ret
        exact ⟨eq1, bsq⟩
      ·rw [if_neg c19] at H
       have c19b0 := beq_eq_false_iff_ne.mpr c19
       have c19b1 := bne_iff_ne.mpr c19
       by_cases c24 : a0_2 = 6
       ·rw [if_pos c24] at H
        have c24b0 := beq_iff_eq.mpr c24
        have c24b1 := bne_eq_false_iff_eq.mpr c24
        clear c24
        replace H := zO H; obtain ⟨t346, A25, H⟩ := H
        obtain rfl := Option.some.inj H
        obtain ⟨hcz26_0, hcz26_1, hcz26_2, hcz26_3, hcz26_4, hcz26_5, hcz26_6, hcz26_7, hcz26_8⟩ := zS BK344.out
        obtain ⟨hfz26_0, hfz26_1, hfz26_2, hfz26_3, hfz26_4, hfz26_5, hfz26_6, hfz26_7, hfz26_8⟩ := zR BK344.out
        go_wp2_with (((with_reducible refine zc (f := 64) rfl ?_); refine zh (some 52) rfl rfl Tryd.func64 (by kernel_rfl) rfl #[.string a0_4] rfl hq ?_; (with_reducible refine (z4.calls kj5 a0_4 t346 _ ?side1 A25.out).mono ?_); (case side1 => exact GW.below HG.out bsq); rintro e w' ⟨rfl, ⟨nd, rfl⟩⟩; refine ⟨_, rfl, ?_⟩))
        go_ret
        exact ⟨eq1, bsq⟩
       ·rw [if_neg c24] at H
        have c24b0 := beq_eq_false_iff_ne.mpr c24
        have c24b1 := bne_iff_ne.mpr c24
        obtain rfl := Option.some.inj H
        obtain ⟨hcz27_0, hcz27_1, hcz27_2, hcz27_3, hcz27_4, hcz27_5, hcz27_6, hcz27_7, hcz27_8⟩ := zS BK344.out
        obtain ⟨hfz27_0, hfz27_1, hfz27_2, hfz27_3, hfz27_4, hfz27_5, hfz27_6, hfz27_7, hfz27_8⟩ := zR BK344.out
        go_wp2
        go_ret
        exact ⟨eq1, bsq⟩
end Go.Proofs.YtnpeabmlcakegaaDoor.PAll
