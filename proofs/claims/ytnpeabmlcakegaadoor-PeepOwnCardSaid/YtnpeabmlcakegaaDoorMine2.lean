/- Part 2 of the proof: words, walks and plain laws that the statement's own text (YtnpeabmlcakegaaDoorMine) uses. No condition of its own. -/
import Derived.Test.YtnpeabmlcakegaaDoorMine1
set_option maxHeartbeats 8000000
set_option maxRecDepth 100000
namespace Go.Proofs.YtnpeabmlcakegaaDoor.PAll
open Go.RowKit Go.Proofs.YtnpeabmlcakegaaDoorW.PrintWords Go.Proofs.YtnpeabmlcakegaaDoorW.PrintLast Go.Proofs.YtnpeabmlcakegaaDoorW.PrintMore
attribute [local go_sem] z9 qe ql xb xa xp xn qL qK qZ qY
set_option linter.unusedVariables false
set_option linter.unusedSimpArgs false
mutual
def qj.l0 : Nat → List (S63) → List (S91) → List (S63) → Int → Int → Option (Int × Int)
 | 0, _, _, _, _, _ => none
 | k + 1, x0, x6, x16, x17, x18 => if x18 < x17 then (if 0 ≤ x18 then (if x18 < (x16.length : Int) then ((qq.f k ((zl x16 x18).f0)).bind fun t115 => (if t115 < 0 then (some (x18, 40)) else ((zJ.f k ((zl x16 x18).f0) ((zl x16 x18).f1) ((zl x16 x18).f2) ((zl x16 x18).f3.f0) ((zl x16 x18).f3.f1) ((zl x16 x18).f3.f2) ((zl x16 x18).f3.f3)).bind fun t116 => (if t116 = true then (qj.l1 k x0 x6 x18 x16 x17 x18 t115 0 ((zl x16 x18).f0) ((zl x16 x18).f1) ((zl x16 x18).f2) ((zl x16 x18).f3.f0) ((zl x16 x18).f3.f1) ((zl x16 x18).f3.f2) ((zl x16 x18).f3.f3) x18 0) else (some (x18, 41)))))) else (none)) else (none)) else (if (x0.length : Int) = 0 then (some ((x0.length : Int), 42)) else (if 0 ≤ (wrap64 ((x0.length : Int) - 1)) then (if (wrap64 ((x0.length : Int) - 1)) < (x6.length : Int) then (if ((z5 x6 (wrap64 ((x0.length : Int) - 1))).f0) = 0 then (some (0, 0)) else (some ((x0.length : Int), 42))) else (none)) else (none)))
def qj.l1 : Nat → List (S63) → List (S91) → Int → List (S63) → Int → Int → Int → Int → Int → Int → ByteArray → Int → Int → Int → Int → Int → Int → Option (Int × Int)
 | 0, _, _, _, _, _, _, _, _, _, _, _, _, _, _, _, _, _ => none
 | k + 1, x0, x6, x7, x16, x17, x18, x35, x36, x115000, x115001, x115002, x115003, x115004, x115005, x115006, x118000, x118001 => if x36 < x35 then (if x118000 = 0 then (some (x7, 42)) else (if 0 ≤ (wrap64 (x118000 - 1)) then (if (wrap64 (x118000 - 1)) < (x6.length : Int) then (if x36 = 1 then (if (wrap64 (x118000 - 1)) < (x0.length : Int) then (if ((zl x0 (wrap64 (x118000 - 1))).f0) = x115000 then (qj.l1 k x0 x6 x7 x16 x17 x18 x35 (wrap64 (x36 + 1)) x115000 x115001 x115002 x115003 x115004 x115005 x115006 ((z5 x6 (wrap64 (x118000 - 1))).f0) (mx x118001 (wrap64 (((z5 x6 (wrap64 (x118000 - 1))).f1) - 1)))) else (qj.l1 k x0 x6 x7 x16 x17 x18 x35 (wrap64 (x36 + 1)) x115000 x115001 x115002 x115003 x115004 x115005 x115006 ((z5 x6 (wrap64 (x118000 - 1))).f0) (mx x118001 ((z5 x6 (wrap64 (x118000 - 1))).f1)))) else (none)) else (qj.l1 k x0 x6 x7 x16 x17 x18 x35 (wrap64 (x36 + 1)) x115000 x115001 x115002 x115003 x115004 x115005 x115006 ((z5 x6 (wrap64 (x118000 - 1))).f0) (mx x118001 ((z5 x6 (wrap64 (x118000 - 1))).f1)))) else (none)) else (none))) else (if (wrap64 (x118001 + 1)) > 60 then (some (x7, 4)) else (if x6.length < 8796093022208 then ((tree_Check_1.f x7 x118000 (wrap64 (x118001 + 1))).bind fun _ => (qj.l0 k x0 (x6 ++ [(⟨x118000, wrap64 (x118001 + 1)⟩ : S91)]) x16 x17 (wrap64 (x18 + 1)))) else (none)))
end
def qj.f (k : Nat) (l0 : List (S63))  : Option (Int × Int) := if 0 ≤ (l0.length : Int) then (if ((l0.length : Int) : Int).toNat ≤ 17592186044416 then (qj.l0 k l0 (([] : List (S91))) l0 (l0.length : Int) 0) else (none)) else (none)
theorem qj.calls (k : Nat) (A0 : Option Addr) (c0 : Nat) (l0 : List (S63))  (r1 r2 : Int) (w : World) (hG : GW w) (hr0 : Kd.C k63 w A0 l0.length l0) (hc0 : l0.length ≤ c0) (h : qj.f k l0 = some (r1, r2)) :
  Calls Tryd.prog 90 #[.slice A0 l0.length c0, .func (.func 91) #[] #[]] w fun e w' => e = .returned (.tuple #[.int .i64 r1, .int .i64 r2]) ∧ Below w.heap.size w w' := by
 have hu63 := Tryd.underlying63
 have hu91 := Tryd.underlying91
 have HR0 := zb.mk hr0
 have HC0 := zb.mk hc0
 clear hr0 hc0
 have HG := zb.mk hG
 clear hG
 have HB := zb.mk (Below.refl w.heap.size w)
 have H : (if 0 ≤ (l0.length : Int) then (if ((l0.length : Int) : Int).toNat ≤ 17592186044416 then (qj.l0 k l0 (([] : List (S91))) l0 (l0.length : Int) 0) else (none)) else (none)) = some (r1, r2) := h
 clear h
 by_cases c3 : 0 ≤ (l0.length : Int)
 ·rw [if_pos c3] at H
  have c3b0 := eq_true c3
  have c3b1 := decide_eq_true c3
  clear c3
  replace H := qh H; obtain ⟨c4, H⟩ := H
  have c4b0 := eq_true c4
  have c4b1 := decide_eq_true c4
  clear c4
  obtain ⟨y109, hy109⟩ : ∃ y_ : List (S91), y_ = (([] : List (S91))) := ⟨_, rfl⟩
  replace H : (qj.l0 k l0 y109 l0 (l0.length : Int) 0) = some (r1, r2) := by (rw [hy109]; with_reducible exact H)
  have Ny109 := zb.mk hy109
  clear hy109
  have H' := zb.mk H
  clear H
  go_enter Tryd.func90, Tryd.ntmps90
  go_wp2_with (((with_reducible refine z3 (N := 15) rfl ?_); (try (refine xi (by rfl) ?_; dsimp only)); refine Kd.R_make0 k91 _ 91 rfl (N := 15) rfl 97 _ _ rfl (l0.length : Int) rfl rfl Tryd.underlying97 (.agg #[(.int .i64 0), (.int .i64 0)]) 16 info91 rfl (by decide) (by omega) z91 (ok := fun _ => True) (okp := fun _ => True) (k91_mkM _ _ _ z91 ) (fun _ hk => hk) trivial (dq) (Nat.le_trans (Nat.mul_le_mul_right _ (dq : (l0.length : Int).toNat ≤ 17592186044416)) (by omega)) (Below.refl _ _) (Nat.le_refl _) ?_; intro v110 w5 ho6 hb hg_ hnew_; clear hg_ hnew_; (rw [← Ny109.out] at ho6); have HO111 := zb.mk (Kd.rlo ho6 HB); replace HB := bst HB hb; clear hb ho6))
  go_loopg [6, 18] k (fun kq v6 v18 w' => ∃ (x6_1 : List (S91)) (x18_1 : Int), v18 = .int .i64 x18_1 ∧ zb (qj.l0 kq l0 x6_1 l0 (l0.length : Int) x18_1 = some (r1, r2)) ∧ zb (kq ≤ k) ∧ zb (Kd.R k91 91 w' w.heap.size (fun _ => True) v6 x6_1) ∧ zb (Below w.heap.size w w'))
  case atStart => exact ⟨(y109), (0), eq0, H', ⟨Nat.le_refl _⟩, ⟨Kd.rx HO111.out⟩, ⟨bl HB.out⟩⟩
  case round =>
   clear H'
   (try clear c3b0); (try clear c3b1); (try clear c4b0); (try clear c4b1)
   obtain ⟨x6_1, x18_1, rfl, HA, HK1, HO_6, HB⟩ := hrel
   cases gk with
   | zero => exact absurd HA.out (by simp [qj.l0])
   | succ k1 =>
    have H := HA.out
    clear HA
    simp only [qj.l0] at H
    by_cases c7 : x18_1 < (l0.length : Int)
    ·rw [if_pos c7] at H
     have c7b0 := decide_eq_true c7
     clear c7
     replace H := qh H; obtain ⟨c8, H⟩ := H
     have c8b0 := decide_eq_true c8
     clear c8
     replace H := qh H; obtain ⟨c9, H⟩ := H
     have c9b0 := decide_eq_true c9
     clear c9
     replace H := zO H; obtain ⟨t115, A10, H⟩ := H
     by_cases c11 : t115 < 0
     ·rw [if_pos c11] at H
      have c11b0 := decide_eq_true c11
      clear c11
      simp only [Option.some.injEq, Prod.mk.injEq] at H
      obtain ⟨rfl, rfl⟩ := H
      have p113 : 0 ≤ (x18_1 : Int) := dq
      have q113 : x18_1 < (l0.length : Int) := dq
      obtain ⟨ad113, e113, hx113_0, hx113_1, hx113_2, hx113_3, hx113_4, hx113_5, hx113_6⟩ := at_T63 HR0.out x18_1 p113 q113
      cases e113
      replace hx113_0 := cb HB.out hx113_0
      replace hx113_1 := cb HB.out hx113_1
      replace hx113_2 := cb HB.out hx113_2
      replace hx113_3 := cb HB.out hx113_3
      replace hx113_4 := cb HB.out hx113_4
      replace hx113_5 := cb HB.out hx113_5
      replace hx113_6 := cb HB.out hx113_6
      replace p113 := eq_true p113
      replace q113 := eq_true q113
      go_wp2_with (first | ((with_reducible refine z3 (N := 8) rfl ?_); (try (refine xi (by rfl) ?_; dsimp only)); refine qk ?hg (N := 8) ?hd (cs := #[.int .i64 0, .int .i64 0, .string (⟨#[]⟩ : ByteArray), .int .u64 0, .int .u64 0, .int .u64 0, .int .u64 0]) (t := 63) ?hr ?_; (case hd => rfl); (case hg => rfl); (case hr => (go_simp; done)); intro gb114 hg w12 hbox hb; replace HO_6 := Kd.rbl HO_6 hb; have BK114 := zb.mk (hbox); have GW114 := zb.mk ((by rw [hg]; exact (zj (bl HB.out)) : w.heap.size ≤ gb114)); have GE114 := zb.mk ((by rw [hg]; exact (zj (bl HB.out)) : w.heap.size ≤ gb114)); replace HB := bst HB hb; clear hb hbox hg; obtain ⟨hcz13_0, hcz13_1, hcz13_2, hcz13_3, hcz13_4, hcz13_5, hcz13_6⟩ := xC BK114.out; obtain ⟨hfz13_0, hfz13_1, hfz13_2, hfz13_3, hfz13_4, hfz13_5, hfz13_6⟩ := xB BK114.out) | ((with_reducible refine zM (t := 63) (p := 8) rfl ?_); refine zB (t := 63) (p := 8) (v := ?vo_w14) (w1 := (xr w12 gb114 #[.int .i64 ((zl l0 x18_1).f0), .int .i64 ((zl l0 x18_1).f1), .string ((zl l0 x18_1).f2), .int .u64 ((zl l0 x18_1).f3.f0), .int .u64 ((zl l0 x18_1).f3.f1), .int .u64 ((zl l0 x18_1).f3.f2), .int .u64 ((zl l0 x18_1).f3.f3)])) ?hg ?ho ?hn ?hr ?_; (case ho => rfl); (case hg => rfl); (case hn => rfl); (case hr => (go_simp; rfl)); intro w14 hw; replace HO_6 : zb (Kd.R k91 91 w14 w.heap.size (fun _ => True) u6 x6_1) := ⟨(by rw [hw]; exact (Kd.rx (Kd.zH (Kd.jc (g := gb114) (Kd.jK HO_6.out BK114.out (by decide)) (fun _ hk => hk.2) #[.int .i64 ((zl l0 x18_1).f0), .int .i64 ((zl l0 x18_1).f1), .string ((zl l0 x18_1).f2), .int .u64 ((zl l0 x18_1).f3.f0), .int .u64 ((zl l0 x18_1).f3.f1), .int .u64 ((zl l0 x18_1).f3.f2), .int .u64 ((zl l0 x18_1).f3.f3)]) (fun _ hk => trivial))))⟩; replace BK114 : zb (w14.heap[gb114]? = some (.cells #[.int .i64 ((zl l0 x18_1).f0), .int .i64 ((zl l0 x18_1).f1), .string ((zl l0 x18_1).f2), .int .u64 ((zl l0 x18_1).f3.f0), .int .u64 ((zl l0 x18_1).f3.f1), .int .u64 ((zl l0 x18_1).f3.f2), .int .u64 ((zl l0 x18_1).f3.f3)] 63 (0, 0))) := ⟨(by rw [hw]; exact (by (with_reducible skip); refine xd (cs := #[.int .i64 0, .int .i64 0, .string (⟨#[]⟩ : ByteArray), .int .u64 0, .int .u64 0, .int .u64 0, .int .u64 0]) ?_ _ rfl; (with_reducible skip); exact BK114.out))⟩; replace HB : zb (Below w.heap.size w w14) := ⟨(by rw [hw]; exact bsq)⟩; clear hw; obtain ⟨hcz15_0, hcz15_1, hcz15_2, hcz15_3, hcz15_4, hcz15_5, hcz15_6⟩ := xC BK114.out; obtain ⟨hfz15_0, hfz15_1, hfz15_2, hfz15_3, hfz15_4, hfz15_5, hfz15_6⟩ := xB BK114.out) | (go_at_call 77; (with_reducible refine (qq.calls k1 ((zl l0 x18_1).f0) t115 _ ?side1 A10.out).mono ?_); (case side1 => exact GW.below HG.out bsq); rintro e w' ⟨rfl, ⟨nd, rfl⟩⟩))
      go_ret2
      exact ⟨eq1, bsq⟩
     ·rw [if_neg c11] at H
      have c11b0 := decide_eq_false c11
      clear c11
      replace H := zO H; obtain ⟨t116, A16, H⟩ := H
      by_cases c17 : t116 = true
      ·subst c17
       replace H := ifT H
       have H' := zb.mk H
       clear H
       have p113 : 0 ≤ (x18_1 : Int) := dq
       have q113 : x18_1 < (l0.length : Int) := dq
       obtain ⟨ad113, e113, hx113_0, hx113_1, hx113_2, hx113_3, hx113_4, hx113_5, hx113_6⟩ := at_T63 HR0.out x18_1 p113 q113
       cases e113
       replace hx113_0 := cb HB.out hx113_0
       replace hx113_1 := cb HB.out hx113_1
       replace hx113_2 := cb HB.out hx113_2
       replace hx113_3 := cb HB.out hx113_3
       replace hx113_4 := cb HB.out hx113_4
       replace hx113_5 := cb HB.out hx113_5
       replace hx113_6 := cb HB.out hx113_6
       replace p113 := eq_true p113
       replace q113 := eq_true q113
       go_wp2_with (first | ((with_reducible refine z3 (N := 8) rfl ?_); (try (refine xi (by rfl) ?_; dsimp only)); refine qk ?hg (N := 8) ?hd (cs := #[.int .i64 0, .int .i64 0, .string (⟨#[]⟩ : ByteArray), .int .u64 0, .int .u64 0, .int .u64 0, .int .u64 0]) (t := 63) ?hr ?_; (case hd => rfl); (case hg => rfl); (case hr => (go_simp; done)); intro gb114 hg w18 hbox hb; replace HO_6 := Kd.rbl HO_6 hb; have BK114 := zb.mk (hbox); have GW114 := zb.mk ((by rw [hg]; exact (zj (bl HB.out)) : w.heap.size ≤ gb114)); have GE114 := zb.mk ((by rw [hg]; exact (zj (bl HB.out)) : w.heap.size ≤ gb114)); replace HB := bst HB hb; clear hb hbox hg; obtain ⟨hcz19_0, hcz19_1, hcz19_2, hcz19_3, hcz19_4, hcz19_5, hcz19_6⟩ := xC BK114.out; obtain ⟨hfz19_0, hfz19_1, hfz19_2, hfz19_3, hfz19_4, hfz19_5, hfz19_6⟩ := xB BK114.out) | ((with_reducible refine zM (t := 63) (p := 8) rfl ?_); refine zB (t := 63) (p := 8) (v := ?vo_w20) (w1 := (xr w18 gb114 #[.int .i64 ((zl l0 x18_1).f0), .int .i64 ((zl l0 x18_1).f1), .string ((zl l0 x18_1).f2), .int .u64 ((zl l0 x18_1).f3.f0), .int .u64 ((zl l0 x18_1).f3.f1), .int .u64 ((zl l0 x18_1).f3.f2), .int .u64 ((zl l0 x18_1).f3.f3)])) ?hg ?ho ?hn ?hr ?_; (case ho => rfl); (case hg => rfl); (case hn => rfl); (case hr => (go_simp; rfl)); intro w20 hw; replace HO_6 : zb (Kd.R k91 91 w20 w.heap.size (fun _ => True) u6 x6_1) := ⟨(by rw [hw]; exact (Kd.rx (Kd.zH (Kd.jc (g := gb114) (Kd.jK HO_6.out BK114.out (by decide)) (fun _ hk => hk.2) #[.int .i64 ((zl l0 x18_1).f0), .int .i64 ((zl l0 x18_1).f1), .string ((zl l0 x18_1).f2), .int .u64 ((zl l0 x18_1).f3.f0), .int .u64 ((zl l0 x18_1).f3.f1), .int .u64 ((zl l0 x18_1).f3.f2), .int .u64 ((zl l0 x18_1).f3.f3)]) (fun _ hk => trivial))))⟩; replace BK114 : zb (w20.heap[gb114]? = some (.cells #[.int .i64 ((zl l0 x18_1).f0), .int .i64 ((zl l0 x18_1).f1), .string ((zl l0 x18_1).f2), .int .u64 ((zl l0 x18_1).f3.f0), .int .u64 ((zl l0 x18_1).f3.f1), .int .u64 ((zl l0 x18_1).f3.f2), .int .u64 ((zl l0 x18_1).f3.f3)] 63 (0, 0))) := ⟨(by rw [hw]; exact (by (with_reducible skip); refine xd (cs := #[.int .i64 0, .int .i64 0, .string (⟨#[]⟩ : ByteArray), .int .u64 0, .int .u64 0, .int .u64 0, .int .u64 0]) ?_ _ rfl; (with_reducible skip); exact BK114.out))⟩; replace HB : zb (Below w.heap.size w w20) := ⟨(by rw [hw]; exact bsq)⟩; clear hw; obtain ⟨hcz21_0, hcz21_1, hcz21_2, hcz21_3, hcz21_4, hcz21_5, hcz21_6⟩ := xC BK114.out; obtain ⟨hfz21_0, hfz21_1, hfz21_2, hfz21_3, hfz21_4, hfz21_5, hfz21_6⟩ := xB BK114.out) | (go_at_call 77; (with_reducible refine (qq.calls k1 ((zl l0 x18_1).f0) t115 _ ?side1 A10.out).mono ?_); (case side1 => exact GW.below HG.out bsq); rintro e w' ⟨rfl, ⟨nd, rfl⟩⟩) | (go_at_call 78; (with_reducible refine (zJ.calls k1 ((zl l0 x18_1).f0) ((zl l0 x18_1).f1) ((zl l0 x18_1).f2) ((zl l0 x18_1).f3.f0) ((zl l0 x18_1).f3.f1) ((zl l0 x18_1).f3.f2) ((zl l0 x18_1).f3.f3) true _ ?side1 A16.out).mono ?_); (case side1 => exact GW.below HG.out bsq); rintro e w22 ⟨rfl, hb⟩; replace HO_6 := Kd.rbl HO_6 hb; replace BK114 := zb.mk (qA (g := gb114) (o := .cells #[.int .i64 ((zl l0 x18_1).f0), .int .i64 ((zl l0 x18_1).f1), .string ((zl l0 x18_1).f2), .int .u64 ((zl l0 x18_1).f3.f0), .int .u64 ((zl l0 x18_1).f3.f1), .int .u64 ((zl l0 x18_1).f3.f2), .int .u64 ((zl l0 x18_1).f3.f3)] 63 (0, 0)) (bx BK114.out) hb); replace HB := zb.mk (z6 bsq hb); (try clear hb)) | ((with_reducible refine z3 (N := 10) rfl ?_); (try (refine xi (by rfl) ?_; dsimp only)); refine qk ?hg (N := 10) ?hd (cs := #[.int .i64 0, .int .i64 0]) (t := 91) ?hr ?_; (case hd => rfl); (case hg => rfl); (case hr => (go_simp; done)); intro gb117 hg w23 hbox hb; replace HO_6 := zb.mk (Kd.xk (Kd.xT (Kd.rx HO_6.out) gb117 (Nat.le_of_eq hg.symm)) hb); have BK117 := zb.mk (hbox); have GW117 := zb.mk ((by rw [hg]; exact (zj bsq) : w.heap.size ≤ gb117)); have GE117 := zb.mk ((by rw [hg]; exact (zj bsq) : w.heap.size ≤ gb117)); replace HB := zb.mk (z6 bsq hb); have NB114_117 := zb.mk ((by rw [hg]; exact Nat.ne_of_lt (xS (g := gb114) (o := .cells #[.int .i64 ((zl l0 x18_1).f0), .int .i64 ((zl l0 x18_1).f1), .string ((zl l0 x18_1).f2), .int .u64 ((zl l0 x18_1).f3.f0), .int .u64 ((zl l0 x18_1).f3.f1), .int .u64 ((zl l0 x18_1).f3.f2), .int .u64 ((zl l0 x18_1).f3.f3)] 63 (0, 0)) (bx BK114.out)) : gb114 ≠ gb117)); have NB117_114 := zb.mk ((by rw [hg]; exact Nat.ne_of_gt (xS (g := gb114) (o := .cells #[.int .i64 ((zl l0 x18_1).f0), .int .i64 ((zl l0 x18_1).f1), .string ((zl l0 x18_1).f2), .int .u64 ((zl l0 x18_1).f3.f0), .int .u64 ((zl l0 x18_1).f3.f1), .int .u64 ((zl l0 x18_1).f3.f2), .int .u64 ((zl l0 x18_1).f3.f3)] 63 (0, 0)) (bx BK114.out)) : gb117 ≠ gb114)); replace BK114 := zb.mk (qA (g := gb114) (o := .cells #[.int .i64 ((zl l0 x18_1).f0), .int .i64 ((zl l0 x18_1).f1), .string ((zl l0 x18_1).f2), .int .u64 ((zl l0 x18_1).f3.f0), .int .u64 ((zl l0 x18_1).f3.f1), .int .u64 ((zl l0 x18_1).f3.f2), .int .u64 ((zl l0 x18_1).f3.f3)] 63 (0, 0)) (bx BK114.out) hb); clear hb hbox hg; have hnb24 := NB117_114.out; have hnc24 := NB114_117.out; obtain ⟨hcz25_0, hcz25_1⟩ := blk_c2 BK117.out; obtain ⟨hfz25_0, hfz25_1⟩ := blk_f2 BK117.out))
       go_loopg [36] k1 (fun kq v36 w' => ∃ (x36_2 : Int) (x118000_2 : Int) (x118001_2 : Int), v36 = .int .i64 x36_2 ∧ zb (qj.l1 kq l0 x6_1 x18_1 l0 (l0.length : Int) x18_1 t115 x36_2 ((zl l0 x18_1).f0) ((zl l0 x18_1).f1) ((zl l0 x18_1).f2) ((zl l0 x18_1).f3.f0) ((zl l0 x18_1).f3.f1) ((zl l0 x18_1).f3.f2) ((zl l0 x18_1).f3.f3) x118000_2 x118001_2 = some (r1, r2)) ∧ zb (kq ≤ k1) ∧ zb (Kd.R k91 91 w' w.heap.size (fun k_ => k_ ≠ gb117) u6 x6_1) ∧ zb (w'.heap[gb114]? = some (.cells #[.int .i64 ((zl l0 x18_1).f0), .int .i64 ((zl l0 x18_1).f1), .string ((zl l0 x18_1).f2), .int .u64 ((zl l0 x18_1).f3.f0), .int .u64 ((zl l0 x18_1).f3.f1), .int .u64 ((zl l0 x18_1).f3.f2), .int .u64 ((zl l0 x18_1).f3.f3)] 63 (0, 0))) ∧ zb (w'.heap[gb117]? = some (.cells #[.int .i64 x118000_2, .int .i64 x118001_2] 91 (0, 0))) ∧ zb (Below w.heap.size w w'))
       case atStart => exact ⟨(0), (x18_1), (0), eq0, H', ⟨Nat.le_refl _⟩, ⟨by (with_reducible skip); exact Kd.zH (Kd.jG (p := ⟨gb117, 1, none⟩) (Kd.jG (p := ⟨gb117, 0, none⟩) (Kd.zH HO_6.out (fun k_ hk => (⟨hk, hk.2⟩ : _ ∧ k_ ≠ gb117))) (fun _ hk => hk.2) (.int .i64 x18_1)) (fun _ hk => hk.2) (.int .i64 0)) (fun _ hk => hk.1.2)⟩, ⟨by (with_reducible skip); refine xF ?_ NB114_117.out _; (with_reducible skip); refine xF ?_ NB114_117.out _; (with_reducible skip); exact BK114.out⟩, ⟨by (with_reducible skip); refine jw (cs := #[.int .i64 x18_1, .int .i64 0]) ?_ 1 _ rfl; (with_reducible skip); refine jw (cs := #[.int .i64 0, .int .i64 0]) ?_ 0 _ rfl; (with_reducible skip); exact BK117.out⟩, ⟨bsq⟩⟩
       case round =>
        clear H'
        (try clear c7b0); (try clear c8b0); (try clear c9b0); (try clear c11b0); (try clear hcz19_0); (try clear hcz19_1); (try clear hcz19_2); (try clear hcz19_3); (try clear hcz19_4); (try clear hcz19_5); (try clear hcz19_6); (try clear hcz21_0); (try clear hcz21_1); (try clear hcz21_2); (try clear hcz21_3); (try clear hcz21_4); (try clear hcz21_5); (try clear hcz21_6); (try clear hcz25_0); (try clear hcz25_1); (try clear hfz19_0); (try clear hfz19_1); (try clear hfz19_2); (try clear hfz19_3); (try clear hfz19_4); (try clear hfz19_5); (try clear hfz19_6); (try clear hfz21_0); (try clear hfz21_1); (try clear hfz21_2); (try clear hfz21_3); (try clear hfz21_4); (try clear hfz21_5); (try clear hfz21_6); (try clear hfz25_0); (try clear hfz25_1); (try clear hx113_0); (try clear hx113_1); (try clear hx113_2); (try clear hx113_3); (try clear hx113_4); (try clear hx113_5); (try clear hx113_6); (try clear p113); (try clear q113)
        obtain ⟨x36_2, x118000_2, x118001_2, rfl, HA, HK2, HO_6, BK114, BK117, HB⟩ := hrel
        cases gk with
        | zero => exact absurd HA.out (by simp [qj.l1])
        | succ k2 =>
         have H := HA.out
         clear HA
         simp only [qj.l1] at H
         by_cases c26 : x36_2 < t115
         ·rw [if_pos c26] at H
          have c26b0 := decide_eq_true c26
          clear c26
          by_cases c27 : x118000_2 = 0
          ·rw [if_pos c27] at H
           have c27b0 := beq_iff_eq.mpr c27
           have c27b1 := bne_eq_false_iff_eq.mpr c27
           clear c27
           simp only [Option.some.injEq, Prod.mk.injEq] at H
           obtain ⟨rfl, rfl⟩ := H
           have hnb28 := NB117_114.out
           have hnc28 := NB114_117.out
           obtain ⟨hcz29_0, hcz29_1⟩ := blk_c2 BK117.out
           obtain ⟨hfz29_0, hfz29_1⟩ := blk_f2 BK117.out
           go_wp2
           go_ret2
           exact ⟨eq1, bsq⟩
          ·rw [if_neg c27] at H
           have c27b0 := beq_eq_false_iff_ne.mpr c27
           have c27b1 := bne_iff_ne.mpr c27
           obtain ⟨ji30, hji30⟩ : ∃ j_ : Int, (wrap64 (x118000_2 - 1)) = j_ := ⟨_, rfl⟩
           rw [hji30] at H
           have hji30w : (IntKind.i64.wrap (x118000_2 - 1)) = ji30 := (qd _).trans hji30
           replace H := qh H; obtain ⟨c31, H⟩ := H
           have c31b0 := decide_eq_true c31
           clear c31
           replace H := qh H; obtain ⟨c32, H⟩ := H
           have c32b0 := decide_eq_true c32
           clear c32
           by_cases c33 : x36_2 = 1
           ·rw [if_pos c33] at H
            have c33b0 := beq_iff_eq.mpr c33
            have c33b1 := bne_eq_false_iff_eq.mpr c33
            clear c33
            replace H := qh H; obtain ⟨c34, H⟩ := H
            have c34b0 := decide_eq_true c34
            clear c34
            by_cases c35 : ((zl l0 (ji30)).f0) = ((zl l0 x18_1).f0)
            ·rw [if_pos c35] at H
             have c35b0 := beq_iff_eq.mpr c35
             have c35b1 := bne_eq_false_iff_eq.mpr c35
             clear c35
             obtain ⟨ji36, hji36⟩ : ∃ j_ : Int, (mx x118001_2 (wrap64 (((z5 x6_1 (ji30)).f1) - 1))) = j_ := ⟨_, rfl⟩
             rw [hji36] at H
             have hji36_ : (if x118001_2 < (wrap64 (((z5 x6_1 (ji30)).f1) - 1)) then (wrap64 (((z5 x6_1 (ji30)).f1) - 1)) else x118001_2) = ji36 := hji36
             have H' := zb.mk H
             clear H
             have hnb37 := NB117_114.out
             have hnc37 := NB114_117.out
             obtain ⟨hcz38_0, hcz38_1⟩ := blk_c2 BK117.out
             obtain ⟨hfz38_0, hfz38_1⟩ := blk_f2 BK117.out
             obtain ⟨Ao39, co39, eo39⟩ := Kd.zw HO_6.out
             subst eo39
             have p121 : 0 ≤ ((ji30) : Int) := dq
             have q121 : (ji30) < (x6_1.length : Int) := dq
             obtain ⟨ad121, e121, hx121_0, hx121_1⟩ := at_T91 (Kd.zf HO_6.out).2.2 (ji30) p121 q121
             cases e121
             replace p121 := eq_true p121
             replace q121 := eq_true q121
             go_wp2_with (((with_reducible refine z3 (N := 12) rfl ?_); (try (refine xi (by rfl) ?_; dsimp only)); refine qk ?hg (N := 12) ?hd (cs := #[.int .i64 0, .int .i64 0]) (t := 91) ?hr ?_; (case hd => rfl); (case hg => rfl); (case hr => (go_simp; done)); intro gb122 hg w40 hbox hb; replace HO_6 := zb.mk (Kd.xk (Kd.xT (Kd.rx HO_6.out) gb122 (Nat.le_of_eq hg.symm)) hb); have BK122 := zb.mk (hbox); have GW122 := zb.mk ((by rw [hg]; exact (zj bsq) : w.heap.size ≤ gb122)); have GE122 := zb.mk ((by rw [hg]; exact (zj bsq) : w.heap.size ≤ gb122)); replace HB := zb.mk (z6 bsq hb); have NB114_122 := zb.mk ((by rw [hg]; exact Nat.ne_of_lt (xS (g := gb114) (o := .cells #[.int .i64 ((zl l0 x18_1).f0), .int .i64 ((zl l0 x18_1).f1), .string ((zl l0 x18_1).f2), .int .u64 ((zl l0 x18_1).f3.f0), .int .u64 ((zl l0 x18_1).f3.f1), .int .u64 ((zl l0 x18_1).f3.f2), .int .u64 ((zl l0 x18_1).f3.f3)] 63 (0, 0)) (bx BK114.out)) : gb114 ≠ gb122)); have NB122_114 := zb.mk ((by rw [hg]; exact Nat.ne_of_gt (xS (g := gb114) (o := .cells #[.int .i64 ((zl l0 x18_1).f0), .int .i64 ((zl l0 x18_1).f1), .string ((zl l0 x18_1).f2), .int .u64 ((zl l0 x18_1).f3.f0), .int .u64 ((zl l0 x18_1).f3.f1), .int .u64 ((zl l0 x18_1).f3.f2), .int .u64 ((zl l0 x18_1).f3.f3)] 63 (0, 0)) (bx BK114.out)) : gb122 ≠ gb114)); replace BK114 := zb.mk (qA (g := gb114) (o := .cells #[.int .i64 ((zl l0 x18_1).f0), .int .i64 ((zl l0 x18_1).f1), .string ((zl l0 x18_1).f2), .int .u64 ((zl l0 x18_1).f3.f0), .int .u64 ((zl l0 x18_1).f3.f1), .int .u64 ((zl l0 x18_1).f3.f2), .int .u64 ((zl l0 x18_1).f3.f3)] 63 (0, 0)) (bx BK114.out) hb); have NB117_122 := zb.mk ((by rw [hg]; exact Nat.ne_of_lt (xS (g := gb117) (o := .cells #[.int .i64 x118000_2, .int .i64 x118001_2] 91 (0, 0)) (bx BK117.out)) : gb117 ≠ gb122)); have NB122_117 := zb.mk ((by rw [hg]; exact Nat.ne_of_gt (xS (g := gb117) (o := .cells #[.int .i64 x118000_2, .int .i64 x118001_2] 91 (0, 0)) (bx BK117.out)) : gb122 ≠ gb117)); replace BK117 := zb.mk (qA (g := gb117) (o := .cells #[.int .i64 x118000_2, .int .i64 x118001_2] 91 (0, 0)) (bx BK117.out) hb); clear hb hbox hg; have hnb41 := NB122_114.out; have hnc41 := NB114_122.out; have hnb42 := NB122_117.out; have hnc42 := NB117_122.out; obtain ⟨hcz43_0, hcz43_1⟩ := blk_c2 BK122.out; obtain ⟨hfz43_0, hfz43_1⟩ := blk_f2 BK122.out; obtain ⟨hcz44_0, hcz44_1⟩ := blk_c2 BK117.out; obtain ⟨hfz44_0, hfz44_1⟩ := blk_f2 BK117.out; have p123 : 0 ≤ ((ji30) : Int) := dq; have q123 : (ji30) < (l0.length : Int) := dq; obtain ⟨ad123, e123, hx123_0, hx123_1, hx123_2, hx123_3, hx123_4, hx123_5, hx123_6⟩ := at_T63 HR0.out (ji30) p123 q123; obtain rfl : ad113 = ad123 := (by injection e123); have hn123_0 : ad113.block ≠ gb122 := Nat.ne_of_lt (Nat.lt_of_lt_of_le (by have := World.block_lt_of_cell? _ _ hx123_0; rwa [qz] at this) GW122.out); have hn123_1 : ad113.block ≠ gb122 := Nat.ne_of_lt (Nat.lt_of_lt_of_le (by have := World.block_lt_of_cell? _ _ hx123_0; rwa [qz] at this) GW122.out); replace hx123_0 := cb HB.out hx123_0; replace hx123_1 := cb HB.out hx123_1; replace hx123_2 := cb HB.out hx123_2; replace hx123_3 := cb HB.out hx123_3; replace hx123_4 := cb HB.out hx123_4; replace hx123_5 := cb HB.out hx123_5; replace hx123_6 := cb HB.out hx123_6; replace hx123_0 := (cell_far (p := ⟨gb122, 0, none⟩) (by (rw [qz]; exact hn123_0)) (.int .i64 ((z5 x6_1 (ji30)).f0))).trans hx123_0; replace hx123_1 := (cell_far (p := ⟨gb122, 0, none⟩) (by (rw [qz]; exact hn123_0)) (.int .i64 ((z5 x6_1 (ji30)).f0))).trans hx123_1; replace hx123_2 := (cell_far (p := ⟨gb122, 0, none⟩) (by (rw [qz]; exact hn123_0)) (.int .i64 ((z5 x6_1 (ji30)).f0))).trans hx123_2; replace hx123_3 := (cell_far (p := ⟨gb122, 0, none⟩) (by (rw [qz]; exact hn123_0)) (.int .i64 ((z5 x6_1 (ji30)).f0))).trans hx123_3; replace hx123_4 := (cell_far (p := ⟨gb122, 0, none⟩) (by (rw [qz]; exact hn123_0)) (.int .i64 ((z5 x6_1 (ji30)).f0))).trans hx123_4; replace hx123_5 := (cell_far (p := ⟨gb122, 0, none⟩) (by (rw [qz]; exact hn123_0)) (.int .i64 ((z5 x6_1 (ji30)).f0))).trans hx123_5; replace hx123_6 := (cell_far (p := ⟨gb122, 0, none⟩) (by (rw [qz]; exact hn123_0)) (.int .i64 ((z5 x6_1 (ji30)).f0))).trans hx123_6; replace hx123_0 := (cell_far (p := ⟨gb122, 1, none⟩) (by (rw [qz]; exact hn123_1)) (.int .i64 ((z5 x6_1 (ji30)).f1))).trans hx123_0; replace hx123_1 := (cell_far (p := ⟨gb122, 1, none⟩) (by (rw [qz]; exact hn123_1)) (.int .i64 ((z5 x6_1 (ji30)).f1))).trans hx123_1; replace hx123_2 := (cell_far (p := ⟨gb122, 1, none⟩) (by (rw [qz]; exact hn123_1)) (.int .i64 ((z5 x6_1 (ji30)).f1))).trans hx123_2; replace hx123_3 := (cell_far (p := ⟨gb122, 1, none⟩) (by (rw [qz]; exact hn123_1)) (.int .i64 ((z5 x6_1 (ji30)).f1))).trans hx123_3; replace hx123_4 := (cell_far (p := ⟨gb122, 1, none⟩) (by (rw [qz]; exact hn123_1)) (.int .i64 ((z5 x6_1 (ji30)).f1))).trans hx123_4; replace hx123_5 := (cell_far (p := ⟨gb122, 1, none⟩) (by (rw [qz]; exact hn123_1)) (.int .i64 ((z5 x6_1 (ji30)).f1))).trans hx123_5; replace hx123_6 := (cell_far (p := ⟨gb122, 1, none⟩) (by (rw [qz]; exact hn123_1)) (.int .i64 ((z5 x6_1 (ji30)).f1))).trans hx123_6; (try have hy123_0 := fun (n_ : Nat) => (show ((((w40.drewN n_).setCell ⟨gb122, 0, none⟩ (.int .i64 ((z5 x6_1 (ji30)).f0))).setCell ⟨gb122, 1, none⟩ (.int .i64 ((z5 x6_1 (ji30)).f1)))).cell? _ = some _ from hx123_0)); (try have hy123_1 := fun (n_ : Nat) => (show ((((w40.drewN n_).setCell ⟨gb122, 0, none⟩ (.int .i64 ((z5 x6_1 (ji30)).f0))).setCell ⟨gb122, 1, none⟩ (.int .i64 ((z5 x6_1 (ji30)).f1)))).cell? _ = some _ from hx123_1)); (try have hy123_2 := fun (n_ : Nat) => (show ((((w40.drewN n_).setCell ⟨gb122, 0, none⟩ (.int .i64 ((z5 x6_1 (ji30)).f0))).setCell ⟨gb122, 1, none⟩ (.int .i64 ((z5 x6_1 (ji30)).f1)))).cell? _ = some _ from hx123_2)); (try have hy123_3 := fun (n_ : Nat) => (show ((((w40.drewN n_).setCell ⟨gb122, 0, none⟩ (.int .i64 ((z5 x6_1 (ji30)).f0))).setCell ⟨gb122, 1, none⟩ (.int .i64 ((z5 x6_1 (ji30)).f1)))).cell? _ = some _ from hx123_3)); (try have hy123_4 := fun (n_ : Nat) => (show ((((w40.drewN n_).setCell ⟨gb122, 0, none⟩ (.int .i64 ((z5 x6_1 (ji30)).f0))).setCell ⟨gb122, 1, none⟩ (.int .i64 ((z5 x6_1 (ji30)).f1)))).cell? _ = some _ from hx123_4)); (try have hy123_5 := fun (n_ : Nat) => (show ((((w40.drewN n_).setCell ⟨gb122, 0, none⟩ (.int .i64 ((z5 x6_1 (ji30)).f0))).setCell ⟨gb122, 1, none⟩ (.int .i64 ((z5 x6_1 (ji30)).f1)))).cell? _ = some _ from hx123_5)); (try have hy123_6 := fun (n_ : Nat) => (show ((((w40.drewN n_).setCell ⟨gb122, 0, none⟩ (.int .i64 ((z5 x6_1 (ji30)).f0))).setCell ⟨gb122, 1, none⟩ (.int .i64 ((z5 x6_1 (ji30)).f1)))).cell? _ = some _ from hx123_6)); clear hn123_0; clear hn123_1; replace p123 := eq_true p123; replace q123 := eq_true q123; obtain ⟨hcz45_0, hcz45_1, hcz45_2, hcz45_3, hcz45_4, hcz45_5, hcz45_6⟩ := xC BK114.out; obtain ⟨hfz45_0, hfz45_1, hfz45_2, hfz45_3, hfz45_4, hfz45_5, hfz45_6⟩ := xB BK114.out))
             repeat (go_quiet (fail); try go_wp2_with (fail))
             go_roundg k2
             case measure => have := HK1.out; have := HK2.out; omega
             case rel => exact ⟨(wrap64 (x36_2 + 1)), ((z5 x6_1 (ji30)).f0), (ji36), eq0, H', ⟨by have := HK1.out; have := HK2.out; omega⟩, ⟨by (with_reducible skip); exact Kd.zH (Kd.jG (p := ⟨gb117, 1, none⟩) (Kd.jG (p := ⟨gb117, 0, none⟩) (Kd.jG (p := ⟨gb122, 1, none⟩) (Kd.jG (p := ⟨gb122, 1, none⟩) (Kd.jG (p := ⟨gb122, 0, none⟩) (Kd.zH (Kd.zH HO_6.out (fun k_ hk => (⟨hk, hk.2⟩ : _ ∧ k_ ≠ gb122))) (fun k_ hk => (⟨hk, hk.1.1⟩ : _ ∧ k_ ≠ gb117))) (fun _ hk => hk.1.2) (.int .i64 ((z5 x6_1 (ji30)).f0))) (fun _ hk => hk.1.2) (.int .i64 ((z5 x6_1 (ji30)).f1))) (fun _ hk => hk.1.2) (.int .i64 (wrap64 (((z5 x6_1 (ji30)).f1) - 1)))) (fun _ hk => hk.2) (.int .i64 ((z5 x6_1 (ji30)).f0))) (fun _ hk => hk.2) (.int .i64 ji36)) (fun _ hk => hk.1.1.1)⟩, ⟨by (with_reducible skip); refine xF ?_ NB114_117.out _; (with_reducible skip); refine xF ?_ NB114_117.out _; (with_reducible skip); refine xF ?_ NB114_122.out _; (with_reducible repeat (refine qy ?_ _)); refine xF ?_ NB114_122.out _; (with_reducible skip); refine xF ?_ NB114_122.out _; (with_reducible skip); exact BK114.out⟩, ⟨by (with_reducible skip); refine jw (cs := #[.int .i64 ((z5 x6_1 (ji30)).f0), .int .i64 x118001_2]) ?_ 1 _ rfl; (with_reducible skip); refine jw (cs := #[.int .i64 x118000_2, .int .i64 x118001_2]) ?_ 0 _ rfl; (with_reducible skip); refine xF ?_ NB117_122.out _; (with_reducible repeat (refine qy ?_ _)); refine xF ?_ NB117_122.out _; (with_reducible skip); refine xF ?_ NB117_122.out _; (with_reducible skip); exact BK117.out⟩, ⟨bsq⟩⟩
            ·rw [if_neg c35] at H
             have c35b0 := beq_eq_false_iff_ne.mpr c35
             have c35b1 := bne_iff_ne.mpr c35
             obtain ⟨ji46, hji46⟩ : ∃ j_ : Int, (mx x118001_2 ((z5 x6_1 (ji30)).f1)) = j_ := ⟨_, rfl⟩
             rw [hji46] at H
             have hji46_ : (if x118001_2 < ((z5 x6_1 (ji30)).f1) then ((z5 x6_1 (ji30)).f1) else x118001_2) = ji46 := hji46
             have H' := zb.mk H
             clear H
             have hnb47 := NB117_114.out
             have hnc47 := NB114_117.out
             obtain ⟨hcz48_0, hcz48_1⟩ := blk_c2 BK117.out
             obtain ⟨hfz48_0, hfz48_1⟩ := blk_f2 BK117.out
             obtain ⟨Ao49, co49, eo49⟩ := Kd.zw HO_6.out
             subst eo49
             have p121 : 0 ≤ ((ji30) : Int) := dq
             have q121 : (ji30) < (x6_1.length : Int) := dq
             obtain ⟨ad121, e121, hx121_0, hx121_1⟩ := at_T91 (Kd.zf HO_6.out).2.2 (ji30) p121 q121
             cases e121
             replace p121 := eq_true p121
             replace q121 := eq_true q121
             go_wp2_with (((with_reducible refine z3 (N := 12) rfl ?_); (try (refine xi (by rfl) ?_; dsimp only)); refine qk ?hg (N := 12) ?hd (cs := #[.int .i64 0, .int .i64 0]) (t := 91) ?hr ?_; (case hd => rfl); (case hg => rfl); (case hr => (go_simp; done)); intro gb122 hg w50 hbox hb; replace HO_6 := zb.mk (Kd.xk (Kd.xT (Kd.rx HO_6.out) gb122 (Nat.le_of_eq hg.symm)) hb); have BK122 := zb.mk (hbox); have GW122 := zb.mk ((by rw [hg]; exact (zj bsq) : w.heap.size ≤ gb122)); have GE122 := zb.mk ((by rw [hg]; exact (zj bsq) : w.heap.size ≤ gb122)); replace HB := zb.mk (z6 bsq hb); have NB114_122 := zb.mk ((by rw [hg]; exact Nat.ne_of_lt (xS (g := gb114) (o := .cells #[.int .i64 ((zl l0 x18_1).f0), .int .i64 ((zl l0 x18_1).f1), .string ((zl l0 x18_1).f2), .int .u64 ((zl l0 x18_1).f3.f0), .int .u64 ((zl l0 x18_1).f3.f1), .int .u64 ((zl l0 x18_1).f3.f2), .int .u64 ((zl l0 x18_1).f3.f3)] 63 (0, 0)) (bx BK114.out)) : gb114 ≠ gb122)); have NB122_114 := zb.mk ((by rw [hg]; exact Nat.ne_of_gt (xS (g := gb114) (o := .cells #[.int .i64 ((zl l0 x18_1).f0), .int .i64 ((zl l0 x18_1).f1), .string ((zl l0 x18_1).f2), .int .u64 ((zl l0 x18_1).f3.f0), .int .u64 ((zl l0 x18_1).f3.f1), .int .u64 ((zl l0 x18_1).f3.f2), .int .u64 ((zl l0 x18_1).f3.f3)] 63 (0, 0)) (bx BK114.out)) : gb122 ≠ gb114)); replace BK114 := zb.mk (qA (g := gb114) (o := .cells #[.int .i64 ((zl l0 x18_1).f0), .int .i64 ((zl l0 x18_1).f1), .string ((zl l0 x18_1).f2), .int .u64 ((zl l0 x18_1).f3.f0), .int .u64 ((zl l0 x18_1).f3.f1), .int .u64 ((zl l0 x18_1).f3.f2), .int .u64 ((zl l0 x18_1).f3.f3)] 63 (0, 0)) (bx BK114.out) hb); have NB117_122 := zb.mk ((by rw [hg]; exact Nat.ne_of_lt (xS (g := gb117) (o := .cells #[.int .i64 x118000_2, .int .i64 x118001_2] 91 (0, 0)) (bx BK117.out)) : gb117 ≠ gb122)); have NB122_117 := zb.mk ((by rw [hg]; exact Nat.ne_of_gt (xS (g := gb117) (o := .cells #[.int .i64 x118000_2, .int .i64 x118001_2] 91 (0, 0)) (bx BK117.out)) : gb122 ≠ gb117)); replace BK117 := zb.mk (qA (g := gb117) (o := .cells #[.int .i64 x118000_2, .int .i64 x118001_2] 91 (0, 0)) (bx BK117.out) hb); clear hb hbox hg; have hnb51 := NB122_114.out; have hnc51 := NB114_122.out; have hnb52 := NB122_117.out; have hnc52 := NB117_122.out; obtain ⟨hcz53_0, hcz53_1⟩ := blk_c2 BK122.out; obtain ⟨hfz53_0, hfz53_1⟩ := blk_f2 BK122.out; obtain ⟨hcz54_0, hcz54_1⟩ := blk_c2 BK117.out; obtain ⟨hfz54_0, hfz54_1⟩ := blk_f2 BK117.out; have p123 : 0 ≤ ((ji30) : Int) := dq; have q123 : (ji30) < (l0.length : Int) := dq; obtain ⟨ad123, e123, hx123_0, hx123_1, hx123_2, hx123_3, hx123_4, hx123_5, hx123_6⟩ := at_T63 HR0.out (ji30) p123 q123; obtain rfl : ad113 = ad123 := (by injection e123); have hn123_0 : ad113.block ≠ gb122 := Nat.ne_of_lt (Nat.lt_of_lt_of_le (by have := World.block_lt_of_cell? _ _ hx123_0; rwa [qz] at this) GW122.out); have hn123_1 : ad113.block ≠ gb122 := Nat.ne_of_lt (Nat.lt_of_lt_of_le (by have := World.block_lt_of_cell? _ _ hx123_0; rwa [qz] at this) GW122.out); replace hx123_0 := cb HB.out hx123_0; replace hx123_1 := cb HB.out hx123_1; replace hx123_2 := cb HB.out hx123_2; replace hx123_3 := cb HB.out hx123_3; replace hx123_4 := cb HB.out hx123_4; replace hx123_5 := cb HB.out hx123_5; replace hx123_6 := cb HB.out hx123_6; replace hx123_0 := (cell_far (p := ⟨gb122, 0, none⟩) (by (rw [qz]; exact hn123_0)) (.int .i64 ((z5 x6_1 (ji30)).f0))).trans hx123_0; replace hx123_1 := (cell_far (p := ⟨gb122, 0, none⟩) (by (rw [qz]; exact hn123_0)) (.int .i64 ((z5 x6_1 (ji30)).f0))).trans hx123_1; replace hx123_2 := (cell_far (p := ⟨gb122, 0, none⟩) (by (rw [qz]; exact hn123_0)) (.int .i64 ((z5 x6_1 (ji30)).f0))).trans hx123_2; replace hx123_3 := (cell_far (p := ⟨gb122, 0, none⟩) (by (rw [qz]; exact hn123_0)) (.int .i64 ((z5 x6_1 (ji30)).f0))).trans hx123_3; replace hx123_4 := (cell_far (p := ⟨gb122, 0, none⟩) (by (rw [qz]; exact hn123_0)) (.int .i64 ((z5 x6_1 (ji30)).f0))).trans hx123_4; replace hx123_5 := (cell_far (p := ⟨gb122, 0, none⟩) (by (rw [qz]; exact hn123_0)) (.int .i64 ((z5 x6_1 (ji30)).f0))).trans hx123_5; replace hx123_6 := (cell_far (p := ⟨gb122, 0, none⟩) (by (rw [qz]; exact hn123_0)) (.int .i64 ((z5 x6_1 (ji30)).f0))).trans hx123_6; replace hx123_0 := (cell_far (p := ⟨gb122, 1, none⟩) (by (rw [qz]; exact hn123_1)) (.int .i64 ((z5 x6_1 (ji30)).f1))).trans hx123_0; replace hx123_1 := (cell_far (p := ⟨gb122, 1, none⟩) (by (rw [qz]; exact hn123_1)) (.int .i64 ((z5 x6_1 (ji30)).f1))).trans hx123_1; replace hx123_2 := (cell_far (p := ⟨gb122, 1, none⟩) (by (rw [qz]; exact hn123_1)) (.int .i64 ((z5 x6_1 (ji30)).f1))).trans hx123_2; replace hx123_3 := (cell_far (p := ⟨gb122, 1, none⟩) (by (rw [qz]; exact hn123_1)) (.int .i64 ((z5 x6_1 (ji30)).f1))).trans hx123_3; replace hx123_4 := (cell_far (p := ⟨gb122, 1, none⟩) (by (rw [qz]; exact hn123_1)) (.int .i64 ((z5 x6_1 (ji30)).f1))).trans hx123_4; replace hx123_5 := (cell_far (p := ⟨gb122, 1, none⟩) (by (rw [qz]; exact hn123_1)) (.int .i64 ((z5 x6_1 (ji30)).f1))).trans hx123_5; replace hx123_6 := (cell_far (p := ⟨gb122, 1, none⟩) (by (rw [qz]; exact hn123_1)) (.int .i64 ((z5 x6_1 (ji30)).f1))).trans hx123_6; (try have hy123_0 := fun (n_ : Nat) => (show ((((w50.drewN n_).setCell ⟨gb122, 0, none⟩ (.int .i64 ((z5 x6_1 (ji30)).f0))).setCell ⟨gb122, 1, none⟩ (.int .i64 ((z5 x6_1 (ji30)).f1)))).cell? _ = some _ from hx123_0)); (try have hy123_1 := fun (n_ : Nat) => (show ((((w50.drewN n_).setCell ⟨gb122, 0, none⟩ (.int .i64 ((z5 x6_1 (ji30)).f0))).setCell ⟨gb122, 1, none⟩ (.int .i64 ((z5 x6_1 (ji30)).f1)))).cell? _ = some _ from hx123_1)); (try have hy123_2 := fun (n_ : Nat) => (show ((((w50.drewN n_).setCell ⟨gb122, 0, none⟩ (.int .i64 ((z5 x6_1 (ji30)).f0))).setCell ⟨gb122, 1, none⟩ (.int .i64 ((z5 x6_1 (ji30)).f1)))).cell? _ = some _ from hx123_2)); (try have hy123_3 := fun (n_ : Nat) => (show ((((w50.drewN n_).setCell ⟨gb122, 0, none⟩ (.int .i64 ((z5 x6_1 (ji30)).f0))).setCell ⟨gb122, 1, none⟩ (.int .i64 ((z5 x6_1 (ji30)).f1)))).cell? _ = some _ from hx123_3)); (try have hy123_4 := fun (n_ : Nat) => (show ((((w50.drewN n_).setCell ⟨gb122, 0, none⟩ (.int .i64 ((z5 x6_1 (ji30)).f0))).setCell ⟨gb122, 1, none⟩ (.int .i64 ((z5 x6_1 (ji30)).f1)))).cell? _ = some _ from hx123_4)); (try have hy123_5 := fun (n_ : Nat) => (show ((((w50.drewN n_).setCell ⟨gb122, 0, none⟩ (.int .i64 ((z5 x6_1 (ji30)).f0))).setCell ⟨gb122, 1, none⟩ (.int .i64 ((z5 x6_1 (ji30)).f1)))).cell? _ = some _ from hx123_5)); (try have hy123_6 := fun (n_ : Nat) => (show ((((w50.drewN n_).setCell ⟨gb122, 0, none⟩ (.int .i64 ((z5 x6_1 (ji30)).f0))).setCell ⟨gb122, 1, none⟩ (.int .i64 ((z5 x6_1 (ji30)).f1)))).cell? _ = some _ from hx123_6)); clear hn123_0; clear hn123_1; replace p123 := eq_true p123; replace q123 := eq_true q123; obtain ⟨hcz55_0, hcz55_1, hcz55_2, hcz55_3, hcz55_4, hcz55_5, hcz55_6⟩ := xC BK114.out; obtain ⟨hfz55_0, hfz55_1, hfz55_2, hfz55_3, hfz55_4, hfz55_5, hfz55_6⟩ := xB BK114.out))
             repeat (go_quiet (fail); try go_wp2_with (fail))
             go_roundg k2
             case measure => have := HK1.out; have := HK2.out; omega
             case rel => exact ⟨(wrap64 (x36_2 + 1)), ((z5 x6_1 (ji30)).f0), (ji46), eq0, H', ⟨by have := HK1.out; have := HK2.out; omega⟩, ⟨by (with_reducible skip); exact Kd.zH (Kd.jG (p := ⟨gb117, 1, none⟩) (Kd.jG (p := ⟨gb117, 0, none⟩) (Kd.jG (p := ⟨gb122, 1, none⟩) (Kd.jG (p := ⟨gb122, 0, none⟩) (Kd.zH (Kd.zH HO_6.out (fun k_ hk => (⟨hk, hk.2⟩ : _ ∧ k_ ≠ gb122))) (fun k_ hk => (⟨hk, hk.1.1⟩ : _ ∧ k_ ≠ gb117))) (fun _ hk => hk.1.2) (.int .i64 ((z5 x6_1 (ji30)).f0))) (fun _ hk => hk.1.2) (.int .i64 ((z5 x6_1 (ji30)).f1))) (fun _ hk => hk.2) (.int .i64 ((z5 x6_1 (ji30)).f0))) (fun _ hk => hk.2) (.int .i64 ji46)) (fun _ hk => hk.1.1.1)⟩, ⟨by (with_reducible skip); refine xF ?_ NB114_117.out _; (with_reducible skip); refine xF ?_ NB114_117.out _; (with_reducible repeat (refine qy ?_ _)); refine xF ?_ NB114_122.out _; (with_reducible skip); refine xF ?_ NB114_122.out _; (with_reducible skip); exact BK114.out⟩, ⟨by (with_reducible skip); refine jw (cs := #[.int .i64 ((z5 x6_1 (ji30)).f0), .int .i64 x118001_2]) ?_ 1 _ rfl; (with_reducible skip); refine jw (cs := #[.int .i64 x118000_2, .int .i64 x118001_2]) ?_ 0 _ rfl; (with_reducible repeat (refine qy ?_ _)); refine xF ?_ NB117_122.out _; (with_reducible skip); refine xF ?_ NB117_122.out _; (with_reducible skip); exact BK117.out⟩, ⟨bsq⟩⟩
           ·rw [if_neg c33] at H
            have c33b0 := beq_eq_false_iff_ne.mpr c33
            have c33b1 := bne_iff_ne.mpr c33
            obtain ⟨ji56, hji56⟩ : ∃ j_ : Int, (mx x118001_2 ((z5 x6_1 (ji30)).f1)) = j_ := ⟨_, rfl⟩
            rw [hji56] at H
            have hji56_ : (if x118001_2 < ((z5 x6_1 (ji30)).f1) then ((z5 x6_1 (ji30)).f1) else x118001_2) = ji56 := hji56
            have H' := zb.mk H
            clear H
            have hnb57 := NB117_114.out
            have hnc57 := NB114_117.out
            obtain ⟨hcz58_0, hcz58_1⟩ := blk_c2 BK117.out
            obtain ⟨hfz58_0, hfz58_1⟩ := blk_f2 BK117.out
            obtain ⟨Ao59, co59, eo59⟩ := Kd.zw HO_6.out
            subst eo59
            have p121 : 0 ≤ ((ji30) : Int) := dq
            have q121 : (ji30) < (x6_1.length : Int) := dq
            obtain ⟨ad121, e121, hx121_0, hx121_1⟩ := at_T91 (Kd.zf HO_6.out).2.2 (ji30) p121 q121
            cases e121
            replace p121 := eq_true p121
            replace q121 := eq_true q121
            go_wp2_with (((with_reducible refine z3 (N := 12) rfl ?_); (try (refine xi (by rfl) ?_; dsimp only)); refine qk ?hg (N := 12) ?hd (cs := #[.int .i64 0, .int .i64 0]) (t := 91) ?hr ?_; (case hd => rfl); (case hg => rfl); (case hr => (go_simp; done)); intro gb122 hg w60 hbox hb; replace HO_6 := zb.mk (Kd.xk (Kd.xT (Kd.rx HO_6.out) gb122 (Nat.le_of_eq hg.symm)) hb); have BK122 := zb.mk (hbox); have GW122 := zb.mk ((by rw [hg]; exact (zj bsq) : w.heap.size ≤ gb122)); have GE122 := zb.mk ((by rw [hg]; exact (zj bsq) : w.heap.size ≤ gb122)); replace HB := zb.mk (z6 bsq hb); have NB114_122 := zb.mk ((by rw [hg]; exact Nat.ne_of_lt (xS (g := gb114) (o := .cells #[.int .i64 ((zl l0 x18_1).f0), .int .i64 ((zl l0 x18_1).f1), .string ((zl l0 x18_1).f2), .int .u64 ((zl l0 x18_1).f3.f0), .int .u64 ((zl l0 x18_1).f3.f1), .int .u64 ((zl l0 x18_1).f3.f2), .int .u64 ((zl l0 x18_1).f3.f3)] 63 (0, 0)) (bx BK114.out)) : gb114 ≠ gb122)); have NB122_114 := zb.mk ((by rw [hg]; exact Nat.ne_of_gt (xS (g := gb114) (o := .cells #[.int .i64 ((zl l0 x18_1).f0), .int .i64 ((zl l0 x18_1).f1), .string ((zl l0 x18_1).f2), .int .u64 ((zl l0 x18_1).f3.f0), .int .u64 ((zl l0 x18_1).f3.f1), .int .u64 ((zl l0 x18_1).f3.f2), .int .u64 ((zl l0 x18_1).f3.f3)] 63 (0, 0)) (bx BK114.out)) : gb122 ≠ gb114)); replace BK114 := zb.mk (qA (g := gb114) (o := .cells #[.int .i64 ((zl l0 x18_1).f0), .int .i64 ((zl l0 x18_1).f1), .string ((zl l0 x18_1).f2), .int .u64 ((zl l0 x18_1).f3.f0), .int .u64 ((zl l0 x18_1).f3.f1), .int .u64 ((zl l0 x18_1).f3.f2), .int .u64 ((zl l0 x18_1).f3.f3)] 63 (0, 0)) (bx BK114.out) hb); have NB117_122 := zb.mk ((by rw [hg]; exact Nat.ne_of_lt (xS (g := gb117) (o := .cells #[.int .i64 x118000_2, .int .i64 x118001_2] 91 (0, 0)) (bx BK117.out)) : gb117 ≠ gb122)); have NB122_117 := zb.mk ((by rw [hg]; exact Nat.ne_of_gt (xS (g := gb117) (o := .cells #[.int .i64 x118000_2, .int .i64 x118001_2] 91 (0, 0)) (bx BK117.out)) : gb122 ≠ gb117)); replace BK117 := zb.mk (qA (g := gb117) (o := .cells #[.int .i64 x118000_2, .int .i64 x118001_2] 91 (0, 0)) (bx BK117.out) hb); clear hb hbox hg; have hnb61 := NB122_114.out; have hnc61 := NB114_122.out; have hnb62 := NB122_117.out; have hnc62 := NB117_122.out; obtain ⟨hcz63_0, hcz63_1⟩ := blk_c2 BK122.out; obtain ⟨hfz63_0, hfz63_1⟩ := blk_f2 BK122.out; obtain ⟨hcz64_0, hcz64_1⟩ := blk_c2 BK117.out; obtain ⟨hfz64_0, hfz64_1⟩ := blk_f2 BK117.out))
            repeat (go_quiet (fail); try go_wp2_with (fail))
            go_roundg k2
            case measure => have := HK1.out; have := HK2.out; omega
            case rel => exact ⟨(wrap64 (x36_2 + 1)), ((z5 x6_1 (ji30)).f0), (ji56), eq0, H', ⟨by have := HK1.out; have := HK2.out; omega⟩, ⟨by (with_reducible skip); exact Kd.zH (Kd.jG (p := ⟨gb117, 1, none⟩) (Kd.jG (p := ⟨gb117, 0, none⟩) (Kd.jG (p := ⟨gb122, 1, none⟩) (Kd.jG (p := ⟨gb122, 0, none⟩) (Kd.zH (Kd.zH HO_6.out (fun k_ hk => (⟨hk, hk.2⟩ : _ ∧ k_ ≠ gb122))) (fun k_ hk => (⟨hk, hk.1.1⟩ : _ ∧ k_ ≠ gb117))) (fun _ hk => hk.1.2) (.int .i64 ((z5 x6_1 (ji30)).f0))) (fun _ hk => hk.1.2) (.int .i64 ((z5 x6_1 (ji30)).f1))) (fun _ hk => hk.2) (.int .i64 ((z5 x6_1 (ji30)).f0))) (fun _ hk => hk.2) (.int .i64 ji56)) (fun _ hk => hk.1.1.1)⟩, ⟨by (with_reducible skip); refine xF ?_ NB114_117.out _; (with_reducible skip); refine xF ?_ NB114_117.out _; (with_reducible repeat (refine qy ?_ _)); refine xF ?_ NB114_122.out _; (with_reducible skip); refine xF ?_ NB114_122.out _; (with_reducible skip); exact BK114.out⟩, ⟨by (with_reducible skip); refine jw (cs := #[.int .i64 ((z5 x6_1 (ji30)).f0), .int .i64 x118001_2]) ?_ 1 _ rfl; (with_reducible skip); refine jw (cs := #[.int .i64 x118000_2, .int .i64 x118001_2]) ?_ 0 _ rfl; (with_reducible repeat (refine qy ?_ _)); refine xF ?_ NB117_122.out _; (with_reducible skip); refine xF ?_ NB117_122.out _; (with_reducible skip); exact BK117.out⟩, ⟨bsq⟩⟩
         ·rw [if_neg c26] at H
          have c26b0 := decide_eq_false c26
          clear c26
          by_cases c65 : (wrap64 (x118001_2 + 1)) > 60
          ·rw [if_pos c65] at H
           have c65b0 := decide_eq_true c65
           clear c65
           simp only [Option.some.injEq, Prod.mk.injEq] at H
           obtain ⟨rfl, rfl⟩ := H
           have hnb66 := NB117_114.out
           have hnc66 := NB114_117.out
           obtain ⟨hcz67_0, hcz67_1⟩ := blk_c2 BK117.out
           obtain ⟨hfz67_0, hfz67_1⟩ := blk_f2 BK117.out
           go_wp2
           go_ret2
           exact ⟨eq1, bsq⟩
          ·rw [if_neg c65] at H
           have c65b0 := decide_eq_false c65
           clear c65
           replace H := qh H; obtain ⟨c68, H⟩ := H
           have LMc68 := zb.mk c68
           clear c68
           obtain ⟨y118, hy118⟩ : ∃ y_ : List (S91), y_ = (x6_1 ++ [(⟨x118000_2, wrap64 (x118001_2 + 1)⟩ : S91)]) := ⟨_, rfl⟩
           replace H : ((tree_Check_1.f x18_1 x118000_2 (wrap64 (x118001_2 + 1))).bind fun _ => (qj.l0 k2 l0 y118 l0 (l0.length : Int) (wrap64 (x18_1 + 1)))) = some (r1, r2) := by (rw [hy118]; with_reducible exact H)
           have Ny118 := zb.mk hy118
           clear hy118
           replace H := zO H; obtain ⟨_, A69, H⟩ := H
           have H' := zb.mk H
           clear H
           have hnb70 := NB117_114.out
           have hnc70 := NB114_117.out
           obtain ⟨hcz71_0, hcz71_1⟩ := blk_c2 BK117.out
           obtain ⟨hfz71_0, hfz71_1⟩ := blk_f2 BK117.out
           go_wp2_with (first | ((with_reducible refine qu (b := .append) (xs := #[.tmp 84, .tmp 86]) rfl ?_); (try (refine xi (by rfl) ?_; dsimp only)); at_builtin; refine Kd.xE k91 (w0 := w) w.heap.size rfl (.tmp 84) (.tmp 86) 97 91 (.agg #[(.int .i64 0), (.int .i64 0)]) 16 rfl Tryd.underlying97 info91 rfl (by decide) (by omega) u6 x6_1 (⟨x118000_2, wrap64 (x118001_2 + 1)⟩ : S91) [.int .i64 x118000_2, .int .i64 (wrap64 (x118001_2 + 1))] (fun k_ => k_ ≠ gb117) (fun _ => False) rfl (by (go_simp; done)) ?aP (fun _ hk => hk.elim) ?aF ?aO ?aB ?aS ?aL ?_; (case aP => exact k91_mkM _ _ _ (⟨x118000_2, wrap64 (x118001_2 + 1)⟩ : S91)); (case aB => exact bsq); (case aF => exact (fun k_ hk => Kd.freshB (g := gb117) (o := .cells #[.int .i64 x118000_2, .int .i64 (wrap64 (x118001_2 + 1))] 91 (0, 0)) (by (with_reducible skip); refine jw (cs := #[.int .i64 x118000_2, .int .i64 x118001_2]) ?_ 1 _ rfl; (with_reducible skip); exact BK117.out) k_ hk)); (case aO => exact (by (with_reducible skip); exact Kd.zH (Kd.jG (p := ⟨gb117, 1, none⟩) (Kd.zH HO_6.out (fun k_ hk => (⟨hk, hk⟩ : _ ∧ k_ ≠ gb117))) (fun _ hk => hk.2) (.int .i64 (wrap64 (x118001_2 + 1)))) (fun _ hk => hk.1))); (case aS => exact (zj bsq)); (case aL => have := LMc68.out; omega); intro v119 w72 ho hb hg hat; rw [← Ny118.out] at ho; replace BK114 := zb.mk (xc (g := gb114) (o := .cells #[.int .i64 ((zl l0 x18_1).f0), .int .i64 ((zl l0 x18_1).f1), .string ((zl l0 x18_1).f2), .int .u64 ((zl l0 x18_1).f3.f0), .int .u64 ((zl l0 x18_1).f3.f1), .int .u64 ((zl l0 x18_1).f3.f2), .int .u64 ((zl l0 x18_1).f3.f3)] 63 (0, 0)) (by (with_reducible skip); refine xF ?_ NB114_117.out _; (with_reducible skip); exact BK114.out) hg (Kd.R_ne HO_6.out BK114.out (by decide))); replace BK117 := zb.mk (xc (g := gb117) (o := .cells #[.int .i64 x118000_2, .int .i64 (wrap64 (x118001_2 + 1))] 91 (0, 0)) (by (with_reducible skip); refine jw (cs := #[.int .i64 x118000_2, .int .i64 x118001_2]) ?_ 1 _ rfl; (with_reducible skip); exact BK117.out) hg (Kd.R_away HO_6.out (fun _ hk => hk))); replace HB := zb.mk (hb); have HO120 := zb.mk (ho); clear HO_6; clear ho hb hg hat; obtain ⟨hcz73_0, hcz73_1⟩ := blk_c2 BK117.out; obtain ⟨hfz73_0, hfz73_1⟩ := blk_f2 BK117.out) | (go_at_call 91; (with_reducible refine (tree_Check_1.calls x18_1 x118000_2 (wrap64 (x118001_2 + 1))  _ ?side1 A69.out).mono ?_); (case side1 => exact GW.below HG.out bsq); rintro e w74 ⟨rfl, hb⟩; replace HO120 := Kd.rbl HO120 hb; replace BK114 := zb.mk (qA (g := gb114) (o := .cells #[.int .i64 ((zl l0 x18_1).f0), .int .i64 ((zl l0 x18_1).f1), .string ((zl l0 x18_1).f2), .int .u64 ((zl l0 x18_1).f3.f0), .int .u64 ((zl l0 x18_1).f3.f1), .int .u64 ((zl l0 x18_1).f3.f2), .int .u64 ((zl l0 x18_1).f3.f3)] 63 (0, 0)) (bx BK114.out) hb); replace BK117 := zb.mk (qA (g := gb117) (o := .cells #[.int .i64 x118000_2, .int .i64 (wrap64 (x118001_2 + 1))] 91 (0, 0)) (bx BK117.out) hb); replace HB := zb.mk (z6 bsq hb); (try clear hb)))
           go_roundg k2
           case measure => have := HK1.out; have := HK2.out; omega
           case rel => exact ⟨(y118), (wrap64 (x18_1 + 1)), eq0, H', ⟨by have := HK1.out; have := HK2.out; omega⟩, ⟨Kd.rx (Kd.zH HO120.out (fun _ hk => trivial))⟩, ⟨bsq⟩⟩
      ·replace c17 := Bool.eq_false_iff.mpr c17
       subst c17
       replace H := ifF H
       simp only [Option.some.injEq, Prod.mk.injEq] at H
       obtain ⟨rfl, rfl⟩ := H
       have p113 : 0 ≤ (x18_1 : Int) := dq
       have q113 : x18_1 < (l0.length : Int) := dq
       obtain ⟨ad113, e113, hx113_0, hx113_1, hx113_2, hx113_3, hx113_4, hx113_5, hx113_6⟩ := at_T63 HR0.out x18_1 p113 q113
       cases e113
       replace hx113_0 := cb HB.out hx113_0
       replace hx113_1 := cb HB.out hx113_1
       replace hx113_2 := cb HB.out hx113_2
       replace hx113_3 := cb HB.out hx113_3
       replace hx113_4 := cb HB.out hx113_4
       replace hx113_5 := cb HB.out hx113_5
       replace hx113_6 := cb HB.out hx113_6
       replace p113 := eq_true p113
       replace q113 := eq_true q113
       go_wp2_with (first | ((with_reducible refine z3 (N := 8) rfl ?_); (try (refine xi (by rfl) ?_; dsimp only)); refine qk ?hg (N := 8) ?hd (cs := #[.int .i64 0, .int .i64 0, .string (⟨#[]⟩ : ByteArray), .int .u64 0, .int .u64 0, .int .u64 0, .int .u64 0]) (t := 63) ?hr ?_; (case hd => rfl); (case hg => rfl); (case hr => (go_simp; done)); intro gb114 hg w75 hbox hb; replace HO_6 := Kd.rbl HO_6 hb; have BK114 := zb.mk (hbox); have GW114 := zb.mk ((by rw [hg]; exact (zj (bl HB.out)) : w.heap.size ≤ gb114)); have GE114 := zb.mk ((by rw [hg]; exact (zj (bl HB.out)) : w.heap.size ≤ gb114)); replace HB := bst HB hb; clear hb hbox hg; obtain ⟨hcz76_0, hcz76_1, hcz76_2, hcz76_3, hcz76_4, hcz76_5, hcz76_6⟩ := xC BK114.out; obtain ⟨hfz76_0, hfz76_1, hfz76_2, hfz76_3, hfz76_4, hfz76_5, hfz76_6⟩ := xB BK114.out) | ((with_reducible refine zM (t := 63) (p := 8) rfl ?_); refine zB (t := 63) (p := 8) (v := ?vo_w77) (w1 := (xr w75 gb114 #[.int .i64 ((zl l0 x18_1).f0), .int .i64 ((zl l0 x18_1).f1), .string ((zl l0 x18_1).f2), .int .u64 ((zl l0 x18_1).f3.f0), .int .u64 ((zl l0 x18_1).f3.f1), .int .u64 ((zl l0 x18_1).f3.f2), .int .u64 ((zl l0 x18_1).f3.f3)])) ?hg ?ho ?hn ?hr ?_; (case ho => rfl); (case hg => rfl); (case hn => rfl); (case hr => (go_simp; rfl)); intro w77 hw; replace HO_6 : zb (Kd.R k91 91 w77 w.heap.size (fun _ => True) u6 x6_1) := ⟨(by rw [hw]; exact (Kd.rx (Kd.zH (Kd.jc (g := gb114) (Kd.jK HO_6.out BK114.out (by decide)) (fun _ hk => hk.2) #[.int .i64 ((zl l0 x18_1).f0), .int .i64 ((zl l0 x18_1).f1), .string ((zl l0 x18_1).f2), .int .u64 ((zl l0 x18_1).f3.f0), .int .u64 ((zl l0 x18_1).f3.f1), .int .u64 ((zl l0 x18_1).f3.f2), .int .u64 ((zl l0 x18_1).f3.f3)]) (fun _ hk => trivial))))⟩; replace BK114 : zb (w77.heap[gb114]? = some (.cells #[.int .i64 ((zl l0 x18_1).f0), .int .i64 ((zl l0 x18_1).f1), .string ((zl l0 x18_1).f2), .int .u64 ((zl l0 x18_1).f3.f0), .int .u64 ((zl l0 x18_1).f3.f1), .int .u64 ((zl l0 x18_1).f3.f2), .int .u64 ((zl l0 x18_1).f3.f3)] 63 (0, 0))) := ⟨(by rw [hw]; exact (by (with_reducible skip); refine xd (cs := #[.int .i64 0, .int .i64 0, .string (⟨#[]⟩ : ByteArray), .int .u64 0, .int .u64 0, .int .u64 0, .int .u64 0]) ?_ _ rfl; (with_reducible skip); exact BK114.out))⟩; replace HB : zb (Below w.heap.size w w77) := ⟨(by rw [hw]; exact bsq)⟩; clear hw; obtain ⟨hcz78_0, hcz78_1, hcz78_2, hcz78_3, hcz78_4, hcz78_5, hcz78_6⟩ := xC BK114.out; obtain ⟨hfz78_0, hfz78_1, hfz78_2, hfz78_3, hfz78_4, hfz78_5, hfz78_6⟩ := xB BK114.out) | (go_at_call 77; (with_reducible refine (qq.calls k1 ((zl l0 x18_1).f0) t115 _ ?side1 A10.out).mono ?_); (case side1 => exact GW.below HG.out bsq); rintro e w' ⟨rfl, ⟨nd, rfl⟩⟩) | (go_at_call 78; (with_reducible refine (zJ.calls k1 ((zl l0 x18_1).f0) ((zl l0 x18_1).f1) ((zl l0 x18_1).f2) ((zl l0 x18_1).f3.f0) ((zl l0 x18_1).f3.f1) ((zl l0 x18_1).f3.f2) ((zl l0 x18_1).f3.f3) false _ ?side1 A16.out).mono ?_); (case side1 => exact GW.below HG.out bsq); rintro e w79 ⟨rfl, hb⟩; replace HO_6 := Kd.rbl HO_6 hb; replace BK114 := zb.mk (qA (g := gb114) (o := .cells #[.int .i64 ((zl l0 x18_1).f0), .int .i64 ((zl l0 x18_1).f1), .string ((zl l0 x18_1).f2), .int .u64 ((zl l0 x18_1).f3.f0), .int .u64 ((zl l0 x18_1).f3.f1), .int .u64 ((zl l0 x18_1).f3.f2), .int .u64 ((zl l0 x18_1).f3.f3)] 63 (0, 0)) (bx BK114.out) hb); replace HB := zb.mk (z6 bsq hb); (try clear hb)))
       go_ret2
       exact ⟨eq1, bsq⟩
    ·rw [if_neg c7] at H
     have c7b0 := decide_eq_false c7
     clear c7
     by_cases c80 : (l0.length : Int) = 0
     ·rw [if_pos c80] at H
      have c80b0 := beq_iff_eq.mpr c80
      have c80b1 := bne_eq_false_iff_eq.mpr c80
      clear c80
      simp only [Option.some.injEq, Prod.mk.injEq] at H
      obtain ⟨rfl, rfl⟩ := H
      go_wp2
      go_ret2
      exact ⟨eq1, bl HB.out⟩
     ·rw [if_neg c80] at H
      have c80b0 := beq_eq_false_iff_ne.mpr c80
      have c80b1 := bne_iff_ne.mpr c80
      have c80b2 : ¬ (l0 = []) := fun h_ => c80 (by rw [h_]; rfl)
      obtain ⟨ji81, hji81⟩ : ∃ j_ : Int, (wrap64 ((l0.length : Int) - 1)) = j_ := ⟨_, rfl⟩
      rw [hji81] at H
      have hji81w : (IntKind.i64.wrap ((l0.length : Int) - 1)) = ji81 := (qd _).trans hji81
      replace H := qh H; obtain ⟨c82, H⟩ := H
      have c82b0 := decide_eq_true c82
      clear c82
      replace H := qh H; obtain ⟨c83, H⟩ := H
      have c83b0 := decide_eq_true c83
      clear c83
      by_cases c84 : ((z5 x6_1 (ji81)).f0) = 0
      ·rw [if_pos c84] at H
       have c84b0 := beq_iff_eq.mpr c84
       have c84b1 := bne_eq_false_iff_eq.mpr c84
       clear c84
       simp only [Option.some.injEq, Prod.mk.injEq] at H
       obtain ⟨rfl, rfl⟩ := H
       obtain ⟨Ao85, co85, eo85⟩ := Kd.zw HO_6.out
       subst eo85
       have p112 : 0 ≤ ((ji81) : Int) := dq
       have q112 : (ji81) < (x6_1.length : Int) := dq
       obtain ⟨ad112, e112, hx112_0, hx112_1⟩ := at_T91 (Kd.zf HO_6.out).2.2 (ji81) p112 q112
       cases e112
       replace p112 := eq_true p112
       replace q112 := eq_true q112
       go_wp2
       go_ret2
       exact ⟨by rfl, bl HB.out⟩
      ·rw [if_neg c84] at H
       have c84b0 := beq_eq_false_iff_ne.mpr c84
       have c84b1 := bne_iff_ne.mpr c84
       simp only [Option.some.injEq, Prod.mk.injEq] at H
       obtain ⟨rfl, rfl⟩ := H
       obtain ⟨Ao86, co86, eo86⟩ := Kd.zw HO_6.out
       subst eo86
       have p112 : 0 ≤ ((ji81) : Int) := dq
       have q112 : (ji81) < (x6_1.length : Int) := dq
       obtain ⟨ad112, e112, hx112_0, hx112_1⟩ := at_T91 (Kd.zf HO_6.out).2.2 (ji81) p112 q112
       cases e112
       replace p112 := eq_true p112
       replace q112 := eq_true q112
       go_wp2
       go_ret2
       exact ⟨by rfl, bl HB.out⟩
 ·rw [if_neg c3] at H
  exact absurd H (by simp)
def xI.f (k : Nat) (l0 : List (S63)) : Option (Int × Int) := if (l0.length : Int) > 2048 then (some (0, 2)) else ((qj.f k l0).bind fun bt124 => (some (bt124.1, bt124.2)))
theorem xI.calls (k : Nat) (A0 : Option Addr) (c0 : Nat) (l0 : List (S63)) (r1 r2 : Int) (w : World) (hG : GW w) (hr0 : Kd.C k63 w A0 l0.length l0) (hc0 : l0.length ≤ c0) (h : xI.f k l0 = some (r1, r2)) :
  Calls Tryd.prog 79 #[.slice A0 l0.length c0] w fun e w' => e = .returned (.tuple #[.int .i64 r1, .int .i64 r2]) ∧ Below w.heap.size w w' := by
 have HR0 := zb.mk hr0
 have HC0 := zb.mk hc0
 clear hr0 hc0
 have HG := zb.mk hG
 clear hG
 have HB := zb.mk (Below.refl w.heap.size w)
 have H : (if (l0.length : Int) > 2048 then (some (0, 2)) else ((qj.f k l0).bind fun bt124 => (some (bt124.1, bt124.2)))) = some (r1, r2) := h
 clear h
 by_cases c2 : (l0.length : Int) > 2048
 ·rw [if_pos c2] at H
  have c2b0 := decide_eq_true c2
  have c2b1 : decide (2048 < l0.length) = true := decide_eq_true (by omega)
  clear c2
  simp only [Option.some.injEq, Prod.mk.injEq] at H
  obtain ⟨rfl, rfl⟩ := H
  go_enter Tryd.func79, Tryd.ntmps79
  go_wp2
  go_ret2
  exact ⟨eq1, bl HB.out⟩
 ·rw [if_neg c2] at H
  have c2b0 := decide_eq_false c2
  have c2b1 : decide (2048 < l0.length) = false := decide_eq_false (by omega)
  clear c2
  replace H := zO H; obtain ⟨⟨t124, t125⟩, A3, H⟩ := H; try dsimp only at H
  simp only [Option.some.injEq, Prod.mk.injEq] at H
  obtain ⟨rfl, rfl⟩ := H
  go_enter Tryd.func79, Tryd.ntmps79
  go_wp2_with (((with_reducible refine zc (f := 90) rfl ?_); refine zh (some 8) rfl rfl Tryd.func90 (by kernel_rfl) rfl #[.slice A0 l0.length c0, .func (.func 91) #[] #[]] rfl hq ?_; (with_reducible refine (qj.calls k _ _ l0  t124 t125 _ ?side3 ?side1 ?side2 A3.out).mono ?_); (case side1 => exact Kd.cx HR0.out); (case side2 => exact HC0.out); (case side3 => exact gb HG HB); rintro e w4 ⟨rfl, hb⟩; refine ⟨_, rfl, ?_⟩; replace HB := bst HB hb; (try clear hb)))
  go_ret2
  exact ⟨eq1, bl HB.out⟩
def jF.f (k : Nat) (l0 : List (S63)) : Option ((List (S63)) × Int) := (xI.f k l0).bind fun bt126 => (if bt126.2 = 0 then (some (l0, 0)) else (some (([] : List (S63)), bt126.2)))
theorem jF.calls (k : Nat) (P0_ : Nat → Prop) (u9000_ : Value) (l0 r1 : List (S63)) (r2 : Int) (w0 w : World) (hG : GW w0) (hB : Below w0.heap.size w0 w) (ho0 : Kd.R k63 63 w w0.heap.size P0_ u9000_ l0) (h : jF.f k l0 = some (r1, r2)) :
  Calls Tryd.prog 80 #[u9000_] w fun e w' => ∃ v0_ : Value, e = .returned (.tuple #[v0_, .int .i64 r2]) ∧ Kd.R k63 63 w' w0.heap.size (fun k_ => (P0_ k_ ∨ w.heap.size ≤ k_)) v0_ r1 ∧ Below w0.heap.size w0 w' ∧ Kept w w' (fun k_ => P0_ k_) := by
 have HO0 := zb.mk (show Kd.R k63 63 w w0.heap.size (fun k_ => (P0_ k_ ∨ w.heap.size ≤ k_)) u9000_ l0 from Kd.zH ho0 (fun k_ hk => (.inl hk)))
 have HG := zb.mk hG
 clear hG
 have HK := zb.mk (Kept.refl w (fun k_ => P0_ k_))
 have HW0 := zb.mk hB.size
 have HB := zb.mk hB
 clear hB
 have H : ((xI.f k l0).bind fun bt126 => (if bt126.2 = 0 then (some (l0, 0)) else (some (([] : List (S63)), bt126.2)))) = some (r1, r2) := h
 clear h
 replace H := zO H; obtain ⟨⟨t126, t127⟩, A2, H⟩ := H; try dsimp only at H
 by_cases c3 : t127 = 0
 ·rw [if_pos c3] at H
  have c3b0 := beq_iff_eq.mpr c3
  have c3b1 := bne_eq_false_iff_eq.mpr c3
  clear c3
  simp only [Option.some.injEq, Prod.mk.injEq] at H
  obtain ⟨rfl, rfl⟩ := H
  obtain ⟨Ao4, co4, eo4⟩ := Kd.zw HO0.out
  subst eo4
  go_enter Tryd.func80, Tryd.ntmps80
  go_wp2_with (((with_reducible refine zc (f := 79) rfl ?_); refine zh (some 8) rfl rfl Tryd.func79 (by kernel_rfl) rfl #[.slice Ao4 l0.length co4] rfl hq ?_; (with_reducible refine (xI.calls k _ _ l0 t126 t127 _ ?side3 ?side1 ?side2 A2.out).mono ?_); (case side1 => repeat (exact (Kd.zf HO0.out).2.2)); (case side2 => exact (Kd.zf HO0.out).2.1); (case side3 => exact gb HG HB); rintro e w5 ⟨rfl, hb⟩; refine ⟨_, rfl, ?_⟩; replace HO0 := Kd.rbl HO0 hb; replace HK := zb.mk (Kept.below (S := (fun k_ => P0_ k_)) (by repeat ((with_reducible exact HK.out))) hb); replace HB := bst HB hb; (try clear hb)))
  go_ret2
  exact ⟨_, eq1, Kd.rx HO0.out, bl HB.out, by repeat ((with_reducible exact HK.out))⟩
 ·rw [if_neg c3] at H
  have c3b0 := beq_eq_false_iff_ne.mpr c3
  have c3b1 := bne_iff_ne.mpr c3
  simp only [Option.some.injEq, Prod.mk.injEq] at H
  obtain ⟨rfl, rfl⟩ := H
  obtain ⟨Ao6, co6, eo6⟩ := Kd.zw HO0.out
  subst eo6
  go_enter Tryd.func80, Tryd.ntmps80
  go_wp2_with (((with_reducible refine zc (f := 79) rfl ?_); refine zh (some 8) rfl rfl Tryd.func79 (by kernel_rfl) rfl #[.slice Ao6 l0.length co6] rfl hq ?_; (with_reducible refine (xI.calls k _ _ l0 t126 t127 _ ?side3 ?side1 ?side2 A2.out).mono ?_); (case side1 => repeat (exact (Kd.zf HO0.out).2.2)); (case side2 => exact (Kd.zf HO0.out).2.1); (case side3 => exact gb HG HB); rintro e w7 ⟨rfl, hb⟩; refine ⟨_, rfl, ?_⟩; replace HO0 := Kd.rbl HO0 hb; replace HK := zb.mk (Kept.below (S := (fun k_ => P0_ k_)) (by repeat ((with_reducible exact HK.out))) hb); replace HB := bst HB hb; (try clear hb)))
  go_ret2
  exact ⟨_, eq1, by exact Kd.ji _ _ _ _ _, bl HB.out, by repeat ((with_reducible exact HK.out))⟩
def xv.l0 : Nat → List (S63) → List (List (S63)) → Int → Int → Int → Int → ByteArray → Int → Int → Int → Int → Option ((List (S63)) × Int)
 | 0, _, _, _, _, _, _, _, _, _, _, _ => none
 | k + 1, x7, x27, x28, x29, x129000, x129001, x129002, x129003, x129004, x129005, x129006 => if x29 < x28 then (if 0 ≤ x29 then (if x29 < (x27.length : Int) then ((xI.f k (rd_L6 x27 x29)).bind fun bt132 => (if bt132.2 = 0 then (if x7.length + (rd_L6 x27 x29).length < 2199023255552 then (xv.l0 k (x7 ++ (rd_L6 x27 x29)) x27 x28 (wrap64 (x29 + 1)) x129000 x129001 x129002 x129003 x129004 x129005 x129006) else (none)) else (some (([] : List (S63)), bt132.2)))) else (none)) else (none)) else (if x7.length < 2199023255552 then ((jF.f k (x7 ++ [(⟨x129000, x129001, x129002, (⟨x129003, x129004, x129005, x129006⟩ : S32)⟩ : S63)])).bind fun bt140 => (some (bt140.1, bt140.2))) else (none))
def xv.f (k : Nat) (a0_0 : Int) (a0_1 : Int) (a0_2 : ByteArray) (a0_3 : Int) (a0_4 : Int) (a0_5 : Int) (a0_6 : Int) (l1 : List (List (S63))) : Option ((List (S63)) × Int) := (qq.f k a0_0).bind fun t129 => (if t129 < 0 then (some (([] : List (S63)), 40)) else ((zJ.f k a0_0 a0_1 a0_2 a0_3 a0_4 a0_5 a0_6).bind fun t130 => (if t130 = true then (if t129 = (l1.length : Int) then (xv.l0 k ([] : List (S63)) l1 (l1.length : Int) 0 a0_0 a0_1 a0_2 a0_3 a0_4 a0_5 a0_6) else (some (([] : List (S63)), 42))) else (some (([] : List (S63)), 41)))))
theorem xv.calls (k : Nat) (a0_0 a0_1 : Int) (a0_2 : ByteArray) (a0_3 a0_4 a0_5 a0_6 : Int) (A1 : Option Addr) (c1 : Nat) (l1 : List (List (S63))) (r1 : List (S63)) (r2 : Int) (w : World) (hG : GW w) (hr1 : Kd.C (Kd.slice 63 k63) w A1 l1.length l1) (hc1 : l1.length ≤ c1) (h : xv.f k a0_0 a0_1 a0_2 a0_3 a0_4 a0_5 a0_6 l1 = some (r1, r2)) :
  Calls Tryd.prog 65 #[.agg #[.int .i64 a0_0, .int .i64 a0_1, .string a0_2, .int .u64 a0_3, .int .u64 a0_4, .int .u64 a0_5, .int .u64 a0_6], .slice A1 l1.length c1] w fun e w' => ∃ v0_ : Value, e = .returned (.tuple #[v0_, .int .i64 r2]) ∧ Kd.R k63 63 w' w.heap.size (fun _ => True) v0_ r1 ∧ Below w.heap.size w w' := by
 have hu63 := Tryd.underlying63
 have HR1 := zb.mk hr1
 have HC1 := zb.mk hc1
 clear hr1 hc1
 have HG := zb.mk hG
 clear hG
 have HB := zb.mk (Below.refl w.heap.size w)
 have H : ((qq.f k a0_0).bind fun t129 => (if t129 < 0 then (some (([] : List (S63)), 40)) else ((zJ.f k a0_0 a0_1 a0_2 a0_3 a0_4 a0_5 a0_6).bind fun t130 => (if t130 = true then (if t129 = (l1.length : Int) then (xv.l0 k ([] : List (S63)) l1 (l1.length : Int) 0 a0_0 a0_1 a0_2 a0_3 a0_4 a0_5 a0_6) else (some (([] : List (S63)), 42))) else (some (([] : List (S63)), 41)))))) = some (r1, r2) := h
 clear h
 replace H := zO H; obtain ⟨t129, A3, H⟩ := H
 by_cases c4 : t129 < 0
 ·rw [if_pos c4] at H
  have c4b0 := decide_eq_true c4
  clear c4
  simp only [Option.some.injEq, Prod.mk.injEq] at H
  obtain ⟨rfl, rfl⟩ := H
  go_enter Tryd.func65, Tryd.ntmps65
  go_wp2_with (first | ((with_reducible refine z3 (N := 2) rfl ?_); refine qk ?hg (N := 2) ?hd (cs := #[.int .i64 a0_0, .int .i64 a0_1, .string a0_2, .int .u64 a0_3, .int .u64 a0_4, .int .u64 a0_5, .int .u64 a0_6]) (t := 63) ?hr ?_; (case hd => rfl); (case hg => rfl); (case hr => (go_simp; done)); intro gb128 hg w5 hbox hb; have BK128 := zb.mk (hbox); have GW128 := zb.mk ((by rw [hg]; exact (zj (bl HB.out)) : w.heap.size ≤ gb128)); have GE128 := zb.mk ((by rw [hg]; exact (zj (bl HB.out)) : w.heap.size ≤ gb128)); replace HB := bst HB hb; clear hb hbox hg; obtain ⟨hcz6_0, hcz6_1, hcz6_2, hcz6_3, hcz6_4, hcz6_5, hcz6_6⟩ := xC BK128.out; obtain ⟨hfz6_0, hfz6_1, hfz6_2, hfz6_3, hfz6_4, hfz6_5, hfz6_6⟩ := xB BK128.out) | ((with_reducible refine zc (f := 77) rfl ?_); refine zh (some 14) rfl rfl Tryd.func77 (by kernel_rfl) rfl #[.int .i64 a0_0] rfl hq ?_; (with_reducible refine (qq.calls k a0_0 t129 _ ?side1 A3.out).mono ?_); (case side1 => exact GW.below HG.out bsq); rintro e w' ⟨rfl, ⟨nd, rfl⟩⟩; refine ⟨_, rfl, ?_⟩))
  go_ret2
  exact ⟨_, eq1, by exact Kd.ji _ _ _ _ _, bsq⟩
 ·rw [if_neg c4] at H
  have c4b0 := decide_eq_false c4
  clear c4
  replace H := zO H; obtain ⟨t130, A7, H⟩ := H
  by_cases c8 : t130 = true
  ·subst c8
   replace H := ifT H
   by_cases c9 : t129 = (l1.length : Int)
   ·rw [if_pos c9] at H
    have c9b0 := beq_iff_eq.mpr c9
    have c9b1 := bne_eq_false_iff_eq.mpr c9
    clear c9
    have H' := zb.mk H
    clear H
    go_enter Tryd.func65, Tryd.ntmps65
    go_wp2_with (first | ((with_reducible refine z3 (N := 2) rfl ?_); refine qk ?hg (N := 2) ?hd (cs := #[.int .i64 a0_0, .int .i64 a0_1, .string a0_2, .int .u64 a0_3, .int .u64 a0_4, .int .u64 a0_5, .int .u64 a0_6]) (t := 63) ?hr ?_; (case hd => rfl); (case hg => rfl); (case hr => (go_simp; done)); intro gb128 hg w10 hbox hb; have BK128 := zb.mk (hbox); have GW128 := zb.mk ((by rw [hg]; exact (zj (bl HB.out)) : w.heap.size ≤ gb128)); have GE128 := zb.mk ((by rw [hg]; exact (zj (bl HB.out)) : w.heap.size ≤ gb128)); replace HB := bst HB hb; clear hb hbox hg; obtain ⟨hcz11_0, hcz11_1, hcz11_2, hcz11_3, hcz11_4, hcz11_5, hcz11_6⟩ := xC BK128.out; obtain ⟨hfz11_0, hfz11_1, hfz11_2, hfz11_3, hfz11_4, hfz11_5, hfz11_6⟩ := xB BK128.out) | ((with_reducible refine zc (f := 77) rfl ?_); refine zh (some 14) rfl rfl Tryd.func77 (by kernel_rfl) rfl #[.int .i64 a0_0] rfl hq ?_; (with_reducible refine (qq.calls k a0_0 t129 _ ?side1 A3.out).mono ?_); (case side1 => exact GW.below HG.out bsq); rintro e w' ⟨rfl, ⟨nd, rfl⟩⟩; refine ⟨_, rfl, ?_⟩) | ((with_reducible refine zc (f := 78) rfl ?_); refine zh (some 20) rfl rfl Tryd.func78 (by kernel_rfl) rfl #[.agg #[.int .i64 a0_0, .int .i64 a0_1, .string a0_2, .int .u64 a0_3, .int .u64 a0_4, .int .u64 a0_5, .int .u64 a0_6]] rfl hq ?_; (with_reducible refine (zJ.calls k a0_0 a0_1 a0_2 a0_3 a0_4 a0_5 a0_6 true _ ?side1 A7.out).mono ?_); (case side1 => exact GW.below HG.out bsq); rintro e w12 ⟨rfl, hb⟩; refine ⟨_, rfl, ?_⟩; replace BK128 := zb.mk (qA (g := gb128) (o := .cells #[.int .i64 a0_0, .int .i64 a0_1, .string a0_2, .int .u64 a0_3, .int .u64 a0_4, .int .u64 a0_5, .int .u64 a0_6] 63 (0, 0)) (bx BK128.out) hb); replace HB := zb.mk (z6 bsq hb); (try clear hb)))
    go_loopg [7, 29] k (fun kq v7 v29 w' => ∃ (x7_1 : List (S63)) (x29_1 : Int), v29 = .int .i64 x29_1 ∧ zb (xv.l0 kq x7_1 l1 (l1.length : Int) x29_1 a0_0 a0_1 a0_2 a0_3 a0_4 a0_5 a0_6 = some (r1, r2)) ∧ zb (kq ≤ k) ∧ zb (Kd.R k63 63 w' w.heap.size (fun k_ => k_ ≠ gb128) v7 x7_1) ∧ zb (w'.heap[gb128]? = some (.cells #[.int .i64 a0_0, .int .i64 a0_1, .string a0_2, .int .u64 a0_3, .int .u64 a0_4, .int .u64 a0_5, .int .u64 a0_6] 63 (0, 0))) ∧ zb (Below w.heap.size w w'))
    case atStart => exact ⟨(([] : List (S63))), (0), eq0, H', ⟨Nat.le_refl _⟩, ⟨by exact Kd.ji _ _ _ _ _⟩, ⟨by (with_reducible skip); exact BK128.out⟩, ⟨bsq⟩⟩
    case round =>
     clear H'
     (try clear c4b0); (try clear c9b0); (try clear c9b1); (try clear hcz11_0); (try clear hcz11_1); (try clear hcz11_2); (try clear hcz11_3); (try clear hcz11_4); (try clear hcz11_5); (try clear hcz11_6); (try clear hfz11_0); (try clear hfz11_1); (try clear hfz11_2); (try clear hfz11_3); (try clear hfz11_4); (try clear hfz11_5); (try clear hfz11_6)
     obtain ⟨x7_1, x29_1, rfl, HA, HK1, HO_7, BK128, HB⟩ := hrel
     cases gk with
     | zero => exact absurd HA.out (by simp [xv.l0])
     | succ k1 =>
      have H := HA.out
      clear HA
      simp only [xv.l0] at H
      by_cases c13 : x29_1 < (l1.length : Int)
      ·rw [if_pos c13] at H
       have c13b0 := decide_eq_true c13
       clear c13
       replace H := qh H; obtain ⟨c14, H⟩ := H
       have c14b0 := decide_eq_true c14
       clear c14
       replace H := qh H; obtain ⟨c15, H⟩ := H
       have c15b0 := decide_eq_true c15
       clear c15
       replace H := zO H; obtain ⟨⟨t132, t133⟩, A16, H⟩ := H; try dsimp only at H
       by_cases c17 : t133 = 0
       ·rw [if_pos c17] at H
        have c17b0 := beq_iff_eq.mpr c17
        have c17b1 := bne_eq_false_iff_eq.mpr c17
        clear c17
        replace H := qh H; obtain ⟨c18, H⟩ := H
        have LMc18 := zb.mk c18
        clear c18
        obtain ⟨y134, hy134⟩ : ∃ y_ : List (S63), y_ = (x7_1 ++ (rd_L6 l1 x29_1)) := ⟨_, rfl⟩
        replace H : (xv.l0 k1 y134 l1 (l1.length : Int) (wrap64 (x29_1 + 1)) a0_0 a0_1 a0_2 a0_3 a0_4 a0_5 a0_6) = some (r1, r2) := by (rw [hy134]; with_reducible exact H)
        have Ny134 := zb.mk hy134
        clear hy134
        have H' := zb.mk H
        clear H
        have p131 : 0 ≤ (x29_1 : Int) := dq
        have q131 : x29_1 < (l1.length : Int) := dq
        obtain ⟨ad131, A131_0, c131_0, e131, hx131_0, hl131_0, hi131_0⟩ := at_L6 HR1.out x29_1 p131 q131
        cases e131
        replace hx131_0 := cb HB.out hx131_0
        have HR131_0 := zb.mk hi131_0
        have HC131_0 := zb.mk hl131_0
        clear hi131_0 hl131_0
        replace p131 := eq_true p131
        replace q131 := eq_true q131
        go_wp2_with (first | ((with_reducible refine zc (f := 79) rfl ?_); refine zh (some 35) rfl rfl Tryd.func79 (by kernel_rfl) rfl #[.slice A131_0 (rd_L6 l1 x29_1).length c131_0] rfl hq ?_; (with_reducible refine (xI.calls k1 _ _ (rd_L6 l1 x29_1) t132 t133 _ ?side3 ?side1 ?side2 A16.out).mono ?_); (case side1 => exact Kd.cx (Kd.zF HR131_0.out HB.out)); (case side2 => exact HC131_0.out); (case side3 => exact GW.below HG.out bsq); rintro e w19 ⟨rfl, hb⟩; refine ⟨_, rfl, ?_⟩; replace HO_7 := Kd.rbl HO_7 hb; replace BK128 := zb.mk (qA (g := gb128) (o := .cells #[.int .i64 a0_0, .int .i64 a0_1, .string a0_2, .int .u64 a0_3, .int .u64 a0_4, .int .u64 a0_5, .int .u64 a0_6] 63 (0, 0)) (bx BK128.out) hb); replace HB := zb.mk (z6 bsq hb); (try clear hb)) | ((with_reducible refine qu (b := .append) (xs := #[.tmp 41, .tmp 42]) rfl ?_); at_builtin; refine Kd.jI k63 (w0 := w) w.heap.size rfl (.tmp 41) (.tmp 42) 65 63 (.agg #[(.int .i64 0), (.int .i64 0), (.string ⟨#[]⟩), (.int .u64 0), (.int .u64 0), (.int .u64 0), (.int .u64 0)]) 64 rfl Tryd.underlying65 info63 rfl (by decide) (by omega) u7 x7_1 (rd_L6 l1 x29_1) _ _ _ (fun k_ => k_ ≠ gb128) (fun _ => False) rfl rfl ?aO ?aR (fun _ _ h => h) (fun _ h => h.elim) ?aF ?aB ?aS ?aL ?_; (case aR => exact Kd.cx (Kd.zF HR131_0.out HB.out)); (case aB => exact bsq); (case aF => exact (fun k_ hk => Kd.freshB (g := gb128) (o := .cells #[.int .i64 a0_0, .int .i64 a0_1, .string a0_2, .int .u64 a0_3, .int .u64 a0_4, .int .u64 a0_5, .int .u64 a0_6] 63 (0, 0)) (bx BK128.out) k_ hk)); (case aO => exact (Kd.rx HO_7.out)); (case aS => exact (zj bsq)); (case aL => have := LMc18.out; omega); intro v135 w20 ho hb hg hat; rw [← Ny134.out] at ho; replace BK128 := zb.mk (xc (g := gb128) (o := .cells #[.int .i64 a0_0, .int .i64 a0_1, .string a0_2, .int .u64 a0_3, .int .u64 a0_4, .int .u64 a0_5, .int .u64 a0_6] 63 (0, 0)) (bx BK128.out) hg (Kd.R_away HO_7.out (fun _ hk => hk))); replace HB := zb.mk (hb); have HO136 := zb.mk (ho); clear HO_7; clear ho hb hg hat))
        go_roundg k1
        case measure => have := HK1.out; omega
        case rel => exact ⟨(y134), (wrap64 (x29_1 + 1)), eq0, H', ⟨by have := HK1.out; omega⟩, ⟨Kd.rx HO136.out⟩, ⟨by (with_reducible skip); exact BK128.out⟩, ⟨bsq⟩⟩
       ·rw [if_neg c17] at H
        have c17b0 := beq_eq_false_iff_ne.mpr c17
        have c17b1 := bne_iff_ne.mpr c17
        simp only [Option.some.injEq, Prod.mk.injEq] at H
        obtain ⟨rfl, rfl⟩ := H
        have p131 : 0 ≤ (x29_1 : Int) := dq
        have q131 : x29_1 < (l1.length : Int) := dq
        obtain ⟨ad131, A131_0, c131_0, e131, hx131_0, hl131_0, hi131_0⟩ := at_L6 HR1.out x29_1 p131 q131
        cases e131
        replace hx131_0 := cb HB.out hx131_0
        have HR131_0 := zb.mk hi131_0
        have HC131_0 := zb.mk hl131_0
        clear hi131_0 hl131_0
        replace p131 := eq_true p131
        replace q131 := eq_true q131
        go_wp2_with (((with_reducible refine zc (f := 79) rfl ?_); refine zh (some 35) rfl rfl Tryd.func79 (by kernel_rfl) rfl #[.slice A131_0 (rd_L6 l1 x29_1).length c131_0] rfl hq ?_; (with_reducible refine (xI.calls k1 _ _ (rd_L6 l1 x29_1) t132 t133 _ ?side3 ?side1 ?side2 A16.out).mono ?_); (case side1 => exact Kd.cx (Kd.zF HR131_0.out HB.out)); (case side2 => exact HC131_0.out); (case side3 => exact GW.below HG.out bsq); rintro e w21 ⟨rfl, hb⟩; refine ⟨_, rfl, ?_⟩; replace HO_7 := Kd.rbl HO_7 hb; replace BK128 := zb.mk (qA (g := gb128) (o := .cells #[.int .i64 a0_0, .int .i64 a0_1, .string a0_2, .int .u64 a0_3, .int .u64 a0_4, .int .u64 a0_5, .int .u64 a0_6] 63 (0, 0)) (bx BK128.out) hb); replace HB := zb.mk (z6 bsq hb); (try clear hb)))
        go_ret2
        exact ⟨_, eq1, by exact Kd.ji _ _ _ _ _, bsq⟩
      ·rw [if_neg c13] at H
       have c13b0 := decide_eq_false c13
       clear c13
       replace H := qh H; obtain ⟨c22, H⟩ := H
       have LMc22 := zb.mk c22
       clear c22
       obtain ⟨y137, hy137⟩ : ∃ y_ : List (S63), y_ = (x7_1 ++ [(⟨a0_0, a0_1, a0_2, (⟨a0_3, a0_4, a0_5, a0_6⟩ : S32)⟩ : S63)]) := ⟨_, rfl⟩
       replace H : ((jF.f k1 y137).bind fun bt140 => (some (bt140.1, bt140.2))) = some (r1, r2) := by (rw [hy137]; with_reducible exact H)
       have Ny137 := zb.mk hy137
       clear hy137
       replace H := zO H; obtain ⟨⟨t140, t143⟩, A23, H⟩ := H; try dsimp only at H
       simp only [Option.some.injEq, Prod.mk.injEq] at H
       obtain ⟨rfl, rfl⟩ := H
       obtain ⟨hcz24_0, hcz24_1, hcz24_2, hcz24_3, hcz24_4, hcz24_5, hcz24_6⟩ := xC BK128.out
       obtain ⟨hfz24_0, hfz24_1, hfz24_2, hfz24_3, hfz24_4, hfz24_5, hfz24_6⟩ := xB BK128.out
       go_wp2_with (first | ((with_reducible refine qu (b := .append) (xs := #[.tmp 45, .tmp 47]) rfl ?_); at_builtin; refine Kd.xE k63 (w0 := w) w.heap.size rfl (.tmp 45) (.tmp 47) 65 63 (.agg #[(.int .i64 0), (.int .i64 0), (.string ⟨#[]⟩), (.int .u64 0), (.int .u64 0), (.int .u64 0), (.int .u64 0)]) 64 rfl Tryd.underlying65 info63 rfl (by decide) (by omega) u7 x7_1 (⟨a0_0, a0_1, a0_2, (⟨a0_3, a0_4, a0_5, a0_6⟩ : S32)⟩ : S63) [.int .i64 a0_0, .int .i64 a0_1, .string a0_2, .int .u64 a0_3, .int .u64 a0_4, .int .u64 a0_5, .int .u64 a0_6] (fun k_ => k_ ≠ gb128) (fun _ => False) rfl rfl ?aP (fun _ hk => hk.elim) ?aF ?aO ?aB ?aS ?aL ?_; (case aP => exact k63_mkM _ _ _ (⟨a0_0, a0_1, a0_2, (⟨a0_3, a0_4, a0_5, a0_6⟩ : S32)⟩ : S63)); (case aB => exact bsq); (case aF => exact (fun k_ hk => Kd.freshB (g := gb128) (o := .cells #[.int .i64 a0_0, .int .i64 a0_1, .string a0_2, .int .u64 a0_3, .int .u64 a0_4, .int .u64 a0_5, .int .u64 a0_6] 63 (0, 0)) (bx BK128.out) k_ hk)); (case aO => exact (Kd.rx HO_7.out)); (case aS => exact (zj bsq)); (case aL => have := LMc22.out; omega); intro v138 w25 ho hb hg hat; rw [← Ny137.out] at ho; replace BK128 := zb.mk (xc (g := gb128) (o := .cells #[.int .i64 a0_0, .int .i64 a0_1, .string a0_2, .int .u64 a0_3, .int .u64 a0_4, .int .u64 a0_5, .int .u64 a0_6] 63 (0, 0)) (bx BK128.out) hg (Kd.R_away HO_7.out (fun _ hk => hk))); replace HB := zb.mk (hb); have HO139 := zb.mk (ho); clear HO_7; clear ho hb hg hat; obtain ⟨Ao26, co26, eo26⟩ := Kd.zw HO139.out; subst eo26) | ((with_reducible refine zc (f := 80) rfl ?_); refine zh (some 49) rfl rfl Tryd.func80 (by kernel_rfl) rfl #[.slice Ao26 y137.length co26] rfl hq ?_; (with_reducible refine (jF.calls k1 (fun k_ => some k_ = (.slice Ao26 y137.length co26 : Value).ownBlock) (.slice Ao26 y137.length co26) y137 t140 t143 w _ HG.out ?side1 ?side2 A23.out).mono ?_); (case side1 => repeat ((with_reducible exact HB.out))); (case side2 => exact Kd.jz rfl HO139.out); rintro e w27 ⟨v141, rfl, ho0, hb, hkp⟩; refine ⟨_, rfl, ?_⟩; have HO142 := zb.mk (Kd.zH (ok' := fun k_ => k_ ≠ gb128) ho0 (fun k_ hk_ => Or.elim hk_ (fun hs_ => fun e_ => (Kd.R_away HO139.out (fun _ hk => hk)) (by rw [← e_]; exact hs_)) (fun hn_ => (Kd.freshB (g := gb128) (o := .cells #[.int .i64 a0_0, .int .i64 a0_1, .string a0_2, .int .u64 a0_3, .int .u64 a0_4, .int .u64 a0_5, .int .u64 a0_6] 63 (0, 0)) (bx BK128.out) k_ hn_)))); replace BK128 := zb.mk (blk_kept (bx BK128.out) hkp (fun hs_ => (fun e_ => (Kd.R_away HO139.out (fun _ hk => hk)) e_) hs_)); replace HB := zb.mk (hb); clear HO139; (try clear hb); (try clear hkp); (try clear ho0)))
       go_ret2
       exact ⟨_, eq1, Kd.rx (Kd.zH HO142.out (fun _ hk => trivial)), bsq⟩
   ·rw [if_neg c9] at H
    have c9b0 := beq_eq_false_iff_ne.mpr c9
    have c9b1 := bne_iff_ne.mpr c9
    simp only [Option.some.injEq, Prod.mk.injEq] at H
    obtain ⟨rfl, rfl⟩ := H
    go_enter Tryd.func65, Tryd.ntmps65
    go_wp2_with (first | ((with_reducible refine z3 (N := 2) rfl ?_); refine qk ?hg (N := 2) ?hd (cs := #[.int .i64 a0_0, .int .i64 a0_1, .string a0_2, .int .u64 a0_3, .int .u64 a0_4, .int .u64 a0_5, .int .u64 a0_6]) (t := 63) ?hr ?_; (case hd => rfl); (case hg => rfl); (case hr => (go_simp; done)); intro gb128 hg w28 hbox hb; have BK128 := zb.mk (hbox); have GW128 := zb.mk ((by rw [hg]; exact (zj (bl HB.out)) : w.heap.size ≤ gb128)); have GE128 := zb.mk ((by rw [hg]; exact (zj (bl HB.out)) : w.heap.size ≤ gb128)); replace HB := bst HB hb; clear hb hbox hg; obtain ⟨hcz29_0, hcz29_1, hcz29_2, hcz29_3, hcz29_4, hcz29_5, hcz29_6⟩ := xC BK128.out; obtain ⟨hfz29_0, hfz29_1, hfz29_2, hfz29_3, hfz29_4, hfz29_5, hfz29_6⟩ := xB BK128.out) | ((with_reducible refine zc (f := 77) rfl ?_); refine zh (some 14) rfl rfl Tryd.func77 (by kernel_rfl) rfl #[.int .i64 a0_0] rfl hq ?_; (with_reducible refine (qq.calls k a0_0 t129 _ ?side1 A3.out).mono ?_); (case side1 => exact GW.below HG.out bsq); rintro e w' ⟨rfl, ⟨nd, rfl⟩⟩; refine ⟨_, rfl, ?_⟩) | ((with_reducible refine zc (f := 78) rfl ?_); refine zh (some 20) rfl rfl Tryd.func78 (by kernel_rfl) rfl #[.agg #[.int .i64 a0_0, .int .i64 a0_1, .string a0_2, .int .u64 a0_3, .int .u64 a0_4, .int .u64 a0_5, .int .u64 a0_6]] rfl hq ?_; (with_reducible refine (zJ.calls k a0_0 a0_1 a0_2 a0_3 a0_4 a0_5 a0_6 true _ ?side1 A7.out).mono ?_); (case side1 => exact GW.below HG.out bsq); rintro e w30 ⟨rfl, hb⟩; refine ⟨_, rfl, ?_⟩; replace BK128 := zb.mk (qA (g := gb128) (o := .cells #[.int .i64 a0_0, .int .i64 a0_1, .string a0_2, .int .u64 a0_3, .int .u64 a0_4, .int .u64 a0_5, .int .u64 a0_6] 63 (0, 0)) (bx BK128.out) hb); replace HB := zb.mk (z6 bsq hb); (try clear hb)))
    go_ret2
    exact ⟨_, eq1, by exact Kd.ji _ _ _ _ _, bsq⟩
  ·replace c8 := Bool.eq_false_iff.mpr c8
   subst c8
   replace H := ifF H
   simp only [Option.some.injEq, Prod.mk.injEq] at H
   obtain ⟨rfl, rfl⟩ := H
   go_enter Tryd.func65, Tryd.ntmps65
   go_wp2_with (first | ((with_reducible refine z3 (N := 2) rfl ?_); refine qk ?hg (N := 2) ?hd (cs := #[.int .i64 a0_0, .int .i64 a0_1, .string a0_2, .int .u64 a0_3, .int .u64 a0_4, .int .u64 a0_5, .int .u64 a0_6]) (t := 63) ?hr ?_; (case hd => rfl); (case hg => rfl); (case hr => (go_simp; done)); intro gb128 hg w31 hbox hb; have BK128 := zb.mk (hbox); have GW128 := zb.mk ((by rw [hg]; exact (zj (bl HB.out)) : w.heap.size ≤ gb128)); have GE128 := zb.mk ((by rw [hg]; exact (zj (bl HB.out)) : w.heap.size ≤ gb128)); replace HB := bst HB hb; clear hb hbox hg; obtain ⟨hcz32_0, hcz32_1, hcz32_2, hcz32_3, hcz32_4, hcz32_5, hcz32_6⟩ := xC BK128.out; obtain ⟨hfz32_0, hfz32_1, hfz32_2, hfz32_3, hfz32_4, hfz32_5, hfz32_6⟩ := xB BK128.out) | ((with_reducible refine zc (f := 77) rfl ?_); refine zh (some 14) rfl rfl Tryd.func77 (by kernel_rfl) rfl #[.int .i64 a0_0] rfl hq ?_; (with_reducible refine (qq.calls k a0_0 t129 _ ?side1 A3.out).mono ?_); (case side1 => exact GW.below HG.out bsq); rintro e w' ⟨rfl, ⟨nd, rfl⟩⟩; refine ⟨_, rfl, ?_⟩) | ((with_reducible refine zc (f := 78) rfl ?_); refine zh (some 20) rfl rfl Tryd.func78 (by kernel_rfl) rfl #[.agg #[.int .i64 a0_0, .int .i64 a0_1, .string a0_2, .int .u64 a0_3, .int .u64 a0_4, .int .u64 a0_5, .int .u64 a0_6]] rfl hq ?_; (with_reducible refine (zJ.calls k a0_0 a0_1 a0_2 a0_3 a0_4 a0_5 a0_6 false _ ?side1 A7.out).mono ?_); (case side1 => exact GW.below HG.out bsq); rintro e w33 ⟨rfl, hb⟩; refine ⟨_, rfl, ?_⟩; replace BK128 := zb.mk (qA (g := gb128) (o := .cells #[.int .i64 a0_0, .int .i64 a0_1, .string a0_2, .int .u64 a0_3, .int .u64 a0_4, .int .u64 a0_5, .int .u64 a0_6] 63 (0, 0)) (bx BK128.out) hb); replace HB := zb.mk (z6 bsq hb); (try clear hb)))
   go_ret2
   exact ⟨_, eq1, by exact Kd.ji _ _ _ _ _, bsq⟩
def qQ.f (k : Nat) (a0 : Int) (a1 : Int) (a2 : ByteArray) : Option (Bool) := if a0 = 1 then (if a1 = 0 then (some (a2.toList == ([] : List UInt8))) else (some false)) else ((xv.f k (wrap64 ((wrap64 (a0 - 2)) + 18)) a1 a2 0 0 0 0 (([(([(⟨3, 0, (⟨#[]⟩ : ByteArray), (⟨0, 0, 0, 0⟩ : S32)⟩ : S63)] : List (S63)))] : List (List (S63))))).bind fun bt151 => (some (bt151.2 == 0)))
theorem qQ.calls (k : Nat) (a0 a1 : Int) (a2 : ByteArray) (r : Bool) (w : World) (hG : GW w) (h : qQ.f k a0 a1 a2 = some r) :
  Calls Tryd.prog 59 #[.int .i64 a0, .int .i64 a1, .string a2] w fun e w' => e = .returned (.bool r) ∧ Below w.heap.size w w' := by
 have hu63 := Tryd.underlying63
 have HG := zb.mk hG
 clear hG
 have HB := zb.mk (Below.refl w.heap.size w)
 have H : (if a0 = 1 then (if a1 = 0 then (some (a2.toList == ([] : List UInt8))) else (some false)) else ((xv.f k (wrap64 ((wrap64 (a0 - 2)) + 18)) a1 a2 0 0 0 0 (([(([(⟨3, 0, (⟨#[]⟩ : ByteArray), (⟨0, 0, 0, 0⟩ : S32)⟩ : S63)] : List (S63)))] : List (List (S63))))).bind fun bt151 => (some (bt151.2 == 0)))) = some r := h
 clear h
 by_cases c4 : a0 = 1
 ·rw [if_pos c4] at H
  have c4b0 := beq_iff_eq.mpr c4
  have c4b1 := bne_eq_false_iff_eq.mpr c4
  clear c4
  by_cases c5 : a1 = 0
  ·rw [if_pos c5] at H
   have c5b0 := beq_iff_eq.mpr c5
   have c5b1 := bne_eq_false_iff_eq.mpr c5
   clear c5
   obtain rfl := Option.some.inj H
   go_enter Tryd.func59, Tryd.ntmps59
   go_wp2_with (first | ((with_reducible refine z3 (N := 7) rfl ?_); refine qk ?hg (N := 7) ?hd (cs := #[.int .i64 0, .int .i64 0, .string (⟨#[]⟩ : ByteArray), .int .u64 0, .int .u64 0, .int .u64 0, .int .u64 0]) (t := 63) ?hr ?_; (case hd => rfl); (case hg => rfl); (case hr => (go_simp; done)); intro gb144 hg w6 hbox hb; have BK144 := zb.mk (hbox); have GW144 := zb.mk ((by rw [hg]; exact (zj (bl HB.out)) : w.heap.size ≤ gb144)); have GE144 := zb.mk ((by rw [hg]; exact (zj (bl HB.out)) : w.heap.size ≤ gb144)); replace HB := bst HB hb; clear hb hbox hg; obtain ⟨hcz7_0, hcz7_1, hcz7_2, hcz7_3, hcz7_4, hcz7_5, hcz7_6⟩ := xC BK144.out; obtain ⟨hfz7_0, hfz7_1, hfz7_2, hfz7_3, hfz7_4, hfz7_5, hfz7_6⟩ := xB BK144.out) | ((with_reducible refine zM (t := 63) (p := 7) rfl ?_); refine zB (t := 63) (p := 7) (v := ?vo_w8) (w1 := (xr w6 gb144 #[.int .i64 (wrap64 ((wrap64 (a0 - 2)) + 18)), .int .i64 a1, .string a2, .int .u64 0, .int .u64 0, .int .u64 0, .int .u64 0])) ?hg ?ho ?hn ?hr ?_; (case ho => rfl); (case hg => rfl); (case hn => rfl); (case hr => (go_simp; rfl)); intro w8 hw; replace BK144 : zb (w8.heap[gb144]? = some (.cells #[.int .i64 (wrap64 ((wrap64 (a0 - 2)) + 18)), .int .i64 a1, .string a2, .int .u64 0, .int .u64 0, .int .u64 0, .int .u64 0] 63 (0, 0))) := ⟨(by rw [hw]; exact (by (with_reducible skip); refine xd (cs := #[.int .i64 0, .int .i64 0, .string (⟨#[]⟩ : ByteArray), .int .u64 0, .int .u64 0, .int .u64 0, .int .u64 0]) ?_ _ rfl; (with_reducible skip); exact BK144.out))⟩; replace HB : zb (Below w.heap.size w w8) := ⟨(by rw [hw]; exact bsq)⟩; clear hw))
   go_ret
   exact ⟨eq1, bsq⟩
  ·rw [if_neg c5] at H
   have c5b0 := beq_eq_false_iff_ne.mpr c5
   have c5b1 := bne_iff_ne.mpr c5
   obtain rfl := Option.some.inj H
   go_enter Tryd.func59, Tryd.ntmps59
   go_wp2_with (first | ((with_reducible refine z3 (N := 7) rfl ?_); refine qk ?hg (N := 7) ?hd (cs := #[.int .i64 0, .int .i64 0, .string (⟨#[]⟩ : ByteArray), .int .u64 0, .int .u64 0, .int .u64 0, .int .u64 0]) (t := 63) ?hr ?_; (case hd => rfl); (case hg => rfl); (case hr => (go_simp; done)); intro gb144 hg w9 hbox hb; have BK144 := zb.mk (hbox); have GW144 := zb.mk ((by rw [hg]; exact (zj (bl HB.out)) : w.heap.size ≤ gb144)); have GE144 := zb.mk ((by rw [hg]; exact (zj (bl HB.out)) : w.heap.size ≤ gb144)); replace HB := bst HB hb; clear hb hbox hg; obtain ⟨hcz10_0, hcz10_1, hcz10_2, hcz10_3, hcz10_4, hcz10_5, hcz10_6⟩ := xC BK144.out; obtain ⟨hfz10_0, hfz10_1, hfz10_2, hfz10_3, hfz10_4, hfz10_5, hfz10_6⟩ := xB BK144.out) | ((with_reducible refine zM (t := 63) (p := 7) rfl ?_); refine zB (t := 63) (p := 7) (v := ?vo_w11) (w1 := (xr w9 gb144 #[.int .i64 (wrap64 ((wrap64 (a0 - 2)) + 18)), .int .i64 a1, .string a2, .int .u64 0, .int .u64 0, .int .u64 0, .int .u64 0])) ?hg ?ho ?hn ?hr ?_; (case ho => rfl); (case hg => rfl); (case hn => rfl); (case hr => (go_simp; rfl)); intro w11 hw; replace BK144 : zb (w11.heap[gb144]? = some (.cells #[.int .i64 (wrap64 ((wrap64 (a0 - 2)) + 18)), .int .i64 a1, .string a2, .int .u64 0, .int .u64 0, .int .u64 0, .int .u64 0] 63 (0, 0))) := ⟨(by rw [hw]; exact (by (with_reducible skip); refine xd (cs := #[.int .i64 0, .int .i64 0, .string (⟨#[]⟩ : ByteArray), .int .u64 0, .int .u64 0, .int .u64 0, .int .u64 0]) ?_ _ rfl; (with_reducible skip); exact BK144.out))⟩; replace HB : zb (Below w.heap.size w w11) := ⟨(by rw [hw]; exact bsq)⟩; clear hw))
   go_ret
   exact ⟨eq1, bsq⟩
 ·rw [if_neg c4] at H
  have c4b0 := beq_eq_false_iff_ne.mpr c4
  have c4b1 := bne_iff_ne.mpr c4
  obtain ⟨y145, hy145⟩ : ∃ y_ : List (S63), y_ = (([(⟨3, 0, (⟨#[]⟩ : ByteArray), (⟨0, 0, 0, 0⟩ : S32)⟩ : S63)] : List (S63))) := ⟨_, rfl⟩
  replace H : ((xv.f k (wrap64 ((wrap64 (a0 - 2)) + 18)) a1 a2 0 0 0 0 (([y145] : List (List (S63))))).bind fun bt151 => (some (bt151.2 == 0))) = some r := by (rw [hy145]; with_reducible exact H)
  have Ny145 := zb.mk hy145
  clear hy145
  obtain ⟨y148, hy148⟩ : ∃ y_ : List (List (S63)), y_ = (([y145] : List (List (S63)))) := ⟨_, rfl⟩
  replace H : ((xv.f k (wrap64 ((wrap64 (a0 - 2)) + 18)) a1 a2 0 0 0 0 y148).bind fun bt151 => (some (bt151.2 == 0))) = some r := by (rw [hy148]; with_reducible exact H)
  have Ny148 := zb.mk hy148
  clear hy148
  replace H := zO H; obtain ⟨⟨t151, t154⟩, A12, H⟩ := H; try dsimp only at H
  obtain rfl := Option.some.inj H
  go_enter Tryd.func59, Tryd.ntmps59
  go_wp2_with (first | ((with_reducible refine z3 (N := 7) rfl ?_); refine qk ?hg (N := 7) ?hd (cs := #[.int .i64 0, .int .i64 0, .string (⟨#[]⟩ : ByteArray), .int .u64 0, .int .u64 0, .int .u64 0, .int .u64 0]) (t := 63) ?hr ?_; (case hd => rfl); (case hg => rfl); (case hr => (go_simp; done)); intro gb144 hg w13 hbox hb; have BK144 := zb.mk (hbox); have GW144 := zb.mk ((by rw [hg]; exact (zj (bl HB.out)) : w.heap.size ≤ gb144)); have GE144 := zb.mk ((by rw [hg]; exact (zj (bl HB.out)) : w.heap.size ≤ gb144)); replace HB := bst HB hb; clear hb hbox hg; obtain ⟨hcz14_0, hcz14_1, hcz14_2, hcz14_3, hcz14_4, hcz14_5, hcz14_6⟩ := xC BK144.out; obtain ⟨hfz14_0, hfz14_1, hfz14_2, hfz14_3, hfz14_4, hfz14_5, hfz14_6⟩ := xB BK144.out) | ((with_reducible refine zM (t := 63) (p := 7) rfl ?_); refine zB (t := 63) (p := 7) (v := ?vo_w15) (w1 := (xr w13 gb144 #[.int .i64 (wrap64 ((wrap64 (a0 - 2)) + 18)), .int .i64 a1, .string a2, .int .u64 0, .int .u64 0, .int .u64 0, .int .u64 0])) ?hg ?ho ?hn ?hr ?_; (case ho => rfl); (case hg => rfl); (case hn => rfl); (case hr => (go_simp; rfl)); intro w15 hw; replace BK144 : zb (w15.heap[gb144]? = some (.cells #[.int .i64 (wrap64 ((wrap64 (a0 - 2)) + 18)), .int .i64 a1, .string a2, .int .u64 0, .int .u64 0, .int .u64 0, .int .u64 0] 63 (0, 0))) := ⟨(by rw [hw]; exact (by (with_reducible skip); refine xd (cs := #[.int .i64 0, .int .i64 0, .string (⟨#[]⟩ : ByteArray), .int .u64 0, .int .u64 0, .int .u64 0, .int .u64 0]) ?_ _ rfl; (with_reducible skip); exact BK144.out))⟩; replace HB : zb (Below w.heap.size w w15) := ⟨(by rw [hw]; exact bsq)⟩; clear hw; obtain ⟨hcz16_0, hcz16_1, hcz16_2, hcz16_3, hcz16_4, hcz16_5, hcz16_6⟩ := xC BK144.out; obtain ⟨hfz16_0, hfz16_1, hfz16_2, hfz16_3, hfz16_4, hfz16_5, hfz16_6⟩ := xB BK144.out) | ((with_reducible refine z3 (N := 27) rfl ?_); refine Kd.R_lit k63 _ 63 ?hg (N := 27) ?hd (xs := ([(⟨3, 0, (⟨#[]⟩ : ByteArray), (⟨0, 0, 0, 0⟩ : S32)⟩ : S63)] : List (S63))) (inner := [.int .i64 3, .int .i64 0, .string (⟨#[]⟩ : ByteArray), .int .u64 0, .int .u64 0, .int .u64 0, .int .u64 0]) (ok := fun _ => True) (okp := fun _ => True) ?hr ?hp (fun _ hk => hk) trivial (Below.refl _ _) (Nat.le_refl _) (by simp) ?_; (case hd => rfl); (case hg => rfl); (case hr => (go_simp; done)); (case hp => exact (qU.c7 (show Kd.M k63 _ _ _ (⟨3, 0, (⟨#[]⟩ : ByteArray), (⟨0, 0, 0, 0⟩ : S32)⟩ : S63) [.int .i64 3, .int .i64 0, .string (⟨#[]⟩ : ByteArray), .int .u64 0, .int .u64 0, .int .u64 0, .int .u64 0] from (k63_mkM _ _ _ (⟨3, 0, (⟨#[]⟩ : ByteArray), (⟨0, 0, 0, 0⟩ : S32)⟩ : S63) )) (qU.none _ _))); intro v146 w17 ho18 hb hg_ hnew_; clear hg_ hnew_; (rw [← Ny145.out] at ho18); have HO147 := zb.mk (Kd.xV (Kd.R_newB ho18 (g := gb144) (o := .cells #[.int .i64 (wrap64 ((wrap64 (a0 - 2)) + 18)), .int .i64 a1, .string a2, .int .u64 0, .int .u64 0, .int .u64 0, .int .u64 0] 63 (0, 0)) (bx BK144.out)) (zj bsq)); replace BK144 := zb.mk (qA (g := gb144) (o := .cells #[.int .i64 (wrap64 ((wrap64 (a0 - 2)) + 18)), .int .i64 a1, .string a2, .int .u64 0, .int .u64 0, .int .u64 0, .int .u64 0] 63 (0, 0)) (bx BK144.out) hb); replace HB := zb.mk (z6 bsq hb); clear hb ho18; obtain ⟨Ao19, co19, eo19⟩ := Kd.zw HO147.out; subst eo19) | ((with_reducible refine z3 (N := 28) rfl ?_); refine Kd.N_lit (Kd.slice 63 k63) _ 65 ?hg (N' := 28) ?hd (xs := ([y145] : List (List (S63)))) (inner := [.slice Ao19 y145.length co19]) (ok := (fun k_ => k_ ≠ gb144)) (okp := (fun k_ => k_ ≠ gb144)) ?hr ?hp (fun _ hk => hk) ((show ∀ k_, w17.heap.size ≤ k_ → (fun k_ => k_ ≠ gb144) k_ from fun k_ hk => Kd.freshB (g := gb144) (o := .cells #[.int .i64 (wrap64 ((wrap64 (a0 - 2)) + 18)), .int .i64 a1, .string a2, .int .u64 0, .int .u64 0, .int .u64 0, .int .u64 0] 63 (0, 0)) (bx BK144.out) k_ hk) _ (Nat.le_refl _)) (Below.refl _ _) (Nat.le_refl _) (by simp) ?_; (case hd => rfl); (case hg => rfl); (case hr => (go_simp; done)); (case hp => exact (qU.one (show Kd.FK (Kd.slice 63 k63) _ _ y145 [.slice Ao19 y145.length co19] from (Kd.FK_slice_mk (Kd.zf (Kd.zH (ok' := (fun k_ => k_ ≠ gb144)) (HO147.out) (fun k_ hk => hk.2))).2.1 (Kd.R_F (Kd.zH (ok' := (fun k_ => k_ ≠ gb144)) (HO147.out) (fun k_ hk => hk.2))))) (qU.none _ _))); intro v149 w20 ho21 hb hg_ hnew_; clear hg_ hnew_; (rw [← Ny148.out] at ho21); have HO150 := zb.mk (Kd.N_lower ho21 (zj bsq)); replace BK144 := zb.mk (qA (g := gb144) (o := .cells #[.int .i64 (wrap64 ((wrap64 (a0 - 2)) + 18)), .int .i64 a1, .string a2, .int .u64 0, .int .u64 0, .int .u64 0, .int .u64 0] 63 (0, 0)) (bx BK144.out) hb); replace HB := zb.mk (z6 bsq hb); clear HO147; clear hb ho21; obtain ⟨Ao22, co22, eo22⟩ := Kd.N_slice HO150.out; subst eo22) | ((with_reducible refine zc (f := 65) rfl ?_); refine zh (some 29) rfl rfl Tryd.func65 (by kernel_rfl) rfl #[.agg #[.int .i64 (wrap64 ((wrap64 (a0 - 2)) + 18)), .int .i64 a1, .string a2, .int .u64 0, .int .u64 0, .int .u64 0, .int .u64 0], .slice Ao22 y148.length co22] rfl hq ?_; (with_reducible refine (xv.calls k (wrap64 ((wrap64 (a0 - 2)) + 18)) a1 a2 0 0 0 0 _ _ y148 t151 t154 _ ?side3 ?side1 ?side2 A12.out).mono ?_); (case side1 => repeat (exact (Kd.N_reads' HO150.out).2.2)); (case side2 => exact (Kd.N_reads' HO150.out).2.1); (case side3 => exact GW.below HG.out bsq); rintro e w23 ⟨v152, rfl, ho0, hb⟩; refine ⟨_, rfl, ?_⟩; replace HO150 := zb.mk (Kd.N_elder' (by (with_reducible skip); exact HO150.out) (Kd.R_base ho0) hb); have HO153 := zb.mk (Kd.xV (Kd.R_newB ho0 (g := gb144) (o := .cells #[.int .i64 (wrap64 ((wrap64 (a0 - 2)) + 18)), .int .i64 a1, .string a2, .int .u64 0, .int .u64 0, .int .u64 0, .int .u64 0] 63 (0, 0)) (bx BK144.out)) (zj bsq)); replace BK144 := zb.mk (qA (g := gb144) (o := .cells #[.int .i64 (wrap64 ((wrap64 (a0 - 2)) + 18)), .int .i64 a1, .string a2, .int .u64 0, .int .u64 0, .int .u64 0, .int .u64 0] 63 (0, 0)) (bx BK144.out) hb); replace HB := zb.mk (z6 bsq hb); (try clear hb); (try clear ho0)))
  go_ret
  exact ⟨eq1, bsq⟩
end Go.Proofs.YtnpeabmlcakegaaDoor.PAll
namespace Go.Proofs.YtnpeabmlcakegaaDoor.PAll
open Go.RowKit Go.Proofs.YtnpeabmlcakegaaDoorW.PrintWords Go.Proofs.YtnpeabmlcakegaaDoorW.PrintLast Go.Proofs.YtnpeabmlcakegaaDoorW.PrintMore
attribute [local go_sem] z9 qe ql xb xa xp xn qL qK qZ qY
set_option linter.unusedVariables false
set_option linter.unusedSimpArgs false
attribute [local go_sem high] eqA34
def qv.j0 : Nat → Int → Bool → Int → Int → Int → Int → ByteArray → Int → Int → Int → Int → Option (Bool)
 | 0, _, _, _, _, _, _, _, _, _, _, _ => none
 | k + 1, x8, x9, x156000, x156001, x156002, x156003, x156004, x156005, x156006, x156007, x156008 => if x9 = true then (if x156002 ≥ 0 then (some (decide (x156002 ≤ 255))) else (some false)) else (if x8 = 18 then (if x156002 ≥ 2 then (if x156002 ≤ 7 then ((qQ.f k x156002 x156003 x156004).bind fun t165 => (some t165)) else (some false)) else (some false)) else (if x8 = 20 then (if x156002 < 1 then (some false) else (if x156002 > 7 then (some false) else (if x156001 < 0 then (some false) else (if x156001 > 255 then (some false) else (if x156002 = 1 then (if x156001 > 0 then (some false) else ((qQ.f k x156002 x156003 x156004).bind fun t166 => (some t166))) else ((qQ.f k x156002 x156003 x156004).bind fun t167 => (some t167))))))) else (some true)))
def qv.f (k : Nat) (a0_0 : Int) (a0_1 : Int) (a0_2 : Int) (a0_3 : Int) (a0_4 : ByteArray) (a0_5 : Int) (a0_6 : Int) (a0_7 : Int) (a0_8 : Int) : Option (Bool) := (qx.f a0_0 a0_1 a0_2 a0_3 a0_4 a0_5 a0_6 a0_7 a0_8).bind fun bt156 => (if (!(a0_0 == bt156.1) || (!(a0_1 == bt156.2.1) || (!(a0_2 == bt156.2.2.1) || (!(a0_3 == bt156.2.2.2.1) || (!(a0_4.toList == bt156.2.2.2.2.1.toList) || ((!(a0_5 == bt156.2.2.2.2.2.1) || (!(a0_6 == bt156.2.2.2.2.2.2.1) || (!(a0_7 == bt156.2.2.2.2.2.2.2.1) || (!(a0_8 == bt156.2.2.2.2.2.2.2.2))))))))))) = true then (some false) else (if a0_0 = 2 then (qv.j0 k a0_0 (a0_0 == 2) a0_0 a0_1 a0_2 a0_3 a0_4 a0_5 a0_6 a0_7 a0_8) else (qv.j0 k a0_0 (a0_0 == 5) a0_0 a0_1 a0_2 a0_3 a0_4 a0_5 a0_6 a0_7 a0_8)))
theorem qv.calls (k : Nat) (a0_0 a0_1 a0_2 a0_3 : Int) (a0_4 : ByteArray) (a0_5 a0_6 a0_7 a0_8 : Int) (r : Bool) (w : World) (hG : GW w) (h : qv.f k a0_0 a0_1 a0_2 a0_3 a0_4 a0_5 a0_6 a0_7 a0_8 = some r) :
  Calls Tryd.prog 50 #[.agg #[.int .i64 a0_0, .int .i64 a0_1, .int .i64 a0_2, .int .i64 a0_3, .string a0_4, .int .u64 a0_5, .int .u64 a0_6, .int .u64 a0_7, .int .u64 a0_8]] w fun e w' => e = .returned (.bool r) ∧ Below w.heap.size w w' := by
 have hu34 := Tryd.underlying34
 have HG := zb.mk hG
 clear hG
 have HB := zb.mk (Below.refl w.heap.size w)
 have H : ((qx.f a0_0 a0_1 a0_2 a0_3 a0_4 a0_5 a0_6 a0_7 a0_8).bind fun bt156 => (if (!(a0_0 == bt156.1) || (!(a0_1 == bt156.2.1) || (!(a0_2 == bt156.2.2.1) || (!(a0_3 == bt156.2.2.2.1) || (!(a0_4.toList == bt156.2.2.2.2.1.toList) || ((!(a0_5 == bt156.2.2.2.2.2.1) || (!(a0_6 == bt156.2.2.2.2.2.2.1) || (!(a0_7 == bt156.2.2.2.2.2.2.2.1) || (!(a0_8 == bt156.2.2.2.2.2.2.2.2))))))))))) = true then (some false) else (if a0_0 = 2 then (qv.j0 k a0_0 (a0_0 == 2) a0_0 a0_1 a0_2 a0_3 a0_4 a0_5 a0_6 a0_7 a0_8) else (qv.j0 k a0_0 (a0_0 == 5) a0_0 a0_1 a0_2 a0_3 a0_4 a0_5 a0_6 a0_7 a0_8)))) = some r := h
 clear h
 replace H := zO H; obtain ⟨⟨t156, t157, t158, t159, t160, t161, t162, t163, t164⟩, A2, H⟩ := H; try dsimp only at H
 by_cases c3 : (!(a0_0 == t156) || (!(a0_1 == t157) || (!(a0_2 == t158) || (!(a0_3 == t159) || (!(a0_4.toList == t160.toList) || ((!(a0_5 == t161) || (!(a0_6 == t162) || (!(a0_7 == t163) || (!(a0_8 == t164))))))))))) = true
 ·rw [if_pos c3] at H
  have c3b0 : (!(a0_0 == t156) || (!(a0_1 == t157) || (!(a0_2 == t158) || (!(a0_3 == t159) || (!(a0_4.toList == t160.toList) || ((!(a0_5 == t161) || (!(a0_6 == t162) || (!(a0_7 == t163) || (!(a0_8 == t164))))))))))) = true := c3
  clear c3
  obtain rfl := Option.some.inj H
  go_enter Tryd.func50, Tryd.ntmps50
  try go_wp2_with (((with_reducible refine z3 (N := 1) rfl ?_); refine qk ?hg (N := 1) ?hd (cs := #[.int .i64 a0_0, .int .i64 a0_1, .int .i64 a0_2, .int .i64 a0_3, .string a0_4, .int .u64 a0_5, .int .u64 a0_6, .int .u64 a0_7, .int .u64 a0_8]) (t := 34) ?hr ?_; (case hd => rfl); (case hg => rfl); (case hr => (go_simp; done)); intro gb155 hg w4 hbox hb; have BK155 := zb.mk (hbox); have GW155 := zb.mk ((by rw [hg]; exact (zj (bl HB.out)) : w.heap.size ≤ gb155)); have GE155 := zb.mk ((by rw [hg]; exact (zj (bl HB.out)) : w.heap.size ≤ gb155)); replace HB := bst HB hb; clear hb hbox hg))
  have n0_ := zb.mk (blk_drew BK155.out)
  have n1_ := zb.mk (xY HB.out)
  clear BK155
  clear HB
  have BK155 := n0_
  have HB := n1_
  clear n0_ n1_
  refine start_ (n := 4) (S := fun w' => w'.cell? ⟨gb155, 0, none⟩ = some (.int .i64 a0_0) ∧ w'.cell? ⟨gb155, 1, none⟩ = some (.int .i64 a0_1) ∧ w'.cell? ⟨gb155, 2, none⟩ = some (.int .i64 a0_2) ∧ w'.cell? ⟨gb155, 3, none⟩ = some (.int .i64 a0_3) ∧ w'.cell? ⟨gb155, 4, none⟩ = some (.string a0_4) ∧ w'.cell? ⟨gb155, 5, none⟩ = some (.int .u64 a0_5) ∧ w'.cell? ⟨gb155, 6, none⟩ = some (.int .u64 a0_6) ∧ w'.cell? ⟨gb155, 7, none⟩ = some (.int .u64 a0_7) ∧ w'.cell? ⟨gb155, 8, none⟩ = some (.int .u64 a0_8)) (ds := []) #[false, false, false, false] (by kernel_rfl) rfl rfl ⟨(zL BK155.out 0).trans rfl, (zL BK155.out 1).trans rfl, (zL BK155.out 2).trans rfl, (zL BK155.out 3).trans rfl, (zL BK155.out 4).trans rfl, (zL BK155.out 5).trans rfl, (zL BK155.out 6).trans rfl, (zL BK155.out 7).trans rfl, (zL BK155.out 8).trans rfl⟩ (fun hHeld => ?_)
  generalize w4.drew = w5 at BK155 HB hHeld ⊢
  refine take_ (i := 0) (N := some 3) (v := ?_) (a' := ?_) #[true, false, false, false] rfl rfl (by kernel_rfl) (fun _ _ _ h => h) (Or.inl ⟨by rfl, ?_⟩) hHeld ?_ ?_
  rotate_left
  ·rintro w' ⟨s0, s1, s2, s3, s4, s5, s6, s7, s8⟩
   go_simp
   with_reducible rfl
  rotate_left
  ·simp only [Act.put, List.setIfInBounds_toArray, List.set_cons_zero, List.set_cons_succ, qd, qo]
   rfl
  refine take_ (i := 1) (N := some 4) (v := ?_) (a' := ?_) #[true, true, false, false] rfl rfl (by kernel_rfl) (fun _ _ _ h => h) (Or.inl ⟨by rfl, ?_⟩) hHeld ?_ ?_
  rotate_left
  ·rintro w' ⟨s0, s1, s2, s3, s4, s5, s6, s7, s8⟩
   go_simp
   with_reducible rfl
  rotate_left
  ·simp only [Act.put, List.setIfInBounds_toArray, List.set_cons_zero, List.set_cons_succ, qd, qo]
   rfl
  refine one_ (i := 2) (N := some 5) #[true, true, true, false] rfl rfl (by kernel_rfl) (by decide) (fun K hK => ?_)
  refine goes_ Tryd.func58 (by kernel_rfl) rfl #[.agg #[.int .i64 a0_0, .int .i64 a0_1, .int .i64 a0_2, .int .i64 a0_3, .string a0_4, .int .u64 a0_5, .int .u64 a0_6, .int .u64 a0_7, .int .u64 a0_8]] (by rfl) rfl rfl hq ?_
  with_reducible refine (qx.calls a0_0 a0_1 a0_2 a0_3 a0_4 a0_5 a0_6 a0_7 a0_8 t156 t157 t158 t159 t160 t161 t162 t163 t164 _ ?side1 A2.out).mono ?_
  (case side1 => exact GW.below HG.out bsq)
  rintro e w6 ⟨rfl, hb⟩
  refine ⟨_, rfl, ?_⟩
  have n0_ := zb.mk (qA (g := gb155) (o := .cells #[.int .i64 a0_0, .int .i64 a0_1, .int .i64 a0_2, .int .i64 a0_3, .string a0_4, .int .u64 a0_5, .int .u64 a0_6, .int .u64 a0_7, .int .u64 a0_8] 34 (0, 0)) (bx BK155.out) hb)
  have n1_ := zb.mk (z6 bsq hb)
  clear BK155
  clear HB
  have BK155 := n0_
  have HB := n1_
  clear n0_ n1_
  (try clear hb)
  refine hK.out _ _ ⟨(zL BK155.out 0).trans rfl, (zL BK155.out 1).trans rfl, (zL BK155.out 2).trans rfl, (zL BK155.out 3).trans rfl, (zL BK155.out 4).trans rfl, (zL BK155.out 5).trans rfl, (zL BK155.out 6).trans rfl, (zL BK155.out 7).trans rfl, (zL BK155.out 8).trans rfl⟩ (fun hHeld => ?_)
  clear hK K
  refine norm_ (a' := ?_) ?_ ?_
  rotate_left
  ·show Act.put _ (some 5) _ = _
   simp only [Act.put, List.setIfInBounds_toArray, List.set_cons_zero, List.set_cons_succ, qd, qo]
   rfl
  refine qB (i := 3) (N := some 6) (v := ?_) (a' := ?_) #[true, true, true, true] rfl rfl (by kernel_rfl) (fun _ _ _ h => h) (Or.inl ⟨by rfl, ?_⟩) ?_ ?_
  rotate_left
  ·intro w'
   go_simp
   with_reducible rfl
  rotate_left
  ·simp only [Act.put, List.setIfInBounds_toArray, List.set_cons_zero, List.set_cons_succ, qd, qo]
   rfl
  refine done_ (by kernel_rfl) ?_
  try go_wp2
  go_ret
  exact ⟨eq1, bsq⟩
 ·rw [if_neg c3] at H
  have c3b0 : (!(a0_0 == t156) || (!(a0_1 == t157) || (!(a0_2 == t158) || (!(a0_3 == t159) || (!(a0_4.toList == t160.toList) || ((!(a0_5 == t161) || (!(a0_6 == t162) || (!(a0_7 == t163) || (!(a0_8 == t164))))))))))) = false := by simpa using c3
  clear c3
  have HC7 := zb.mk H
  clear H
  go_enter Tryd.func50, Tryd.ntmps50
  try go_wp2_with (((with_reducible refine z3 (N := 1) rfl ?_); refine qk ?hg (N := 1) ?hd (cs := #[.int .i64 a0_0, .int .i64 a0_1, .int .i64 a0_2, .int .i64 a0_3, .string a0_4, .int .u64 a0_5, .int .u64 a0_6, .int .u64 a0_7, .int .u64 a0_8]) (t := 34) ?hr ?_; (case hd => rfl); (case hg => rfl); (case hr => (go_simp; done)); intro gb155 hg w8 hbox hb; have BK155 := zb.mk (hbox); have GW155 := zb.mk ((by rw [hg]; exact (zj (bl HB.out)) : w.heap.size ≤ gb155)); have GE155 := zb.mk ((by rw [hg]; exact (zj (bl HB.out)) : w.heap.size ≤ gb155)); replace HB := bst HB hb; clear hb hbox hg))
  have n0_ := zb.mk (blk_drew BK155.out)
  have n1_ := zb.mk (xY HB.out)
  clear BK155
  clear HB
  have BK155 := n0_
  have HB := n1_
  clear n0_ n1_
  refine start_ (n := 4) (S := fun w' => w'.cell? ⟨gb155, 0, none⟩ = some (.int .i64 a0_0) ∧ w'.cell? ⟨gb155, 1, none⟩ = some (.int .i64 a0_1) ∧ w'.cell? ⟨gb155, 2, none⟩ = some (.int .i64 a0_2) ∧ w'.cell? ⟨gb155, 3, none⟩ = some (.int .i64 a0_3) ∧ w'.cell? ⟨gb155, 4, none⟩ = some (.string a0_4) ∧ w'.cell? ⟨gb155, 5, none⟩ = some (.int .u64 a0_5) ∧ w'.cell? ⟨gb155, 6, none⟩ = some (.int .u64 a0_6) ∧ w'.cell? ⟨gb155, 7, none⟩ = some (.int .u64 a0_7) ∧ w'.cell? ⟨gb155, 8, none⟩ = some (.int .u64 a0_8)) (ds := []) #[false, false, false, false] (by kernel_rfl) rfl rfl ⟨(zL BK155.out 0).trans rfl, (zL BK155.out 1).trans rfl, (zL BK155.out 2).trans rfl, (zL BK155.out 3).trans rfl, (zL BK155.out 4).trans rfl, (zL BK155.out 5).trans rfl, (zL BK155.out 6).trans rfl, (zL BK155.out 7).trans rfl, (zL BK155.out 8).trans rfl⟩ (fun hHeld => ?_)
  generalize w8.drew = w9 at BK155 HB hHeld ⊢
  refine take_ (i := 0) (N := some 3) (v := ?_) (a' := ?_) #[true, false, false, false] rfl rfl (by kernel_rfl) (fun _ _ _ h => h) (Or.inl ⟨by rfl, ?_⟩) hHeld ?_ ?_
  rotate_left
  ·rintro w' ⟨s0, s1, s2, s3, s4, s5, s6, s7, s8⟩
   go_simp
   with_reducible rfl
  rotate_left
  ·simp only [Act.put, List.setIfInBounds_toArray, List.set_cons_zero, List.set_cons_succ, qd, qo]
   rfl
  refine take_ (i := 1) (N := some 4) (v := ?_) (a' := ?_) #[true, true, false, false] rfl rfl (by kernel_rfl) (fun _ _ _ h => h) (Or.inl ⟨by rfl, ?_⟩) hHeld ?_ ?_
  rotate_left
  ·rintro w' ⟨s0, s1, s2, s3, s4, s5, s6, s7, s8⟩
   go_simp
   with_reducible rfl
  rotate_left
  ·simp only [Act.put, List.setIfInBounds_toArray, List.set_cons_zero, List.set_cons_succ, qd, qo]
   rfl
  refine one_ (i := 2) (N := some 5) #[true, true, true, false] rfl rfl (by kernel_rfl) (by decide) (fun K hK => ?_)
  refine goes_ Tryd.func58 (by kernel_rfl) rfl #[.agg #[.int .i64 a0_0, .int .i64 a0_1, .int .i64 a0_2, .int .i64 a0_3, .string a0_4, .int .u64 a0_5, .int .u64 a0_6, .int .u64 a0_7, .int .u64 a0_8]] (by rfl) rfl rfl hq ?_
  with_reducible refine (qx.calls a0_0 a0_1 a0_2 a0_3 a0_4 a0_5 a0_6 a0_7 a0_8 t156 t157 t158 t159 t160 t161 t162 t163 t164 _ ?side1 A2.out).mono ?_
  (case side1 => exact GW.below HG.out bsq)
  rintro e w10 ⟨rfl, hb⟩
  refine ⟨_, rfl, ?_⟩
  have n0_ := zb.mk (qA (g := gb155) (o := .cells #[.int .i64 a0_0, .int .i64 a0_1, .int .i64 a0_2, .int .i64 a0_3, .string a0_4, .int .u64 a0_5, .int .u64 a0_6, .int .u64 a0_7, .int .u64 a0_8] 34 (0, 0)) (bx BK155.out) hb)
  have n1_ := zb.mk (z6 bsq hb)
  clear BK155
  clear HB
  have BK155 := n0_
  have HB := n1_
  clear n0_ n1_
  (try clear hb)
  refine hK.out _ _ ⟨(zL BK155.out 0).trans rfl, (zL BK155.out 1).trans rfl, (zL BK155.out 2).trans rfl, (zL BK155.out 3).trans rfl, (zL BK155.out 4).trans rfl, (zL BK155.out 5).trans rfl, (zL BK155.out 6).trans rfl, (zL BK155.out 7).trans rfl, (zL BK155.out 8).trans rfl⟩ (fun hHeld => ?_)
  clear hK K
  refine norm_ (a' := ?_) ?_ ?_
  rotate_left
  ·show Act.put _ (some 5) _ = _
   simp only [Act.put, List.setIfInBounds_toArray, List.set_cons_zero, List.set_cons_succ, qd, qo]
   rfl
  refine qB (i := 3) (N := some 6) (v := ?_) (a' := ?_) #[true, true, true, true] rfl rfl (by kernel_rfl) (fun _ _ _ h => h) (Or.inl ⟨by rfl, ?_⟩) ?_ ?_
  rotate_left
  ·intro w'
   go_simp
   with_reducible rfl
  rotate_left
  ·simp only [Act.put, List.setIfInBounds_toArray, List.set_cons_zero, List.set_cons_succ, qd, qo]
   rfl
  refine done_ (by kernel_rfl) ?_
  obtain ⟨hcz11_0, hcz11_1, hcz11_2, hcz11_3, hcz11_4, hcz11_5, hcz11_6, hcz11_7, hcz11_8⟩ := zS BK155.out
  obtain ⟨hfz11_0, hfz11_1, hfz11_2, hfz11_3, hfz11_4, hfz11_5, hfz11_6, hfz11_7, hfz11_8⟩ := zR BK155.out
  go_upto_if 9 with (fail)
  go_cut [9] (fun v9 wc => ∃ (kq : Nat) (x9_6 : Bool), v9 = .bool x9_6 ∧ zb (qv.j0 kq a0_0 x9_6 a0_0 a0_1 a0_2 a0_3 a0_4 a0_5 a0_6 a0_7 a0_8 = some r) ∧ zb (kq ≤ k) ∧ zb (wc.heap[gb155]? = some (.cells #[.int .i64 a0_0, .int .i64 a0_1, .int .i64 a0_2, .int .i64 a0_3, .string a0_4, .int .u64 a0_5, .int .u64 a0_6, .int .u64 a0_7, .int .u64 a0_8] 34 (0, 0))) ∧ zb (Below w.heap.size w wc))
  case first =>
   have H := HC7.out
   clear HC7
   by_cases c12 : a0_0 = 2
   ·rw [if_pos c12] at H
    have c12b0 := beq_iff_eq.mpr c12
    have c12b1 := bne_eq_false_iff_eq.mpr c12
    clear c12
    (rw [c12b0])
    have H' := zb.mk H
    clear H
    go_wp2
    go_meet
    case rel => exact ⟨_, ((a0_0 == 2)), eq0, H', ⟨by omega⟩, ⟨by (with_reducible skip); exact BK155.out⟩, ⟨bsq⟩⟩
   ·rw [if_neg c12] at H
    have c12b0 := beq_eq_false_iff_ne.mpr c12
    have c12b1 := bne_iff_ne.mpr c12
    (rw [c12b0])
    have H' := zb.mk H
    clear H
    go_wp2
    go_meet
    case rel => exact ⟨_, ((a0_0 == 5)), eq0, H', ⟨by omega⟩, ⟨by (with_reducible skip); exact BK155.out⟩, ⟨bsq⟩⟩
  case rest =>
   clear HC7
   (try clear c3b0); (try clear hcz11_0); (try clear hcz11_1); (try clear hcz11_2); (try clear hcz11_3); (try clear hcz11_4); (try clear hcz11_5); (try clear hcz11_6); (try clear hcz11_7); (try clear hcz11_8); (try clear hfz11_0); (try clear hfz11_1); (try clear hfz11_2); (try clear hfz11_3); (try clear hfz11_4); (try clear hfz11_5); (try clear hfz11_6); (try clear hfz11_7); (try clear hfz11_8)
   obtain ⟨kq, x9_6, rfl, HA, HJ6, BK155, HB⟩ := hcut
   cases kq with
   | zero => exact absurd HA.out (by simp [qv.j0])
   | succ kj6 =>
    have H := HA.out
    clear HA
    simp only [qv.j0] at H
    by_cases c13 : x9_6 = true
    ·subst c13
     replace H := ifT H
     by_cases c14 : a0_2 ≥ 0
     ·rw [if_pos c14] at H
      have c14b0 := decide_eq_true c14
      clear c14
      obtain rfl := Option.some.inj H
      obtain ⟨hcz15_0, hcz15_1, hcz15_2, hcz15_3, hcz15_4, hcz15_5, hcz15_6, hcz15_7, hcz15_8⟩ := zS BK155.out
      obtain ⟨hfz15_0, hfz15_1, hfz15_2, hfz15_3, hfz15_4, hfz15_5, hfz15_6, hfz15_7, hfz15_8⟩ := zR BK155.out
      go_wp2
      go_ret
      exact ⟨eq1, bsq⟩
     ·rw [if_neg c14] at H
      have c14b0 := decide_eq_false c14
      clear c14
      obtain rfl := Option.some.inj H
      obtain ⟨hcz16_0, hcz16_1, hcz16_2, hcz16_3, hcz16_4, hcz16_5, hcz16_6, hcz16_7, hcz16_8⟩ := zS BK155.out
      obtain ⟨hfz16_0, hfz16_1, hfz16_2, hfz16_3, hfz16_4, hfz16_5, hfz16_6, hfz16_7, hfz16_8⟩ := zR BK155.out
      go_wp2
      go_ret
      exact ⟨eq1, bsq⟩
    ·replace c13 := Bool.eq_false_iff.mpr c13
     subst c13
     replace H := ifF H
     by_cases c17 : a0_0 = 18
     ·rw [if_pos c17] at H
      have c17b0 := beq_iff_eq.mpr c17
      have c17b1 := bne_eq_false_iff_eq.mpr c17
      clear c17
      by_cases c18 : a0_2 ≥ 2
      ·rw [if_pos c18] at H
       have c18b0 := decide_eq_true c18
       clear c18
       by_cases c19 : a0_2 ≤ 7
       ·rw [if_pos c19] at H
        have c19b0 := decide_eq_true c19
        clear c19
        replace H := zO H; obtain ⟨t165, A20, H⟩ := H
        obtain rfl := Option.some.inj H
        obtain ⟨hcz21_0, hcz21_1, hcz21_2, hcz21_3, hcz21_4, hcz21_5, hcz21_6, hcz21_7, hcz21_8⟩ := zS BK155.out
        obtain ⟨hfz21_0, hfz21_1, hfz21_2, hfz21_3, hfz21_4, hfz21_5, hfz21_6, hfz21_7, hfz21_8⟩ := zR BK155.out
        go_wp2_with ((go_at_call 59; (with_reducible refine (qQ.calls kj6 a0_2 a0_3 a0_4 t165 _ ?side1 A20.out).mono ?_); (case side1 => exact GW.below HG.out bsq); rintro e w22 ⟨rfl, hb⟩; replace BK155 := zb.mk (qA (g := gb155) (o := .cells #[.int .i64 a0_0, .int .i64 a0_1, .int .i64 a0_2, .int .i64 a0_3, .string a0_4, .int .u64 a0_5, .int .u64 a0_6, .int .u64 a0_7, .int .u64 a0_8] 34 (0, 0)) (bx BK155.out) hb); replace HB := zb.mk (z6 bsq hb); (try clear hb)))
        go_ret
        exact ⟨eq1, bsq⟩
       ·rw [if_neg c19] at H
        have c19b0 := decide_eq_false c19
        clear c19
        obtain rfl := Option.some.inj H
        obtain ⟨hcz23_0, hcz23_1, hcz23_2, hcz23_3, hcz23_4, hcz23_5, hcz23_6, hcz23_7, hcz23_8⟩ := zS BK155.out
        obtain ⟨hfz23_0, hfz23_1, hfz23_2, hfz23_3, hfz23_4, hfz23_5, hfz23_6, hfz23_7, hfz23_8⟩ := zR BK155.out
        go_wp2
        go_ret
        exact ⟨eq1, bsq⟩
      ·rw [if_neg c18] at H
       have c18b0 := decide_eq_false c18
       clear c18
       obtain rfl := Option.some.inj H
       obtain ⟨hcz24_0, hcz24_1, hcz24_2, hcz24_3, hcz24_4, hcz24_5, hcz24_6, hcz24_7, hcz24_8⟩ := zS BK155.out
       obtain ⟨hfz24_0, hfz24_1, hfz24_2, hfz24_3, hfz24_4, hfz24_5, hfz24_6, hfz24_7, hfz24_8⟩ := zR BK155.out
       go_wp2
       go_ret
       exact ⟨eq1, bsq⟩
     ·rw [if_neg c17] at H
      have c17b0 := beq_eq_false_iff_ne.mpr c17
      have c17b1 := bne_iff_ne.mpr c17
      by_cases c25 : a0_0 = 20
      ·rw [if_pos c25] at H
       have c25b0 := beq_iff_eq.mpr c25
       have c25b1 := bne_eq_false_iff_eq.mpr c25
       clear c25
       by_cases c26 : a0_2 < 1
       ·rw [if_pos c26] at H
        have c26b0 := decide_eq_true c26
        clear c26
        obtain rfl := Option.some.inj H
        obtain ⟨hcz27_0, hcz27_1, hcz27_2, hcz27_3, hcz27_4, hcz27_5, hcz27_6, hcz27_7, hcz27_8⟩ := zS BK155.out
        obtain ⟨hfz27_0, hfz27_1, hfz27_2, hfz27_3, hfz27_4, hfz27_5, hfz27_6, hfz27_7, hfz27_8⟩ := zR BK155.out
        go_wp2
        go_ret
        exact ⟨eq1, bsq⟩
       ·rw [if_neg c26] at H
        have c26b0 := decide_eq_false c26
        clear c26
        by_cases c28 : a0_2 > 7
        ·rw [if_pos c28] at H
         have c28b0 := decide_eq_true c28
         clear c28
         obtain rfl := Option.some.inj H
         obtain ⟨hcz29_0, hcz29_1, hcz29_2, hcz29_3, hcz29_4, hcz29_5, hcz29_6, hcz29_7, hcz29_8⟩ := zS BK155.out
         obtain ⟨hfz29_0, hfz29_1, hfz29_2, hfz29_3, hfz29_4, hfz29_5, hfz29_6, hfz29_7, hfz29_8⟩ := zR BK155.out
         go_wp2
         go_ret
         exact ⟨eq1, bsq⟩
        ·rw [if_neg c28] at H
         have c28b0 := decide_eq_false c28
         clear c28
         by_cases c30 : a0_1 < 0
         ·rw [if_pos c30] at H
          have c30b0 := decide_eq_true c30
          clear c30
          obtain rfl := Option.some.inj H
          obtain ⟨hcz31_0, hcz31_1, hcz31_2, hcz31_3, hcz31_4, hcz31_5, hcz31_6, hcz31_7, hcz31_8⟩ := zS BK155.out
          obtain ⟨hfz31_0, hfz31_1, hfz31_2, hfz31_3, hfz31_4, hfz31_5, hfz31_6, hfz31_7, hfz31_8⟩ := zR BK155.out
          go_wp2
          go_ret
          exact ⟨eq1, bsq⟩
         ·rw [if_neg c30] at H
          have c30b0 := decide_eq_false c30
          clear c30
          by_cases c32 : a0_1 > 255
          ·rw [if_pos c32] at H
           have c32b0 := decide_eq_true c32
           clear c32
           obtain rfl := Option.some.inj H
           obtain ⟨hcz33_0, hcz33_1, hcz33_2, hcz33_3, hcz33_4, hcz33_5, hcz33_6, hcz33_7, hcz33_8⟩ := zS BK155.out
           obtain ⟨hfz33_0, hfz33_1, hfz33_2, hfz33_3, hfz33_4, hfz33_5, hfz33_6, hfz33_7, hfz33_8⟩ := zR BK155.out
           go_wp2
           go_ret
           exact ⟨eq1, bsq⟩
          ·rw [if_neg c32] at H
           have c32b0 := decide_eq_false c32
           clear c32
           by_cases c34 : a0_2 = 1
           ·rw [if_pos c34] at H
            have c34b0 := beq_iff_eq.mpr c34
            have c34b1 := bne_eq_false_iff_eq.mpr c34
            clear c34
            by_cases c35 : a0_1 > 0
            ·rw [if_pos c35] at H
             have c35b0 := decide_eq_true c35
             clear c35
             obtain rfl := Option.some.inj H
             obtain ⟨hcz36_0, hcz36_1, hcz36_2, hcz36_3, hcz36_4, hcz36_5, hcz36_6, hcz36_7, hcz36_8⟩ := zS BK155.out
             obtain ⟨hfz36_0, hfz36_1, hfz36_2, hfz36_3, hfz36_4, hfz36_5, hfz36_6, hfz36_7, hfz36_8⟩ := zR BK155.out
             go_wp2
             go_ret
             exact ⟨eq1, bsq⟩
            ·rw [if_neg c35] at H
             have c35b0 := decide_eq_false c35
             clear c35
             replace H := zO H; obtain ⟨t166, A37, H⟩ := H
             obtain rfl := Option.some.inj H
             obtain ⟨hcz38_0, hcz38_1, hcz38_2, hcz38_3, hcz38_4, hcz38_5, hcz38_6, hcz38_7, hcz38_8⟩ := zS BK155.out
             obtain ⟨hfz38_0, hfz38_1, hfz38_2, hfz38_3, hfz38_4, hfz38_5, hfz38_6, hfz38_7, hfz38_8⟩ := zR BK155.out
             go_wp2_with (((with_reducible refine zc (f := 59) rfl ?_); refine zh (some 75) rfl rfl Tryd.func59 (by kernel_rfl) rfl #[.int .i64 a0_2, .int .i64 a0_3, .string a0_4] rfl hq ?_; (with_reducible refine (qQ.calls kj6 a0_2 a0_3 a0_4 t166 _ ?side1 A37.out).mono ?_); (case side1 => exact GW.below HG.out bsq); rintro e w39 ⟨rfl, hb⟩; refine ⟨_, rfl, ?_⟩; replace BK155 := zb.mk (qA (g := gb155) (o := .cells #[.int .i64 a0_0, .int .i64 a0_1, .int .i64 a0_2, .int .i64 a0_3, .string a0_4, .int .u64 a0_5, .int .u64 a0_6, .int .u64 a0_7, .int .u64 a0_8] 34 (0, 0)) (bx BK155.out) hb); replace HB := zb.mk (z6 bsq hb); (try clear hb)))
             go_ret
             exact ⟨eq1, bsq⟩
           ·rw [if_neg c34] at H
            have c34b0 := beq_eq_false_iff_ne.mpr c34
            have c34b1 := bne_iff_ne.mpr c34
            replace H := zO H; obtain ⟨t167, A40, H⟩ := H
            obtain rfl := Option.some.inj H
            obtain ⟨hcz41_0, hcz41_1, hcz41_2, hcz41_3, hcz41_4, hcz41_5, hcz41_6, hcz41_7, hcz41_8⟩ := zS BK155.out
            obtain ⟨hfz41_0, hfz41_1, hfz41_2, hfz41_3, hfz41_4, hfz41_5, hfz41_6, hfz41_7, hfz41_8⟩ := zR BK155.out
            go_wp2_with (((with_reducible refine zc (f := 59) rfl ?_); refine zh (some 75) rfl rfl Tryd.func59 (by kernel_rfl) rfl #[.int .i64 a0_2, .int .i64 a0_3, .string a0_4] rfl hq ?_; (with_reducible refine (qQ.calls kj6 a0_2 a0_3 a0_4 t167 _ ?side1 A40.out).mono ?_); (case side1 => exact GW.below HG.out bsq); rintro e w42 ⟨rfl, hb⟩; refine ⟨_, rfl, ?_⟩; replace BK155 := zb.mk (qA (g := gb155) (o := .cells #[.int .i64 a0_0, .int .i64 a0_1, .int .i64 a0_2, .int .i64 a0_3, .string a0_4, .int .u64 a0_5, .int .u64 a0_6, .int .u64 a0_7, .int .u64 a0_8] 34 (0, 0)) (bx BK155.out) hb); replace HB := zb.mk (z6 bsq hb); (try clear hb)))
            go_ret
            exact ⟨eq1, bsq⟩
      ·rw [if_neg c25] at H
       have c25b0 := beq_eq_false_iff_ne.mpr c25
       have c25b1 := bne_iff_ne.mpr c25
       obtain rfl := Option.some.inj H
       go_wp2
       go_ret
       exact ⟨eq1, bsq⟩
end Go.Proofs.YtnpeabmlcakegaaDoor.PAll
namespace Go.Proofs.YtnpeabmlcakegaaDoor.PAll
open Go.RowKit Go.Proofs.YtnpeabmlcakegaaDoorW.PrintWords Go.Proofs.YtnpeabmlcakegaaDoorW.PrintLast Go.Proofs.YtnpeabmlcakegaaDoorW.PrintMore
attribute [local go_sem] z9 qe ql xb xa xp xn qL qK qZ qY
set_option linter.unusedVariables false
set_option linter.unusedSimpArgs false
def zC.l0 : Nat → List (S34) → List (S34) → Int → Int → Option (Int × Int)
 | 0, _, _, _, _ => none
 | k + 1, x0, x13, x14, x15 => if x15 < x14 then (if 0 ≤ x15 then (if x15 < (x13.length : Int) then ((xU.f ((za x13 x15).f0)).bind fun t172 => (if t172 = true then ((qv.f k ((za x13 x15).f0) ((za x13 x15).f1) ((za x13 x15).f2) ((za x13 x15).f3) ((za x13 x15).f4) ((za x13 x15).f5.f0) ((za x13 x15).f5.f1) ((za x13 x15).f5.f2) ((za x13 x15).f5.f3)).bind fun t173 => (if t173 = true then ((zI.f ((za x13 x15).f0) 32).bind fun t174 => (if t174 = true then (if ((za x13 x15).f1) < (wrap64 (-x15)) then (some (x15, 162)) else (if ((za x13 x15).f1) ≥ (wrap64 ((x0.length : Int) - x15)) then (some (x15, 162)) else (zC.l0 k x0 x13 x14 (wrap64 (x15 + 1))))) else (zC.l0 k x0 x13 x14 (wrap64 (x15 + 1))))) else (some (x15, 161)))) else (some (x15, 160)))) else (none)) else (none)) else (if 0 ≤ (wrap64 ((x0.length : Int) - 1)) then (if (wrap64 ((x0.length : Int) - 1)) < (x0.length : Int) then ((zI.f ((za x0 (wrap64 ((x0.length : Int) - 1))).f0) 64).bind fun t169 => (if t169 = true then (some (wrap64 ((x0.length : Int) - 1), 163)) else (some (0, 0)))) else (none)) else (none))
def zC.f (k : Nat) (l0 : List (S34)) : Option (Int × Int) := if (l0.length : Int) > 8192 then (some (0, 2)) else (if (l0.length : Int) = 0 then (some (0, 3)) else (zC.l0 k l0 l0 (l0.length : Int) 0))
theorem zC.calls (k : Nat) (A0 : Option Addr) (c0 : Nat) (l0 : List (S34)) (r1 r2 : Int) (w : World) (hG : GW w) (hr0 : Kd.C k34 w A0 l0.length l0) (hc0 : l0.length ≤ c0) (h : zC.f k l0 = some (r1, r2)) :
  Calls Tryd.prog 29 #[.slice A0 l0.length c0] w fun e w' => e = .returned (.tuple #[.int .i64 r1, .int .i64 r2]) ∧ Below w.heap.size w w' := by
 have hu34 := Tryd.underlying34
 have HR0 := zb.mk hr0
 have HC0 := zb.mk hc0
 clear hr0 hc0
 have HG := zb.mk hG
 clear hG
 have HB := zb.mk (Below.refl w.heap.size w)
 have H : (if (l0.length : Int) > 8192 then (some (0, 2)) else (if (l0.length : Int) = 0 then (some (0, 3)) else (zC.l0 k l0 l0 (l0.length : Int) 0))) = some (r1, r2) := h
 clear h
 by_cases c2 : (l0.length : Int) > 8192
 ·rw [if_pos c2] at H
  have c2b0 := decide_eq_true c2
  have c2b1 : decide (8192 < l0.length) = true := decide_eq_true (by omega)
  clear c2
  simp only [Option.some.injEq, Prod.mk.injEq] at H
  obtain ⟨rfl, rfl⟩ := H
  go_enter Tryd.func29, Tryd.ntmps29
  go_wp2
  go_ret2
  exact ⟨eq1, bl HB.out⟩
 ·rw [if_neg c2] at H
  have c2b0 := decide_eq_false c2
  have c2b1 : decide (8192 < l0.length) = false := decide_eq_false (by omega)
  clear c2
  by_cases c3 : (l0.length : Int) = 0
  ·rw [if_pos c3] at H
   have c3b0 := beq_iff_eq.mpr c3
   have c3b1 := bne_eq_false_iff_eq.mpr c3
   clear c3
   simp only [Option.some.injEq, Prod.mk.injEq] at H
   obtain ⟨rfl, rfl⟩ := H
   go_enter Tryd.func29, Tryd.ntmps29
   go_wp2
   go_ret2
   exact ⟨eq1, bl HB.out⟩
  ·rw [if_neg c3] at H
   have c3b0 := beq_eq_false_iff_ne.mpr c3
   have c3b1 := bne_iff_ne.mpr c3
   have c3b2 : ¬ (l0 = []) := fun h_ => c3 (by rw [h_]; rfl)
   have H' := zb.mk H
   clear H
   go_enter Tryd.func29, Tryd.ntmps29
   go_wp2
   go_loopg [15] k (fun kq v15 w' => ∃ (x15_1 : Int), v15 = .int .i64 x15_1 ∧ zb (zC.l0 kq l0 l0 (l0.length : Int) x15_1 = some (r1, r2)) ∧ zb (kq ≤ k) ∧ zb (Below w.heap.size w w'))
   case atStart => exact ⟨(0), eq0, H', ⟨Nat.le_refl _⟩, ⟨bl HB.out⟩⟩
   case round =>
    clear H'
    (try clear c2b0); (try clear c2b1); (try clear c3); (try clear c3b0); (try clear c3b1); (try clear c3b2)
    obtain ⟨x15_1, rfl, HA, HK1, HB⟩ := hrel
    cases gk with
    | zero => exact absurd HA.out (by simp [zC.l0])
    | succ k1 =>
     have H := HA.out
     clear HA
     simp only [zC.l0] at H
     by_cases c4 : x15_1 < (l0.length : Int)
     ·rw [if_pos c4] at H
      have c4b0 := decide_eq_true c4
      clear c4
      replace H := qh H; obtain ⟨c5, H⟩ := H
      have c5b0 := decide_eq_true c5
      clear c5
      replace H := qh H; obtain ⟨c6, H⟩ := H
      have c6b0 := decide_eq_true c6
      clear c6
      replace H := zO H; obtain ⟨t172, A7, H⟩ := H
      by_cases c8 : t172 = true
      ·subst c8
       replace H := ifT H
       replace H := zO H; obtain ⟨t173, A9, H⟩ := H
       by_cases c10 : t173 = true
       ·subst c10
        replace H := ifT H
        replace H := zO H; obtain ⟨t174, A11, H⟩ := H
        by_cases c12 : t174 = true
        ·subst c12
         replace H := ifT H
         by_cases c13 : ((za l0 x15_1).f1) < (wrap64 (-x15_1))
         ·rw [if_pos c13] at H
          have c13b0 := decide_eq_true c13
          clear c13
          simp only [Option.some.injEq, Prod.mk.injEq] at H
          obtain ⟨rfl, rfl⟩ := H
          have p170 : 0 ≤ (x15_1 : Int) := dq
          have q170 : x15_1 < (l0.length : Int) := dq
          obtain ⟨ad170, e170, hx170_0, hx170_1, hx170_2, hx170_3, hx170_4, hx170_5, hx170_6, hx170_7, hx170_8⟩ := zU HR0.out x15_1 p170 q170
          cases e170
          replace hx170_0 := cb HB.out hx170_0
          replace hx170_1 := cb HB.out hx170_1
          replace hx170_2 := cb HB.out hx170_2
          replace hx170_3 := cb HB.out hx170_3
          replace hx170_4 := cb HB.out hx170_4
          replace hx170_5 := cb HB.out hx170_5
          replace hx170_6 := cb HB.out hx170_6
          replace hx170_7 := cb HB.out hx170_7
          replace hx170_8 := cb HB.out hx170_8
          replace p170 := eq_true p170
          replace q170 := eq_true q170
          go_wp2_with (first | ((with_reducible refine z3 (N := 5) rfl ?_); (try (refine xi (by rfl) ?_; dsimp only)); refine qk ?hg (N := 5) ?hd (cs := #[.int .i64 0, .int .i64 0, .int .i64 0, .int .i64 0, .string (⟨#[]⟩ : ByteArray), .int .u64 0, .int .u64 0, .int .u64 0, .int .u64 0]) (t := 34) ?hr ?_; (case hd => rfl); (case hg => rfl); (case hr => (go_simp; done)); intro gb171 hg w14 hbox hb; have BK171 := zb.mk (hbox); have GW171 := zb.mk ((by rw [hg]; exact (zj (bl HB.out)) : w.heap.size ≤ gb171)); have GE171 := zb.mk ((by rw [hg]; exact (zj (bl HB.out)) : w.heap.size ≤ gb171)); replace HB := bst HB hb; clear hb hbox hg; obtain ⟨hcz15_0, hcz15_1, hcz15_2, hcz15_3, hcz15_4, hcz15_5, hcz15_6, hcz15_7, hcz15_8⟩ := zS BK171.out; obtain ⟨hfz15_0, hfz15_1, hfz15_2, hfz15_3, hfz15_4, hfz15_5, hfz15_6, hfz15_7, hfz15_8⟩ := zR BK171.out) | ((with_reducible refine zM (t := 34) (p := 5) rfl ?_); refine zB (t := 34) (p := 5) (v := ?vo_w16) (w1 := (xr w14 gb171 #[.int .i64 ((za l0 x15_1).f0), .int .i64 ((za l0 x15_1).f1), .int .i64 ((za l0 x15_1).f2), .int .i64 ((za l0 x15_1).f3), .string ((za l0 x15_1).f4), .int .u64 ((za l0 x15_1).f5.f0), .int .u64 ((za l0 x15_1).f5.f1), .int .u64 ((za l0 x15_1).f5.f2), .int .u64 ((za l0 x15_1).f5.f3)])) ?hg ?ho ?hn ?hr ?_; (case ho => rfl); (case hg => rfl); (case hn => rfl); (case hr => (go_simp; rfl)); intro w16 hw; replace BK171 : zb (w16.heap[gb171]? = some (.cells #[.int .i64 ((za l0 x15_1).f0), .int .i64 ((za l0 x15_1).f1), .int .i64 ((za l0 x15_1).f2), .int .i64 ((za l0 x15_1).f3), .string ((za l0 x15_1).f4), .int .u64 ((za l0 x15_1).f5.f0), .int .u64 ((za l0 x15_1).f5.f1), .int .u64 ((za l0 x15_1).f5.f2), .int .u64 ((za l0 x15_1).f5.f3)] 34 (0, 0))) := ⟨(by rw [hw]; exact (by (with_reducible skip); refine xd (cs := #[.int .i64 0, .int .i64 0, .int .i64 0, .int .i64 0, .string (⟨#[]⟩ : ByteArray), .int .u64 0, .int .u64 0, .int .u64 0, .int .u64 0]) ?_ _ rfl; (with_reducible skip); exact BK171.out))⟩; replace HB : zb (Below w.heap.size w w16) := ⟨(by rw [hw]; exact bsq)⟩; clear hw; obtain ⟨hcz17_0, hcz17_1, hcz17_2, hcz17_3, hcz17_4, hcz17_5, hcz17_6, hcz17_7, hcz17_8⟩ := zS BK171.out; obtain ⟨hfz17_0, hfz17_1, hfz17_2, hfz17_3, hfz17_4, hfz17_5, hfz17_6, hfz17_7, hfz17_8⟩ := zR BK171.out) | ((with_reducible refine zc (f := 49) rfl ?_); refine zh (some 23) rfl rfl Tryd.func49 (by kernel_rfl) rfl #[.int .i64 ((za l0 x15_1).f0)] rfl hq ?_; (with_reducible refine (xU.calls ((za l0 x15_1).f0) true _ ?side1 A7.out).mono ?_); (case side1 => exact GW.below HG.out bsq); rintro e w' ⟨rfl, ⟨nd, rfl⟩⟩; refine ⟨_, rfl, ?_⟩) | ((with_reducible refine zc (f := 50) rfl ?_); refine zh (some 28) rfl rfl Tryd.func50 (by kernel_rfl) rfl #[.agg #[.int .i64 ((za l0 x15_1).f0), .int .i64 ((za l0 x15_1).f1), .int .i64 ((za l0 x15_1).f2), .int .i64 ((za l0 x15_1).f3), .string ((za l0 x15_1).f4), .int .u64 ((za l0 x15_1).f5.f0), .int .u64 ((za l0 x15_1).f5.f1), .int .u64 ((za l0 x15_1).f5.f2), .int .u64 ((za l0 x15_1).f5.f3)]] rfl hq ?_; (with_reducible refine (qv.calls k1 ((za l0 x15_1).f0) ((za l0 x15_1).f1) ((za l0 x15_1).f2) ((za l0 x15_1).f3) ((za l0 x15_1).f4) ((za l0 x15_1).f5.f0) ((za l0 x15_1).f5.f1) ((za l0 x15_1).f5.f2) ((za l0 x15_1).f5.f3) true _ ?side1 A9.out).mono ?_); (case side1 => exact GW.below HG.out bsq); rintro e w18 ⟨rfl, hb⟩; refine ⟨_, rfl, ?_⟩; replace BK171 := zb.mk (qA (g := gb171) (o := .cells #[.int .i64 ((za l0 x15_1).f0), .int .i64 ((za l0 x15_1).f1), .int .i64 ((za l0 x15_1).f2), .int .i64 ((za l0 x15_1).f3), .string ((za l0 x15_1).f4), .int .u64 ((za l0 x15_1).f5.f0), .int .u64 ((za l0 x15_1).f5.f1), .int .u64 ((za l0 x15_1).f5.f2), .int .u64 ((za l0 x15_1).f5.f3)] 34 (0, 0)) (bx BK171.out) hb); replace HB := zb.mk (z6 bsq hb); (try clear hb); obtain ⟨hcz19_0, hcz19_1, hcz19_2, hcz19_3, hcz19_4, hcz19_5, hcz19_6, hcz19_7, hcz19_8⟩ := zS BK171.out; obtain ⟨hfz19_0, hfz19_1, hfz19_2, hfz19_3, hfz19_4, hfz19_5, hfz19_6, hfz19_7, hfz19_8⟩ := zR BK171.out) | ((with_reducible refine zc (f := 51) rfl ?_); refine zh (some 34) rfl rfl Tryd.func51 (by kernel_rfl) rfl #[.int .i64 ((za l0 x15_1).f0), .int .i64 32] rfl hq ?_; (with_reducible refine (zI.calls ((za l0 x15_1).f0) 32 true _ ?side1 A11.out).mono ?_); (case side1 => exact GW.below HG.out bsq); rintro e w' ⟨rfl, ⟨nd, rfl⟩⟩; refine ⟨_, rfl, ?_⟩))
          go_ret2
          exact ⟨eq1, bsq⟩
         ·rw [if_neg c13] at H
          have c13b0 := decide_eq_false c13
          clear c13
          by_cases c20 : ((za l0 x15_1).f1) ≥ (wrap64 ((l0.length : Int) - x15_1))
          ·rw [if_pos c20] at H
           have c20b0 := decide_eq_true c20
           clear c20
           simp only [Option.some.injEq, Prod.mk.injEq] at H
           obtain ⟨rfl, rfl⟩ := H
           have p170 : 0 ≤ (x15_1 : Int) := dq
           have q170 : x15_1 < (l0.length : Int) := dq
           obtain ⟨ad170, e170, hx170_0, hx170_1, hx170_2, hx170_3, hx170_4, hx170_5, hx170_6, hx170_7, hx170_8⟩ := zU HR0.out x15_1 p170 q170
           cases e170
           replace hx170_0 := cb HB.out hx170_0
           replace hx170_1 := cb HB.out hx170_1
           replace hx170_2 := cb HB.out hx170_2
           replace hx170_3 := cb HB.out hx170_3
           replace hx170_4 := cb HB.out hx170_4
           replace hx170_5 := cb HB.out hx170_5
           replace hx170_6 := cb HB.out hx170_6
           replace hx170_7 := cb HB.out hx170_7
           replace hx170_8 := cb HB.out hx170_8
           replace p170 := eq_true p170
           replace q170 := eq_true q170
           go_wp2_with (first | ((with_reducible refine z3 (N := 5) rfl ?_); (try (refine xi (by rfl) ?_; dsimp only)); refine qk ?hg (N := 5) ?hd (cs := #[.int .i64 0, .int .i64 0, .int .i64 0, .int .i64 0, .string (⟨#[]⟩ : ByteArray), .int .u64 0, .int .u64 0, .int .u64 0, .int .u64 0]) (t := 34) ?hr ?_; (case hd => rfl); (case hg => rfl); (case hr => (go_simp; done)); intro gb171 hg w21 hbox hb; have BK171 := zb.mk (hbox); have GW171 := zb.mk ((by rw [hg]; exact (zj (bl HB.out)) : w.heap.size ≤ gb171)); have GE171 := zb.mk ((by rw [hg]; exact (zj (bl HB.out)) : w.heap.size ≤ gb171)); replace HB := bst HB hb; clear hb hbox hg; obtain ⟨hcz22_0, hcz22_1, hcz22_2, hcz22_3, hcz22_4, hcz22_5, hcz22_6, hcz22_7, hcz22_8⟩ := zS BK171.out; obtain ⟨hfz22_0, hfz22_1, hfz22_2, hfz22_3, hfz22_4, hfz22_5, hfz22_6, hfz22_7, hfz22_8⟩ := zR BK171.out) | ((with_reducible refine zM (t := 34) (p := 5) rfl ?_); refine zB (t := 34) (p := 5) (v := ?vo_w23) (w1 := (xr w21 gb171 #[.int .i64 ((za l0 x15_1).f0), .int .i64 ((za l0 x15_1).f1), .int .i64 ((za l0 x15_1).f2), .int .i64 ((za l0 x15_1).f3), .string ((za l0 x15_1).f4), .int .u64 ((za l0 x15_1).f5.f0), .int .u64 ((za l0 x15_1).f5.f1), .int .u64 ((za l0 x15_1).f5.f2), .int .u64 ((za l0 x15_1).f5.f3)])) ?hg ?ho ?hn ?hr ?_; (case ho => rfl); (case hg => rfl); (case hn => rfl); (case hr => (go_simp; rfl)); intro w23 hw; replace BK171 : zb (w23.heap[gb171]? = some (.cells #[.int .i64 ((za l0 x15_1).f0), .int .i64 ((za l0 x15_1).f1), .int .i64 ((za l0 x15_1).f2), .int .i64 ((za l0 x15_1).f3), .string ((za l0 x15_1).f4), .int .u64 ((za l0 x15_1).f5.f0), .int .u64 ((za l0 x15_1).f5.f1), .int .u64 ((za l0 x15_1).f5.f2), .int .u64 ((za l0 x15_1).f5.f3)] 34 (0, 0))) := ⟨(by rw [hw]; exact (by (with_reducible skip); refine xd (cs := #[.int .i64 0, .int .i64 0, .int .i64 0, .int .i64 0, .string (⟨#[]⟩ : ByteArray), .int .u64 0, .int .u64 0, .int .u64 0, .int .u64 0]) ?_ _ rfl; (with_reducible skip); exact BK171.out))⟩; replace HB : zb (Below w.heap.size w w23) := ⟨(by rw [hw]; exact bsq)⟩; clear hw; obtain ⟨hcz24_0, hcz24_1, hcz24_2, hcz24_3, hcz24_4, hcz24_5, hcz24_6, hcz24_7, hcz24_8⟩ := zS BK171.out; obtain ⟨hfz24_0, hfz24_1, hfz24_2, hfz24_3, hfz24_4, hfz24_5, hfz24_6, hfz24_7, hfz24_8⟩ := zR BK171.out) | ((with_reducible refine zc (f := 49) rfl ?_); refine zh (some 23) rfl rfl Tryd.func49 (by kernel_rfl) rfl #[.int .i64 ((za l0 x15_1).f0)] rfl hq ?_; (with_reducible refine (xU.calls ((za l0 x15_1).f0) true _ ?side1 A7.out).mono ?_); (case side1 => exact GW.below HG.out bsq); rintro e w' ⟨rfl, ⟨nd, rfl⟩⟩; refine ⟨_, rfl, ?_⟩) | ((with_reducible refine zc (f := 50) rfl ?_); refine zh (some 28) rfl rfl Tryd.func50 (by kernel_rfl) rfl #[.agg #[.int .i64 ((za l0 x15_1).f0), .int .i64 ((za l0 x15_1).f1), .int .i64 ((za l0 x15_1).f2), .int .i64 ((za l0 x15_1).f3), .string ((za l0 x15_1).f4), .int .u64 ((za l0 x15_1).f5.f0), .int .u64 ((za l0 x15_1).f5.f1), .int .u64 ((za l0 x15_1).f5.f2), .int .u64 ((za l0 x15_1).f5.f3)]] rfl hq ?_; (with_reducible refine (qv.calls k1 ((za l0 x15_1).f0) ((za l0 x15_1).f1) ((za l0 x15_1).f2) ((za l0 x15_1).f3) ((za l0 x15_1).f4) ((za l0 x15_1).f5.f0) ((za l0 x15_1).f5.f1) ((za l0 x15_1).f5.f2) ((za l0 x15_1).f5.f3) true _ ?side1 A9.out).mono ?_); (case side1 => exact GW.below HG.out bsq); rintro e w25 ⟨rfl, hb⟩; refine ⟨_, rfl, ?_⟩; replace BK171 := zb.mk (qA (g := gb171) (o := .cells #[.int .i64 ((za l0 x15_1).f0), .int .i64 ((za l0 x15_1).f1), .int .i64 ((za l0 x15_1).f2), .int .i64 ((za l0 x15_1).f3), .string ((za l0 x15_1).f4), .int .u64 ((za l0 x15_1).f5.f0), .int .u64 ((za l0 x15_1).f5.f1), .int .u64 ((za l0 x15_1).f5.f2), .int .u64 ((za l0 x15_1).f5.f3)] 34 (0, 0)) (bx BK171.out) hb); replace HB := zb.mk (z6 bsq hb); (try clear hb); obtain ⟨hcz26_0, hcz26_1, hcz26_2, hcz26_3, hcz26_4, hcz26_5, hcz26_6, hcz26_7, hcz26_8⟩ := zS BK171.out; obtain ⟨hfz26_0, hfz26_1, hfz26_2, hfz26_3, hfz26_4, hfz26_5, hfz26_6, hfz26_7, hfz26_8⟩ := zR BK171.out) | ((with_reducible refine zc (f := 51) rfl ?_); refine zh (some 34) rfl rfl Tryd.func51 (by kernel_rfl) rfl #[.int .i64 ((za l0 x15_1).f0), .int .i64 32] rfl hq ?_; (with_reducible refine (zI.calls ((za l0 x15_1).f0) 32 true _ ?side1 A11.out).mono ?_); (case side1 => exact GW.below HG.out bsq); rintro e w' ⟨rfl, ⟨nd, rfl⟩⟩; refine ⟨_, rfl, ?_⟩))
           go_ret2
           exact ⟨eq1, bsq⟩
          ·rw [if_neg c20] at H
           have c20b0 := decide_eq_false c20
           clear c20
           have H' := zb.mk H
           clear H
           have p170 : 0 ≤ (x15_1 : Int) := dq
           have q170 : x15_1 < (l0.length : Int) := dq
           obtain ⟨ad170, e170, hx170_0, hx170_1, hx170_2, hx170_3, hx170_4, hx170_5, hx170_6, hx170_7, hx170_8⟩ := zU HR0.out x15_1 p170 q170
           cases e170
           replace hx170_0 := cb HB.out hx170_0
           replace hx170_1 := cb HB.out hx170_1
           replace hx170_2 := cb HB.out hx170_2
           replace hx170_3 := cb HB.out hx170_3
           replace hx170_4 := cb HB.out hx170_4
           replace hx170_5 := cb HB.out hx170_5
           replace hx170_6 := cb HB.out hx170_6
           replace hx170_7 := cb HB.out hx170_7
           replace hx170_8 := cb HB.out hx170_8
           replace p170 := eq_true p170
           replace q170 := eq_true q170
           go_wp2_with (first | ((with_reducible refine z3 (N := 5) rfl ?_); (try (refine xi (by rfl) ?_; dsimp only)); refine qk ?hg (N := 5) ?hd (cs := #[.int .i64 0, .int .i64 0, .int .i64 0, .int .i64 0, .string (⟨#[]⟩ : ByteArray), .int .u64 0, .int .u64 0, .int .u64 0, .int .u64 0]) (t := 34) ?hr ?_; (case hd => rfl); (case hg => rfl); (case hr => (go_simp; done)); intro gb171 hg w27 hbox hb; have BK171 := zb.mk (hbox); have GW171 := zb.mk ((by rw [hg]; exact (zj (bl HB.out)) : w.heap.size ≤ gb171)); have GE171 := zb.mk ((by rw [hg]; exact (zj (bl HB.out)) : w.heap.size ≤ gb171)); replace HB := bst HB hb; clear hb hbox hg; obtain ⟨hcz28_0, hcz28_1, hcz28_2, hcz28_3, hcz28_4, hcz28_5, hcz28_6, hcz28_7, hcz28_8⟩ := zS BK171.out; obtain ⟨hfz28_0, hfz28_1, hfz28_2, hfz28_3, hfz28_4, hfz28_5, hfz28_6, hfz28_7, hfz28_8⟩ := zR BK171.out) | ((with_reducible refine zM (t := 34) (p := 5) rfl ?_); refine zB (t := 34) (p := 5) (v := ?vo_w29) (w1 := (xr w27 gb171 #[.int .i64 ((za l0 x15_1).f0), .int .i64 ((za l0 x15_1).f1), .int .i64 ((za l0 x15_1).f2), .int .i64 ((za l0 x15_1).f3), .string ((za l0 x15_1).f4), .int .u64 ((za l0 x15_1).f5.f0), .int .u64 ((za l0 x15_1).f5.f1), .int .u64 ((za l0 x15_1).f5.f2), .int .u64 ((za l0 x15_1).f5.f3)])) ?hg ?ho ?hn ?hr ?_; (case ho => rfl); (case hg => rfl); (case hn => rfl); (case hr => (go_simp; rfl)); intro w29 hw; replace BK171 : zb (w29.heap[gb171]? = some (.cells #[.int .i64 ((za l0 x15_1).f0), .int .i64 ((za l0 x15_1).f1), .int .i64 ((za l0 x15_1).f2), .int .i64 ((za l0 x15_1).f3), .string ((za l0 x15_1).f4), .int .u64 ((za l0 x15_1).f5.f0), .int .u64 ((za l0 x15_1).f5.f1), .int .u64 ((za l0 x15_1).f5.f2), .int .u64 ((za l0 x15_1).f5.f3)] 34 (0, 0))) := ⟨(by rw [hw]; exact (by (with_reducible skip); refine xd (cs := #[.int .i64 0, .int .i64 0, .int .i64 0, .int .i64 0, .string (⟨#[]⟩ : ByteArray), .int .u64 0, .int .u64 0, .int .u64 0, .int .u64 0]) ?_ _ rfl; (with_reducible skip); exact BK171.out))⟩; replace HB : zb (Below w.heap.size w w29) := ⟨(by rw [hw]; exact bsq)⟩; clear hw; obtain ⟨hcz30_0, hcz30_1, hcz30_2, hcz30_3, hcz30_4, hcz30_5, hcz30_6, hcz30_7, hcz30_8⟩ := zS BK171.out; obtain ⟨hfz30_0, hfz30_1, hfz30_2, hfz30_3, hfz30_4, hfz30_5, hfz30_6, hfz30_7, hfz30_8⟩ := zR BK171.out) | ((with_reducible refine zc (f := 49) rfl ?_); refine zh (some 23) rfl rfl Tryd.func49 (by kernel_rfl) rfl #[.int .i64 ((za l0 x15_1).f0)] rfl hq ?_; (with_reducible refine (xU.calls ((za l0 x15_1).f0) true _ ?side1 A7.out).mono ?_); (case side1 => exact GW.below HG.out bsq); rintro e w' ⟨rfl, ⟨nd, rfl⟩⟩; refine ⟨_, rfl, ?_⟩) | ((with_reducible refine zc (f := 50) rfl ?_); refine zh (some 28) rfl rfl Tryd.func50 (by kernel_rfl) rfl #[.agg #[.int .i64 ((za l0 x15_1).f0), .int .i64 ((za l0 x15_1).f1), .int .i64 ((za l0 x15_1).f2), .int .i64 ((za l0 x15_1).f3), .string ((za l0 x15_1).f4), .int .u64 ((za l0 x15_1).f5.f0), .int .u64 ((za l0 x15_1).f5.f1), .int .u64 ((za l0 x15_1).f5.f2), .int .u64 ((za l0 x15_1).f5.f3)]] rfl hq ?_; (with_reducible refine (qv.calls k1 ((za l0 x15_1).f0) ((za l0 x15_1).f1) ((za l0 x15_1).f2) ((za l0 x15_1).f3) ((za l0 x15_1).f4) ((za l0 x15_1).f5.f0) ((za l0 x15_1).f5.f1) ((za l0 x15_1).f5.f2) ((za l0 x15_1).f5.f3) true _ ?side1 A9.out).mono ?_); (case side1 => exact GW.below HG.out bsq); rintro e w31 ⟨rfl, hb⟩; refine ⟨_, rfl, ?_⟩; replace BK171 := zb.mk (qA (g := gb171) (o := .cells #[.int .i64 ((za l0 x15_1).f0), .int .i64 ((za l0 x15_1).f1), .int .i64 ((za l0 x15_1).f2), .int .i64 ((za l0 x15_1).f3), .string ((za l0 x15_1).f4), .int .u64 ((za l0 x15_1).f5.f0), .int .u64 ((za l0 x15_1).f5.f1), .int .u64 ((za l0 x15_1).f5.f2), .int .u64 ((za l0 x15_1).f5.f3)] 34 (0, 0)) (bx BK171.out) hb); replace HB := zb.mk (z6 bsq hb); (try clear hb); obtain ⟨hcz32_0, hcz32_1, hcz32_2, hcz32_3, hcz32_4, hcz32_5, hcz32_6, hcz32_7, hcz32_8⟩ := zS BK171.out; obtain ⟨hfz32_0, hfz32_1, hfz32_2, hfz32_3, hfz32_4, hfz32_5, hfz32_6, hfz32_7, hfz32_8⟩ := zR BK171.out) | ((with_reducible refine zc (f := 51) rfl ?_); refine zh (some 34) rfl rfl Tryd.func51 (by kernel_rfl) rfl #[.int .i64 ((za l0 x15_1).f0), .int .i64 32] rfl hq ?_; (with_reducible refine (zI.calls ((za l0 x15_1).f0) 32 true _ ?side1 A11.out).mono ?_); (case side1 => exact GW.below HG.out bsq); rintro e w' ⟨rfl, ⟨nd, rfl⟩⟩; refine ⟨_, rfl, ?_⟩))
           go_roundg k1
           case measure => have := HK1.out; omega
           case rel => exact ⟨(wrap64 (x15_1 + 1)), eq0, H', ⟨by have := HK1.out; omega⟩, ⟨bsq⟩⟩
        ·replace c12 := Bool.eq_false_iff.mpr c12
         subst c12
         replace H := ifF H
         have H' := zb.mk H
         clear H
         have p170 : 0 ≤ (x15_1 : Int) := dq
         have q170 : x15_1 < (l0.length : Int) := dq
         obtain ⟨ad170, e170, hx170_0, hx170_1, hx170_2, hx170_3, hx170_4, hx170_5, hx170_6, hx170_7, hx170_8⟩ := zU HR0.out x15_1 p170 q170
         cases e170
         replace hx170_0 := cb HB.out hx170_0
         replace hx170_1 := cb HB.out hx170_1
         replace hx170_2 := cb HB.out hx170_2
         replace hx170_3 := cb HB.out hx170_3
         replace hx170_4 := cb HB.out hx170_4
         replace hx170_5 := cb HB.out hx170_5
         replace hx170_6 := cb HB.out hx170_6
         replace hx170_7 := cb HB.out hx170_7
         replace hx170_8 := cb HB.out hx170_8
         replace p170 := eq_true p170
         replace q170 := eq_true q170
         go_wp2_with (first | ((with_reducible refine z3 (N := 5) rfl ?_); (try (refine xi (by rfl) ?_; dsimp only)); refine qk ?hg (N := 5) ?hd (cs := #[.int .i64 0, .int .i64 0, .int .i64 0, .int .i64 0, .string (⟨#[]⟩ : ByteArray), .int .u64 0, .int .u64 0, .int .u64 0, .int .u64 0]) (t := 34) ?hr ?_; (case hd => rfl); (case hg => rfl); (case hr => (go_simp; done)); intro gb171 hg w33 hbox hb; have BK171 := zb.mk (hbox); have GW171 := zb.mk ((by rw [hg]; exact (zj (bl HB.out)) : w.heap.size ≤ gb171)); have GE171 := zb.mk ((by rw [hg]; exact (zj (bl HB.out)) : w.heap.size ≤ gb171)); replace HB := bst HB hb; clear hb hbox hg; obtain ⟨hcz34_0, hcz34_1, hcz34_2, hcz34_3, hcz34_4, hcz34_5, hcz34_6, hcz34_7, hcz34_8⟩ := zS BK171.out; obtain ⟨hfz34_0, hfz34_1, hfz34_2, hfz34_3, hfz34_4, hfz34_5, hfz34_6, hfz34_7, hfz34_8⟩ := zR BK171.out) | ((with_reducible refine zM (t := 34) (p := 5) rfl ?_); refine zB (t := 34) (p := 5) (v := ?vo_w35) (w1 := (xr w33 gb171 #[.int .i64 ((za l0 x15_1).f0), .int .i64 ((za l0 x15_1).f1), .int .i64 ((za l0 x15_1).f2), .int .i64 ((za l0 x15_1).f3), .string ((za l0 x15_1).f4), .int .u64 ((za l0 x15_1).f5.f0), .int .u64 ((za l0 x15_1).f5.f1), .int .u64 ((za l0 x15_1).f5.f2), .int .u64 ((za l0 x15_1).f5.f3)])) ?hg ?ho ?hn ?hr ?_; (case ho => rfl); (case hg => rfl); (case hn => rfl); (case hr => (go_simp; rfl)); intro w35 hw; replace BK171 : zb (w35.heap[gb171]? = some (.cells #[.int .i64 ((za l0 x15_1).f0), .int .i64 ((za l0 x15_1).f1), .int .i64 ((za l0 x15_1).f2), .int .i64 ((za l0 x15_1).f3), .string ((za l0 x15_1).f4), .int .u64 ((za l0 x15_1).f5.f0), .int .u64 ((za l0 x15_1).f5.f1), .int .u64 ((za l0 x15_1).f5.f2), .int .u64 ((za l0 x15_1).f5.f3)] 34 (0, 0))) := ⟨(by rw [hw]; exact (by (with_reducible skip); refine xd (cs := #[.int .i64 0, .int .i64 0, .int .i64 0, .int .i64 0, .string (⟨#[]⟩ : ByteArray), .int .u64 0, .int .u64 0, .int .u64 0, .int .u64 0]) ?_ _ rfl; (with_reducible skip); exact BK171.out))⟩; replace HB : zb (Below w.heap.size w w35) := ⟨(by rw [hw]; exact bsq)⟩; clear hw; obtain ⟨hcz36_0, hcz36_1, hcz36_2, hcz36_3, hcz36_4, hcz36_5, hcz36_6, hcz36_7, hcz36_8⟩ := zS BK171.out; obtain ⟨hfz36_0, hfz36_1, hfz36_2, hfz36_3, hfz36_4, hfz36_5, hfz36_6, hfz36_7, hfz36_8⟩ := zR BK171.out) | ((with_reducible refine zc (f := 49) rfl ?_); refine zh (some 23) rfl rfl Tryd.func49 (by kernel_rfl) rfl #[.int .i64 ((za l0 x15_1).f0)] rfl hq ?_; (with_reducible refine (xU.calls ((za l0 x15_1).f0) true _ ?side1 A7.out).mono ?_); (case side1 => exact GW.below HG.out bsq); rintro e w' ⟨rfl, ⟨nd, rfl⟩⟩; refine ⟨_, rfl, ?_⟩) | ((with_reducible refine zc (f := 50) rfl ?_); refine zh (some 28) rfl rfl Tryd.func50 (by kernel_rfl) rfl #[.agg #[.int .i64 ((za l0 x15_1).f0), .int .i64 ((za l0 x15_1).f1), .int .i64 ((za l0 x15_1).f2), .int .i64 ((za l0 x15_1).f3), .string ((za l0 x15_1).f4), .int .u64 ((za l0 x15_1).f5.f0), .int .u64 ((za l0 x15_1).f5.f1), .int .u64 ((za l0 x15_1).f5.f2), .int .u64 ((za l0 x15_1).f5.f3)]] rfl hq ?_; (with_reducible refine (qv.calls k1 ((za l0 x15_1).f0) ((za l0 x15_1).f1) ((za l0 x15_1).f2) ((za l0 x15_1).f3) ((za l0 x15_1).f4) ((za l0 x15_1).f5.f0) ((za l0 x15_1).f5.f1) ((za l0 x15_1).f5.f2) ((za l0 x15_1).f5.f3) true _ ?side1 A9.out).mono ?_); (case side1 => exact GW.below HG.out bsq); rintro e w37 ⟨rfl, hb⟩; refine ⟨_, rfl, ?_⟩; replace BK171 := zb.mk (qA (g := gb171) (o := .cells #[.int .i64 ((za l0 x15_1).f0), .int .i64 ((za l0 x15_1).f1), .int .i64 ((za l0 x15_1).f2), .int .i64 ((za l0 x15_1).f3), .string ((za l0 x15_1).f4), .int .u64 ((za l0 x15_1).f5.f0), .int .u64 ((za l0 x15_1).f5.f1), .int .u64 ((za l0 x15_1).f5.f2), .int .u64 ((za l0 x15_1).f5.f3)] 34 (0, 0)) (bx BK171.out) hb); replace HB := zb.mk (z6 bsq hb); (try clear hb); obtain ⟨hcz38_0, hcz38_1, hcz38_2, hcz38_3, hcz38_4, hcz38_5, hcz38_6, hcz38_7, hcz38_8⟩ := zS BK171.out; obtain ⟨hfz38_0, hfz38_1, hfz38_2, hfz38_3, hfz38_4, hfz38_5, hfz38_6, hfz38_7, hfz38_8⟩ := zR BK171.out) | ((with_reducible refine zc (f := 51) rfl ?_); refine zh (some 34) rfl rfl Tryd.func51 (by kernel_rfl) rfl #[.int .i64 ((za l0 x15_1).f0), .int .i64 32] rfl hq ?_; (with_reducible refine (zI.calls ((za l0 x15_1).f0) 32 false _ ?side1 A11.out).mono ?_); (case side1 => exact GW.below HG.out bsq); rintro e w' ⟨rfl, ⟨nd, rfl⟩⟩; refine ⟨_, rfl, ?_⟩))
         go_roundg k1
         case measure => have := HK1.out; omega
         case rel => exact ⟨(wrap64 (x15_1 + 1)), eq0, H', ⟨by have := HK1.out; omega⟩, ⟨bsq⟩⟩
       ·replace c10 := Bool.eq_false_iff.mpr c10
        subst c10
        replace H := ifF H
        simp only [Option.some.injEq, Prod.mk.injEq] at H
        obtain ⟨rfl, rfl⟩ := H
        have p170 : 0 ≤ (x15_1 : Int) := dq
        have q170 : x15_1 < (l0.length : Int) := dq
        obtain ⟨ad170, e170, hx170_0, hx170_1, hx170_2, hx170_3, hx170_4, hx170_5, hx170_6, hx170_7, hx170_8⟩ := zU HR0.out x15_1 p170 q170
        cases e170
        replace hx170_0 := cb HB.out hx170_0
        replace hx170_1 := cb HB.out hx170_1
        replace hx170_2 := cb HB.out hx170_2
        replace hx170_3 := cb HB.out hx170_3
        replace hx170_4 := cb HB.out hx170_4
        replace hx170_5 := cb HB.out hx170_5
        replace hx170_6 := cb HB.out hx170_6
        replace hx170_7 := cb HB.out hx170_7
        replace hx170_8 := cb HB.out hx170_8
        replace p170 := eq_true p170
        replace q170 := eq_true q170
        go_wp2_with (first | ((with_reducible refine z3 (N := 5) rfl ?_); (try (refine xi (by rfl) ?_; dsimp only)); refine qk ?hg (N := 5) ?hd (cs := #[.int .i64 0, .int .i64 0, .int .i64 0, .int .i64 0, .string (⟨#[]⟩ : ByteArray), .int .u64 0, .int .u64 0, .int .u64 0, .int .u64 0]) (t := 34) ?hr ?_; (case hd => rfl); (case hg => rfl); (case hr => (go_simp; done)); intro gb171 hg w39 hbox hb; have BK171 := zb.mk (hbox); have GW171 := zb.mk ((by rw [hg]; exact (zj (bl HB.out)) : w.heap.size ≤ gb171)); have GE171 := zb.mk ((by rw [hg]; exact (zj (bl HB.out)) : w.heap.size ≤ gb171)); replace HB := bst HB hb; clear hb hbox hg; obtain ⟨hcz40_0, hcz40_1, hcz40_2, hcz40_3, hcz40_4, hcz40_5, hcz40_6, hcz40_7, hcz40_8⟩ := zS BK171.out; obtain ⟨hfz40_0, hfz40_1, hfz40_2, hfz40_3, hfz40_4, hfz40_5, hfz40_6, hfz40_7, hfz40_8⟩ := zR BK171.out) | ((with_reducible refine zM (t := 34) (p := 5) rfl ?_); refine zB (t := 34) (p := 5) (v := ?vo_w41) (w1 := (xr w39 gb171 #[.int .i64 ((za l0 x15_1).f0), .int .i64 ((za l0 x15_1).f1), .int .i64 ((za l0 x15_1).f2), .int .i64 ((za l0 x15_1).f3), .string ((za l0 x15_1).f4), .int .u64 ((za l0 x15_1).f5.f0), .int .u64 ((za l0 x15_1).f5.f1), .int .u64 ((za l0 x15_1).f5.f2), .int .u64 ((za l0 x15_1).f5.f3)])) ?hg ?ho ?hn ?hr ?_; (case ho => rfl); (case hg => rfl); (case hn => rfl); (case hr => (go_simp; rfl)); intro w41 hw; replace BK171 : zb (w41.heap[gb171]? = some (.cells #[.int .i64 ((za l0 x15_1).f0), .int .i64 ((za l0 x15_1).f1), .int .i64 ((za l0 x15_1).f2), .int .i64 ((za l0 x15_1).f3), .string ((za l0 x15_1).f4), .int .u64 ((za l0 x15_1).f5.f0), .int .u64 ((za l0 x15_1).f5.f1), .int .u64 ((za l0 x15_1).f5.f2), .int .u64 ((za l0 x15_1).f5.f3)] 34 (0, 0))) := ⟨(by rw [hw]; exact (by (with_reducible skip); refine xd (cs := #[.int .i64 0, .int .i64 0, .int .i64 0, .int .i64 0, .string (⟨#[]⟩ : ByteArray), .int .u64 0, .int .u64 0, .int .u64 0, .int .u64 0]) ?_ _ rfl; (with_reducible skip); exact BK171.out))⟩; replace HB : zb (Below w.heap.size w w41) := ⟨(by rw [hw]; exact bsq)⟩; clear hw; obtain ⟨hcz42_0, hcz42_1, hcz42_2, hcz42_3, hcz42_4, hcz42_5, hcz42_6, hcz42_7, hcz42_8⟩ := zS BK171.out; obtain ⟨hfz42_0, hfz42_1, hfz42_2, hfz42_3, hfz42_4, hfz42_5, hfz42_6, hfz42_7, hfz42_8⟩ := zR BK171.out) | ((with_reducible refine zc (f := 49) rfl ?_); refine zh (some 23) rfl rfl Tryd.func49 (by kernel_rfl) rfl #[.int .i64 ((za l0 x15_1).f0)] rfl hq ?_; (with_reducible refine (xU.calls ((za l0 x15_1).f0) true _ ?side1 A7.out).mono ?_); (case side1 => exact GW.below HG.out bsq); rintro e w' ⟨rfl, ⟨nd, rfl⟩⟩; refine ⟨_, rfl, ?_⟩) | ((with_reducible refine zc (f := 50) rfl ?_); refine zh (some 28) rfl rfl Tryd.func50 (by kernel_rfl) rfl #[.agg #[.int .i64 ((za l0 x15_1).f0), .int .i64 ((za l0 x15_1).f1), .int .i64 ((za l0 x15_1).f2), .int .i64 ((za l0 x15_1).f3), .string ((za l0 x15_1).f4), .int .u64 ((za l0 x15_1).f5.f0), .int .u64 ((za l0 x15_1).f5.f1), .int .u64 ((za l0 x15_1).f5.f2), .int .u64 ((za l0 x15_1).f5.f3)]] rfl hq ?_; (with_reducible refine (qv.calls k1 ((za l0 x15_1).f0) ((za l0 x15_1).f1) ((za l0 x15_1).f2) ((za l0 x15_1).f3) ((za l0 x15_1).f4) ((za l0 x15_1).f5.f0) ((za l0 x15_1).f5.f1) ((za l0 x15_1).f5.f2) ((za l0 x15_1).f5.f3) false _ ?side1 A9.out).mono ?_); (case side1 => exact GW.below HG.out bsq); rintro e w43 ⟨rfl, hb⟩; refine ⟨_, rfl, ?_⟩; replace BK171 := zb.mk (qA (g := gb171) (o := .cells #[.int .i64 ((za l0 x15_1).f0), .int .i64 ((za l0 x15_1).f1), .int .i64 ((za l0 x15_1).f2), .int .i64 ((za l0 x15_1).f3), .string ((za l0 x15_1).f4), .int .u64 ((za l0 x15_1).f5.f0), .int .u64 ((za l0 x15_1).f5.f1), .int .u64 ((za l0 x15_1).f5.f2), .int .u64 ((za l0 x15_1).f5.f3)] 34 (0, 0)) (bx BK171.out) hb); replace HB := zb.mk (z6 bsq hb); (try clear hb)))
        go_ret2
        exact ⟨eq1, bsq⟩
      ·replace c8 := Bool.eq_false_iff.mpr c8
       subst c8
       replace H := ifF H
       simp only [Option.some.injEq, Prod.mk.injEq] at H
       obtain ⟨rfl, rfl⟩ := H
       have p170 : 0 ≤ (x15_1 : Int) := dq
       have q170 : x15_1 < (l0.length : Int) := dq
       obtain ⟨ad170, e170, hx170_0, hx170_1, hx170_2, hx170_3, hx170_4, hx170_5, hx170_6, hx170_7, hx170_8⟩ := zU HR0.out x15_1 p170 q170
       cases e170
       replace hx170_0 := cb HB.out hx170_0
       replace hx170_1 := cb HB.out hx170_1
       replace hx170_2 := cb HB.out hx170_2
       replace hx170_3 := cb HB.out hx170_3
       replace hx170_4 := cb HB.out hx170_4
       replace hx170_5 := cb HB.out hx170_5
       replace hx170_6 := cb HB.out hx170_6
       replace hx170_7 := cb HB.out hx170_7
       replace hx170_8 := cb HB.out hx170_8
       replace p170 := eq_true p170
       replace q170 := eq_true q170
       go_wp2_with (first | ((with_reducible refine z3 (N := 5) rfl ?_); (try (refine xi (by rfl) ?_; dsimp only)); refine qk ?hg (N := 5) ?hd (cs := #[.int .i64 0, .int .i64 0, .int .i64 0, .int .i64 0, .string (⟨#[]⟩ : ByteArray), .int .u64 0, .int .u64 0, .int .u64 0, .int .u64 0]) (t := 34) ?hr ?_; (case hd => rfl); (case hg => rfl); (case hr => (go_simp; done)); intro gb171 hg w44 hbox hb; have BK171 := zb.mk (hbox); have GW171 := zb.mk ((by rw [hg]; exact (zj (bl HB.out)) : w.heap.size ≤ gb171)); have GE171 := zb.mk ((by rw [hg]; exact (zj (bl HB.out)) : w.heap.size ≤ gb171)); replace HB := bst HB hb; clear hb hbox hg; obtain ⟨hcz45_0, hcz45_1, hcz45_2, hcz45_3, hcz45_4, hcz45_5, hcz45_6, hcz45_7, hcz45_8⟩ := zS BK171.out; obtain ⟨hfz45_0, hfz45_1, hfz45_2, hfz45_3, hfz45_4, hfz45_5, hfz45_6, hfz45_7, hfz45_8⟩ := zR BK171.out) | ((with_reducible refine zM (t := 34) (p := 5) rfl ?_); refine zB (t := 34) (p := 5) (v := ?vo_w46) (w1 := (xr w44 gb171 #[.int .i64 ((za l0 x15_1).f0), .int .i64 ((za l0 x15_1).f1), .int .i64 ((za l0 x15_1).f2), .int .i64 ((za l0 x15_1).f3), .string ((za l0 x15_1).f4), .int .u64 ((za l0 x15_1).f5.f0), .int .u64 ((za l0 x15_1).f5.f1), .int .u64 ((za l0 x15_1).f5.f2), .int .u64 ((za l0 x15_1).f5.f3)])) ?hg ?ho ?hn ?hr ?_; (case ho => rfl); (case hg => rfl); (case hn => rfl); (case hr => (go_simp; rfl)); intro w46 hw; replace BK171 : zb (w46.heap[gb171]? = some (.cells #[.int .i64 ((za l0 x15_1).f0), .int .i64 ((za l0 x15_1).f1), .int .i64 ((za l0 x15_1).f2), .int .i64 ((za l0 x15_1).f3), .string ((za l0 x15_1).f4), .int .u64 ((za l0 x15_1).f5.f0), .int .u64 ((za l0 x15_1).f5.f1), .int .u64 ((za l0 x15_1).f5.f2), .int .u64 ((za l0 x15_1).f5.f3)] 34 (0, 0))) := ⟨(by rw [hw]; exact (by (with_reducible skip); refine xd (cs := #[.int .i64 0, .int .i64 0, .int .i64 0, .int .i64 0, .string (⟨#[]⟩ : ByteArray), .int .u64 0, .int .u64 0, .int .u64 0, .int .u64 0]) ?_ _ rfl; (with_reducible skip); exact BK171.out))⟩; replace HB : zb (Below w.heap.size w w46) := ⟨(by rw [hw]; exact bsq)⟩; clear hw; obtain ⟨hcz47_0, hcz47_1, hcz47_2, hcz47_3, hcz47_4, hcz47_5, hcz47_6, hcz47_7, hcz47_8⟩ := zS BK171.out; obtain ⟨hfz47_0, hfz47_1, hfz47_2, hfz47_3, hfz47_4, hfz47_5, hfz47_6, hfz47_7, hfz47_8⟩ := zR BK171.out) | ((with_reducible refine zc (f := 49) rfl ?_); refine zh (some 23) rfl rfl Tryd.func49 (by kernel_rfl) rfl #[.int .i64 ((za l0 x15_1).f0)] rfl hq ?_; (with_reducible refine (xU.calls ((za l0 x15_1).f0) false _ ?side1 A7.out).mono ?_); (case side1 => exact GW.below HG.out bsq); rintro e w' ⟨rfl, ⟨nd, rfl⟩⟩; refine ⟨_, rfl, ?_⟩))
       go_ret2
       exact ⟨eq1, bsq⟩
     ·rw [if_neg c4] at H
      have c4b0 := decide_eq_false c4
      clear c4
      obtain ⟨ji48, hji48⟩ : ∃ j_ : Int, (wrap64 ((l0.length : Int) - 1)) = j_ := ⟨_, rfl⟩
      rw [hji48] at H
      have hji48w : (IntKind.i64.wrap ((l0.length : Int) - 1)) = ji48 := (qd _).trans hji48
      by_cases c49 : 0 ≤ (ji48)
      ·rw [if_pos c49] at H
       have c49b0 := decide_eq_true c49
       clear c49
       replace H := qh H; obtain ⟨c50, H⟩ := H
       have c50b0 := decide_eq_true c50
       clear c50
       replace H := zO H; obtain ⟨t169, A51, H⟩ := H
       by_cases c52 : t169 = true
       ·subst c52
        replace H := ifT H
        simp only [Option.some.injEq, Prod.mk.injEq] at H
        obtain ⟨rfl, rfl⟩ := H
        have p168 : 0 ≤ ((ji48) : Int) := dq
        have q168 : (ji48) < (l0.length : Int) := dq
        obtain ⟨ad168, e168, hx168_0, hx168_1, hx168_2, hx168_3, hx168_4, hx168_5, hx168_6, hx168_7, hx168_8⟩ := zU HR0.out (ji48) p168 q168
        cases e168
        replace hx168_0 := cb HB.out hx168_0
        replace hx168_1 := cb HB.out hx168_1
        replace hx168_2 := cb HB.out hx168_2
        replace hx168_3 := cb HB.out hx168_3
        replace hx168_4 := cb HB.out hx168_4
        replace hx168_5 := cb HB.out hx168_5
        replace hx168_6 := cb HB.out hx168_6
        replace hx168_7 := cb HB.out hx168_7
        replace hx168_8 := cb HB.out hx168_8
        replace p168 := eq_true p168
        replace q168 := eq_true q168
        go_wp2_with (((with_reducible refine zc (f := 51) rfl ?_); refine zh (some 61) rfl rfl Tryd.func51 (by kernel_rfl) rfl #[.int .i64 ((za l0 (ji48)).f0), .int .i64 64] rfl (by (try simp only [List.map_toArray, List.map_cons, List.map_nil]); rfl) ?_; (with_reducible refine (zI.calls ((za l0 (ji48)).f0) 64 true _ ?side1 A51.out).mono ?_); (case side1 => exact gb HG HB); rintro e w' ⟨rfl, ⟨nd, rfl⟩⟩; refine ⟨_, rfl, ?_⟩))
        go_ret2
        exact ⟨by rfl, bl HB.out⟩
       ·replace c52 := Bool.eq_false_iff.mpr c52
        subst c52
        replace H := ifF H
        simp only [Option.some.injEq, Prod.mk.injEq] at H
        obtain ⟨rfl, rfl⟩ := H
        have p168 : 0 ≤ ((ji48) : Int) := dq
        have q168 : (ji48) < (l0.length : Int) := dq
        obtain ⟨ad168, e168, hx168_0, hx168_1, hx168_2, hx168_3, hx168_4, hx168_5, hx168_6, hx168_7, hx168_8⟩ := zU HR0.out (ji48) p168 q168
        cases e168
        replace hx168_0 := cb HB.out hx168_0
        replace hx168_1 := cb HB.out hx168_1
        replace hx168_2 := cb HB.out hx168_2
        replace hx168_3 := cb HB.out hx168_3
        replace hx168_4 := cb HB.out hx168_4
        replace hx168_5 := cb HB.out hx168_5
        replace hx168_6 := cb HB.out hx168_6
        replace hx168_7 := cb HB.out hx168_7
        replace hx168_8 := cb HB.out hx168_8
        replace p168 := eq_true p168
        replace q168 := eq_true q168
        go_wp2_with (((with_reducible refine zc (f := 51) rfl ?_); refine zh (some 61) rfl rfl Tryd.func51 (by kernel_rfl) rfl #[.int .i64 ((za l0 (ji48)).f0), .int .i64 64] rfl (by (try simp only [List.map_toArray, List.map_cons, List.map_nil]); rfl) ?_; (with_reducible refine (zI.calls ((za l0 (ji48)).f0) 64 false _ ?side1 A51.out).mono ?_); (case side1 => exact gb HG HB); rintro e w' ⟨rfl, ⟨nd, rfl⟩⟩; refine ⟨_, rfl, ?_⟩))
        go_ret2
        exact ⟨by rfl, bl HB.out⟩
      ·rw [if_neg c49] at H
       exact absurd H (by simp)
def xt.f (a0 : Int) : Option (Bool) := some (a0 != a0)
theorem xt.calls (a0 : Int) (r : Bool) (w : World) (hG : GW w) (h : xt.f a0 = some r) :
  Calls Tryd.prog 86 #[.int .i64 a0] w fun e w' => e = .returned (.bool r) ∧ zi w w' := by
 have HG := zb.mk hG
 clear hG
 have H : (some (a0 != a0)) = some r := h
 clear h
 obtain rfl := Option.some.inj H
 go_enter Tryd.func86, Tryd.ntmps86
 go_wp2
 go_ret
 exact ⟨eq0, by repeat (exact zi.refl _)⟩
def jm.f (a0 : Int) (a1 : Int) : Option (Bool) := (xt.f a0).bind fun t175 => (if t175 = true then ((xt.f a1).bind fun t176 => (if t176 = true then (some (decide (a0 < a1))) else (some true))) else (some (decide (a0 < a1))))
theorem jm.calls (a0 a1 : Int) (r : Bool) (w : World) (hG : GW w) (h : jm.f a0 a1 = some r) :
  Calls Tryd.prog 72 #[.int .i64 a0, .int .i64 a1] w fun e w' => e = .returned (.bool r) ∧ zi w w' := by
 have HG := zb.mk hG
 clear hG
 have H : ((xt.f a0).bind fun t175 => (if t175 = true then ((xt.f a1).bind fun t176 => (if t176 = true then (some (decide (a0 < a1))) else (some true))) else (some (decide (a0 < a1))))) = some r := h
 clear h
 replace H := zO H; obtain ⟨t175, A3, H⟩ := H
 by_cases c4 : t175 = true
 ·subst c4
  replace H := ifT H
  replace H := zO H; obtain ⟨t176, A5, H⟩ := H
  by_cases c6 : t176 = true
  ·subst c6
   replace H := ifT H
   obtain rfl := Option.some.inj H
   go_enter Tryd.func72, Tryd.ntmps72
   go_wp2_with (first | ((with_reducible refine zc (f := 86) rfl ?_); refine zh (some 6) rfl rfl Tryd.func86 (by kernel_rfl) rfl #[.int .i64 a0] rfl hq ?_; (with_reducible refine (xt.calls a0 true _ ?side1 A3.out).mono ?_); (case side1 => repeat (exact HG.out)); rintro e w' ⟨rfl, ⟨nd, rfl⟩⟩; refine ⟨_, rfl, ?_⟩) | (go_at_call 86; (with_reducible refine (xt.calls a1 true _ ?side1 A5.out).mono ?_); (case side1 => repeat (exact HG.out)); rintro e w' ⟨rfl, ⟨nd, rfl⟩⟩))
   go_ret
   exact ⟨eq0, by repeat (first | exact zi.refl _ | apply zi.step)⟩
  ·replace c6 := Bool.eq_false_iff.mpr c6
   subst c6
   replace H := ifF H
   obtain rfl := Option.some.inj H
   go_enter Tryd.func72, Tryd.ntmps72
   go_wp2_with (first | ((with_reducible refine zc (f := 86) rfl ?_); refine zh (some 6) rfl rfl Tryd.func86 (by kernel_rfl) rfl #[.int .i64 a0] rfl hq ?_; (with_reducible refine (xt.calls a0 true _ ?side1 A3.out).mono ?_); (case side1 => repeat (exact HG.out)); rintro e w' ⟨rfl, ⟨nd, rfl⟩⟩; refine ⟨_, rfl, ?_⟩) | (go_at_call 86; (with_reducible refine (xt.calls a1 false _ ?side1 A5.out).mono ?_); (case side1 => repeat (exact HG.out)); rintro e w' ⟨rfl, ⟨nd, rfl⟩⟩))
   go_ret
   exact ⟨eq0, by repeat (first | exact zi.refl _ | apply zi.step)⟩
 ·replace c4 := Bool.eq_false_iff.mpr c4
  subst c4
  replace H := ifF H
  obtain rfl := Option.some.inj H
  go_enter Tryd.func72, Tryd.ntmps72
  go_wp2_with (((with_reducible refine zc (f := 86) rfl ?_); refine zh (some 6) rfl rfl Tryd.func86 (by kernel_rfl) rfl #[.int .i64 a0] rfl hq ?_; (with_reducible refine (xt.calls a0 false _ ?side1 A3.out).mono ?_); (case side1 => repeat (exact HG.out)); rintro e w' ⟨rfl, ⟨nd, rfl⟩⟩; refine ⟨_, rfl, ?_⟩))
  go_ret
  exact ⟨eq0, by repeat (first | exact zi.refl _ | apply zi.step)⟩
mutual
def zg.l0 : Nat → List Int → Int → Int → Int → Option (List Int)
 | 0, _, _, _, _ => none
 | k + 1, x0, x1, x2, x6 => if x6 < x2 then (zg.l1 k x0 x1 x2 x6 x6) else (some x0)
def zg.l1 : Nat → List Int → Int → Int → Int → Int → Option (List Int)
 | 0, _, _, _, _, _ => none
 | k + 1, x0, x1, x2, x6, x7 => if x7 > x1 then (if 0 ≤ x7 then (if x7 < (x0.length : Int) then (if 0 ≤ (wrap64 (x7 - 1)) then (if (wrap64 (x7 - 1)) < (x0.length : Int) then ((jm.f (rd x0 x7) (rd x0 (wrap64 (x7 - 1)))).bind fun t179 => (if t179 = true then (zg.l1 k ((x0.set (x7 : Int).toNat (rd x0 (wrap64 (x7 - 1)))).set ((wrap64 (x7 - 1)) : Int).toNat (rd x0 x7)) x1 x2 x6 (wrap64 (x7 - 1))) else (zg.l0 k x0 x1 x2 (wrap64 (x6 + 1))))) else (none)) else (none)) else (none)) else (none)) else (zg.l0 k x0 x1 x2 (wrap64 (x6 + 1)))
end
def zg.f (k : Nat) (l0 : List Int) (a1 : Int) (a2 : Int) : Option (List Int) := zg.l0 k l0 a1 a2 (wrap64 (a1 + 1))
def zg.T4 : Bool × List (List Nat × List Nat) := (true, [([], []), ([], []), ([0, 1], [0, 1]), ([2], [2]), ([3], [3]), ([3], [3]), ([4, 5, 3], [3, 4, 5]), ([6, 3], [3, 6]), ([3], [3]), ([3], [3]), ([9, 3], [3, 9]), ([8, 10, 3], [3, 8, 10]), ([11, 3], [3, 11]), ([7, 12, 3, 3], [3, 7, 12]), ([3, 13], [3, 13])])
def zg.B4 : List Nat := [0, 0, 3, 7, 15, 15, 63, 127, 15, 15, 527, 1807, 3855, 8191, 16383]
theorem zg.tab4 : rtab .any (opsOf Tryd.f66 4) = zg.T4 := by kernel_rfl
theorem zg.bits4 : waitsOk zg.T4.2 zg.B4 = true := by kernel_rfl
def zg.T6 : Bool × List (List Nat × List Nat) := (true, [([], []), ([], []), ([], []), ([], []), ([3], [3]), ([], []), ([], []), ([6], [6]), ([5, 7], [5, 7]), ([8], [8]), ([], []), ([], []), ([10, 11], [10, 11]), ([12], [12]), ([0, 1, 0, 1, 5, 6, 7, 8, 9, 13], [0, 1]), ([14, 9, 0, 1, 5, 6, 7, 8, 9, 13], [9, 14]), ([2, 4, 0, 1, 2, 3, 4, 5, 6, 7, 8, 9, 10, 11, 12, 13, 14, 15], [2, 4]), ([16, 13, 15, 0, 1, 2, 3, 4, 5, 6, 7, 8, 9, 10, 11, 12, 13, 14, 15], [13, 16])])
def zg.B6 : List Nat := [0, 0, 0, 0, 8, 0, 0, 64, 224, 480, 0, 0, 3072, 7168, 16355, 32739, 65535, 131071]
theorem zg.tab6 : rtab .any (opsOf Tryd.f66 6) = zg.T6 := by kernel_rfl
theorem zg.bits6 : waitsOk zg.T6.2 zg.B6 = true := by kernel_rfl
theorem zg.calls (k : Nat) (P0_ : Nat → Prop) (u9000_ : Value) (l0 : List Int) (a1 a2 : Int) (r : List Int) (w0 w : World) (hG : GW w0) (hB : Below w0.heap.size w0 w) (ho0 : Kd.R (Kd.int .i64) 3 w w0.heap.size P0_ u9000_ l0) (h : zg.f k l0 a1 a2 = some r) :
  Calls Tryd.prog 66 #[u9000_, .int .i64 a1, .int .i64 a2] w fun e w' => e = .returned (.tuple #[]) ∧ Kd.R (Kd.int .i64) 3 w' w0.heap.size (fun k_ => (P0_ k_ ∨ w.heap.size ≤ k_)) u9000_ r ∧ Below w0.heap.size w0 w' ∧ Kept w w' (fun k_ => P0_ k_) := by
 have HO0 := zb.mk (show Kd.R (Kd.int .i64) 3 w w0.heap.size (fun k_ => (P0_ k_ ∨ w.heap.size ≤ k_)) u9000_ l0 from Kd.zH ho0 (fun k_ hk => (.inl hk)))
 have HG := zb.mk hG
 clear hG
 have HK := zb.mk (Kept.refl w (fun k_ => P0_ k_))
 have HW0 := zb.mk hB.size
 have HB := zb.mk hB
 clear hB
 have H : (zg.l0 k l0 a1 a2 (wrap64 (a1 + 1))) = some r := h
 clear h
 have H' := zb.mk H
 clear H
 go_enter Tryd.func66, Tryd.ntmps66
 go_wp2
 go_loopg [6] k (fun kq v6 w' => ∃ (x0_1 : List Int) (x6_1 : Int), v6 = .int .i64 x6_1 ∧ zb (zg.l0 kq x0_1 a1 a2 x6_1 = some r) ∧ zb (kq ≤ k) ∧ zb (Kd.R (Kd.int .i64) 3 w' w0.heap.size (fun k_ => (P0_ k_ ∨ w.heap.size ≤ k_)) u9000_ x0_1) ∧ zb (Kept w w' (fun k_ => P0_ k_)) ∧ zb (Below w0.heap.size w0 w'))
 case atStart => exact ⟨(l0), (wrap64 (a1 + 1)), eq0, H', ⟨Nat.le_refl _⟩, ⟨Kd.rx HO0.out⟩, ⟨by repeat ((with_reducible exact HK.out))⟩, ⟨bl HB.out⟩⟩
 case round =>
  clear H'
  obtain ⟨x0_1, x6_1, rfl, HA, HK1, HO_0, HK, HB⟩ := hrel
  cases gk with
  | zero => exact absurd HA.out (by simp [zg.l0])
  | succ k1 =>
   have H := HA.out
   clear HA
   simp only [zg.l0] at H
   by_cases c4 : x6_1 < a2
   ·rw [if_pos c4] at H
    have c4b0 := decide_eq_true c4
    clear c4
    have H' := zb.mk H
    clear H
    go_wp2
    go_loopg [7] k1 (fun kq v7 w' => ∃ (x0_2 : List Int) (x7_2 : Int), v7 = .int .i64 x7_2 ∧ zb (zg.l1 kq x0_2 a1 a2 x6_1 x7_2 = some r) ∧ zb (kq ≤ k1) ∧ zb (Kd.R (Kd.int .i64) 3 w' w0.heap.size (fun k_ => (P0_ k_ ∨ w.heap.size ≤ k_)) u9000_ x0_2) ∧ zb (Kept w w' (fun k_ => P0_ k_)) ∧ zb (Below w0.heap.size w0 w'))
    case atStart => exact ⟨(x0_1), (x6_1), eq0, H', ⟨Nat.le_refl _⟩, ⟨Kd.rx HO_0.out⟩, ⟨by repeat ((with_reducible exact HK.out))⟩, ⟨bl HB.out⟩⟩
    case round =>
     clear H'
     (try clear c4b0)
     obtain ⟨x0_2, x7_2, rfl, HA, HK2, HO_0, HK, HB⟩ := hrel
     cases gk with
     | zero => exact absurd HA.out (by simp [zg.l1])
     | succ k2 =>
      have H := HA.out
      clear HA
      simp only [zg.l1] at H
      by_cases c5 : x7_2 > a1
      ·rw [if_pos c5] at H
       have c5b0 := decide_eq_true c5
       clear c5
       replace H := qh H; obtain ⟨c6, H⟩ := H
       have c6b0 := decide_eq_true c6
       clear c6
       replace H := qh H; obtain ⟨c7, H⟩ := H
       have c7b0 := decide_eq_true c7
       clear c7
       obtain ⟨ji8, hji8⟩ : ∃ j_ : Int, (wrap64 (x7_2 - 1)) = j_ := ⟨_, rfl⟩
       rw [hji8] at H
       have hji8w : (IntKind.i64.wrap (x7_2 - 1)) = ji8 := (qd _).trans hji8
       replace H := qh H; obtain ⟨c9, H⟩ := H
       have c9b0 := decide_eq_true c9
       clear c9
       replace H := qh H; obtain ⟨c10, H⟩ := H
       have c10b0 := decide_eq_true c10
       clear c10
       replace H := zO H; obtain ⟨t179, A11, H⟩ := H
       by_cases c12 : t179 = true
       ·subst c12
        replace H := ifT H
        obtain ⟨y182, hy182⟩ : ∃ y_ : List Int, y_ = (x0_2.set (x7_2 : Int).toNat (rd x0_2 (ji8))) := ⟨_, rfl⟩
        replace H : (zg.l1 k2 (y182.set ((ji8) : Int).toNat (rd x0_2 x7_2)) a1 a2 x6_1 ji8) = some r := by (rw [hy182]; with_reducible exact H)
        have Ny182 := zb.mk hy182
        clear hy182
        obtain ⟨y183, hy183⟩ : ∃ y_ : List Int, y_ = (y182.set ((ji8) : Int).toNat (rd x0_2 x7_2)) := ⟨_, rfl⟩
        replace H : (zg.l1 k2 y183 a1 a2 x6_1 ji8) = some r := by (rw [hy183]; with_reducible exact H)
        have Ny183 := zb.mk hy183
        clear hy183
        have H' := zb.mk H
        clear H
        try go_wp2
        have n0_ := zb.mk (Kd.R_drew HO_0.out)
        have n1_ := zb.mk (Kept.drew HK.out)
        have n2_ := zb.mk (xY HB.out)
        clear HO_0
        clear HK
        clear HB
        have HO_0 := n0_
        have HK := n1_
        have HB := n2_
        clear n0_ n1_ n2_
        obtain ⟨Ao16, co16, eo16⟩ := Kd.zw HO_0.out
        (subst eo16)
        have p177 : 0 ≤ (x7_2 : Int) := dq
        have q177 : x7_2 < (x0_2.length : Int) := dq
        obtain ⟨ad177, e177, hx177_0⟩ := Kd.xO (Kd.zf HO_0.out).2.2 x7_2 p177 q177
        cases e177
        replace p177 := eq_true p177
        replace q177 := eq_true q177
        have p178 : 0 ≤ ((ji8) : Int) := dq
        have q178 : (ji8) < (x0_2.length : Int) := dq
        obtain ⟨ad178, e178, hx178_0⟩ := Kd.xO (Kd.zf HO_0.out).2.2 (ji8) p178 q178
        obtain rfl : ad177 = ad178 := (by injection e178)
        replace p178 := eq_true p178
        replace q178 := eq_true q178
        refine start_ (n := 15) (S := fun w' => w'.cell? (ad177.add (x7_2).toNat) = some (.int .i64 (rd x0_2 x7_2)) ∧ w'.cell? (ad177.add ((ji8)).toNat) = some (.int .i64 (rd x0_2 (ji8)))) (ds := []) #[false, false, false, false, false, false, false, false, false, false, false, false, false, false, false] (by kernel_rfl) rfl rfl ⟨hx177_0, hx178_0⟩ (fun hHeld => ?_); refine with_tabW zg.tab4 zg.bits4 (fun HT_ HW_ => ?_)
        generalize wr.drew = w15 at HO_0 HK HB hx177_0 hx178_0 hHeld ⊢
        refine qB (i := 0) (N := some 16) (v := ?_) (a' := ?_) #[true, false, false, false, false, false, false, false, false, false, false, false, false, false, false] rfl rfl (qn HT_.out (by kernel_rfl)) (fun _ _ _ h => h) (Or.inl ⟨by rfl, ?_⟩) ?_ ?_
        rotate_left
        ·intro w'
         go_simp
         with_reducible rfl
        rotate_left
        ·simp only [Act.put, List.setIfInBounds_toArray, List.set_cons_zero, List.set_cons_succ, qd, qo]
         rfl
        refine qB (i := 1) (N := some 17) (v := ?_) (a' := ?_) #[true, true, false, false, false, false, false, false, false, false, false, false, false, false, false] rfl rfl (qn HT_.out (by kernel_rfl)) (fun _ _ _ h => h) (Or.inl ⟨by rfl, ?_⟩) ?_ ?_
        rotate_left
        ·intro w'
         go_simp
         with_reducible rfl
        rotate_left
        ·simp only [Act.put, List.setIfInBounds_toArray, List.set_cons_zero, List.set_cons_succ, qd, qo]
         rfl
        refine qB (i := 2) (N := some 18) (v := ?_) (a' := ?_) #[true, true, true, false, false, false, false, false, false, false, false, false, false, false, false] rfl rfl (qn HT_.out (by kernel_rfl)) (fun _ _ _ h => h) (Or.inl ⟨by rfl, ?_⟩) ?_ ?_
        rotate_left
        ·intro w'
         go_simp
         with_reducible rfl
        rotate_left
        ·simp only [Act.put, List.setIfInBounds_toArray, List.set_cons_zero, List.set_cons_succ, qd, qo]
         rfl
        refine qB (i := 3) (N := some 19) (v := ?_) (a' := ?_) #[true, true, true, true, false, false, false, false, false, false, false, false, false, false, false] rfl rfl (qn HT_.out (by kernel_rfl)) (fun _ _ _ h => h) (Or.inl ⟨by rfl, ?_⟩) ?_ ?_
        rotate_left
        ·intro w'
         go_simp
         with_reducible rfl
        rotate_left
        ·simp only [Act.put, List.setIfInBounds_toArray, List.set_cons_zero, List.set_cons_succ, qd, qo]
         rfl
        refine qB (i := 4) (N := some 20) (v := ?_) (a' := ?_) #[true, true, true, true, true, false, false, false, false, false, false, false, false, false, false] rfl rfl (qn HT_.out (by kernel_rfl)) (fun _ _ _ h => h) (Or.inl ⟨by rfl, ?_⟩) ?_ ?_
        rotate_left
        ·intro w'
         go_simp
         with_reducible rfl
        rotate_left
        ·simp only [Act.put, List.setIfInBounds_toArray, List.set_cons_zero, List.set_cons_succ, qd, qo]
         rfl
        refine qB (i := 5) (N := some 21) (v := ?_) (a' := ?_) #[true, true, true, true, true, true, false, false, false, false, false, false, false, false, false] rfl rfl (qn HT_.out (by kernel_rfl)) (fun _ _ _ h => h) (Or.inl ⟨by rfl, ?_⟩) ?_ ?_
        rotate_left
        ·intro w'
         go_simp
         with_reducible rfl
        rotate_left
        ·simp only [Act.put, List.setIfInBounds_toArray, List.set_cons_zero, List.set_cons_succ, qd, qo]
         rfl
        refine qB (i := 6) (N := some 22) (v := ?_) (a' := ?_) #[true, true, true, true, true, true, true, false, false, false, false, false, false, false, false] rfl rfl (qn HT_.out (by kernel_rfl)) (fun _ _ _ h => h) (Or.inl ⟨by rfl, ?_⟩) ?_ ?_
        rotate_left
        ·intro w'
         go_simp
         with_reducible rfl
        rotate_left
        ·simp only [Act.put, List.setIfInBounds_toArray, List.set_cons_zero, List.set_cons_succ, qd, qo]
         rfl
        refine qB (i := 8) (N := some 24) (v := ?_) (a' := ?_) #[true, true, true, true, true, true, true, false, true, false, false, false, false, false, false] rfl rfl (qn HT_.out (by kernel_rfl)) (fun _ _ _ h => h) (Or.inl ⟨by rfl, ?_⟩) ?_ ?_
        rotate_left
        ·intro w'
         go_simp
         with_reducible rfl
        rotate_left
        ·simp only [Act.put, List.setIfInBounds_toArray, List.set_cons_zero, List.set_cons_succ, qd, qo]
         rfl
        refine qB (i := 9) (N := some 25) (v := ?_) (a' := ?_) #[true, true, true, true, true, true, true, false, true, true, false, false, false, false, false] rfl rfl (qn HT_.out (by kernel_rfl)) (fun _ _ _ h => h) (Or.inl ⟨by rfl, ?_⟩) ?_ ?_
        rotate_left
        ·intro w'
         go_simp
         with_reducible rfl
        rotate_left
        ·simp only [Act.put, List.setIfInBounds_toArray, List.set_cons_zero, List.set_cons_succ, qd, qo]
         rfl
        refine qB (i := 10) (N := some 26) (v := ?_) (a' := ?_) #[true, true, true, true, true, true, true, false, true, true, true, false, false, false, false] rfl rfl (qn HT_.out (by kernel_rfl)) (fun _ _ _ h => h) (Or.inl ⟨by rfl, ?_⟩) ?_ ?_
        rotate_left
        ·intro w'
         go_simp
         with_reducible rfl
        rotate_left
        ·simp only [Act.put, List.setIfInBounds_toArray, List.set_cons_zero, List.set_cons_succ, qd, qo]
         rfl
        refine qB (i := 11) (N := some 27) (v := ?_) (a' := ?_) #[true, true, true, true, true, true, true, false, true, true, true, true, false, false, false] rfl rfl (qn HT_.out (by kernel_rfl)) (fun _ _ _ h => h) (Or.inl ⟨by rfl, ?_⟩) ?_ ?_
        rotate_left
        ·intro w'
         go_simp
         with_reducible rfl
        rotate_left
        ·simp only [Act.put, List.setIfInBounds_toArray, List.set_cons_zero, List.set_cons_succ, qd, qo]
         rfl
        refine take_ (i := 7) (N := some 23) (v := ?_) (a' := ?_) #[true, true, true, true, true, true, true, true, true, true, true, true, false, false, false] rfl rfl (jo HT_.out HW_.out (by kernel_rfl)) (fun _ _ _ h => h) (Or.inl ⟨by rfl, ?_⟩) hHeld ?_ ?_
        rotate_left
        ·rintro w' ⟨s0, s1⟩
         go_simp
         with_reducible rfl
        rotate_left
        ·simp only [Act.put, List.setIfInBounds_toArray, List.set_cons_zero, List.set_cons_succ, qd, qo]
         rfl
        refine take_ (i := 12) (N := some 28) (v := ?_) (a' := ?_) #[true, true, true, true, true, true, true, true, true, true, true, true, true, false, false] rfl rfl (jo HT_.out HW_.out (by kernel_rfl)) (fun _ _ _ h => h) (Or.inl ⟨by rfl, ?_⟩) hHeld ?_ ?_
        rotate_left
        ·rintro w' ⟨s0, s1⟩
         go_simp
         with_reducible rfl
        rotate_left
        ·simp only [Act.put, List.setIfInBounds_toArray, List.set_cons_zero, List.set_cons_succ, qd, qo]
         rfl
        refine one_ (i := 13) (N := some 29) #[true, true, true, true, true, true, true, true, true, true, true, true, true, true, false] rfl rfl (one_of HT_.out (by kernel_rfl)) (by decide) (fun K hK => ?_)
        refine goes_ Tryd.func72 (by kernel_rfl) rfl #[.int .i64 (rd x0_2 x7_2), .int .i64 (rd x0_2 (ji8))] (by rfl) rfl rfl (by (try simp only [List.map_toArray, List.map_cons, List.map_nil]); rfl) ?_
        with_reducible refine (jm.calls (rd x0_2 x7_2) (rd x0_2 (ji8)) true _ ?side1 A11.out).mono ?_
        (case side1 => exact gb HG HB)
        rintro e w' ⟨rfl, ⟨nd, rfl⟩⟩
        refine ⟨_, rfl, ?_⟩
        refine hK.out _ _ ⟨hHeld.1, hHeld.2⟩ (fun hHeld => ?_)
        clear hK K
        refine norm_ (a' := ?_) ?_ ?_
        rotate_left
        ·show Act.put _ (some 29) _ = _
         simp only [Act.put, List.setIfInBounds_toArray, List.set_cons_zero, List.set_cons_succ, qd, qo]
         rfl
        refine qB (i := 14) (N := some 30) (v := ?_) (a' := ?_) #[true, true, true, true, true, true, true, true, true, true, true, true, true, true, true] rfl rfl (qn HT_.out (by kernel_rfl)) (fun _ _ _ h => h) (Or.inl ⟨by rfl, ?_⟩) ?_ ?_
        rotate_left
        ·intro w'
         go_simp
         with_reducible rfl
        rotate_left
        ·simp only [Act.put, List.setIfInBounds_toArray, List.set_cons_zero, List.set_cons_succ, qd, qo]
         rfl
        refine done_ (done_of HT_.out (by kernel_rfl)) ?_
        try go_wp2
        (try (rw [xm w15]; generalize hq_ : World.drewN w15 _ = w15; replace HO_0 : zb (Kd.R (Kd.int .i64) 3 w15 w0.heap.size (fun k_ => (P0_ k_ ∨ w.heap.size ≤ k_)) (.slice (some ad177) x0_2.length co16) x0_2) := ⟨by rw [← hq_]; exact (Kd.rx HO_0.out)⟩; replace HK : zb (Kept w w15 (fun k_ => P0_ k_)) := ⟨by rw [← hq_]; exact (by repeat ((with_reducible first | exact HK.out | apply Kept.drewN)))⟩; replace HB : zb (Below w0.heap.size w0 w15) := ⟨by rw [← hq_]; exact (bl HB.out)⟩; clear hq_))
        have n0_ := zb.mk (Kd.R_drew HO_0.out)
        have n1_ := zb.mk (Kept.drew HK.out)
        have n2_ := zb.mk (xY HB.out)
        clear HO_0
        clear HK
        clear HB
        have HO_0 := n0_
        have HK := n1_
        have HB := n2_
        clear n0_ n1_ n2_
        have p180 : 0 ≤ ((ji8) : Int) := dq
        have q180 : (ji8) < (x0_2.length : Int) := dq
        obtain ⟨ad180, e180, hx180_0⟩ := Kd.xO (Kd.zf HO_0.out).2.2 (ji8) p180 q180
        obtain rfl : ad177 = ad180 := (by injection e180)
        replace p180 := eq_true p180
        replace q180 := eq_true q180
        have p181 : 0 ≤ (x7_2 : Int) := dq
        have q181 : x7_2 < (x0_2.length : Int) := dq
        obtain ⟨ad181, e181, hx181_0⟩ := Kd.xO (Kd.zf HO_0.out).2.2 x7_2 p181 q181
        obtain rfl : ad177 = ad181 := (by injection e181)
        replace p181 := eq_true p181
        replace q181 := eq_true q181
        have p13 : 0 ≤ (x7_2 : Int) := dq
        have q13 : (x7_2 : Int) < ((x0_2.length : Int) : Int) := dq
        obtain ⟨go13, co13, eo13, gb13, gl13, cl13, HG13⟩ := Kd.xR HO_0.out (by omega)
        (cases eo13)
        have GB13 := zb.mk gb13
        have GG13 := zb.mk HG13
        clear gb13 gl13 HG13
        have HMgo13 := zb.mk (show (P0_ go13 ∨ w.heap.size ≤ go13) from (HO_0.out.1 _ rfl))
        (simp only [add_plain] at hx177_0)
        (simp only [add_plain] at hx178_0)
        (simp only [add_plain] at hx180_0)
        (simp only [add_plain] at hx181_0)
        obtain ⟨hx13_0, hf13_0⟩ := Kd.xG 0 HO_0.out (x7_2 : Int) p13 q13
        replace p13 := eq_true p13
        replace q13 := eq_true q13
        have HP18 := Kd.R_putn HO_0.out (x7_2 : Int) (rd x0_2 (ji8))
        rw [← Ny182.out] at HP18
        have HQ18 := zb.mk HP18
        clear HP18
        have p14 : 0 ≤ ((ji8) : Int) := dq
        have q14 : ((ji8) : Int) < ((x0_2.length : Int) : Int) := dq
        obtain ⟨hx14_0, hf14_0⟩ := Kd.xG 0 HQ18.out ((ji8) : Int) p14 q14
        replace p14 := eq_true p14
        replace q14 := eq_true q14
        have HP19 := Kd.R_putn HQ18.out ((ji8) : Int) (rd x0_2 x7_2)
        rw [← Ny183.out] at HP19
        have HQ19 := zb.mk HP19
        clear HP19
        refine start_ (n := 18) (S := fun w' => w'.cell? ⟨go13, ((ji8)).toNat, none⟩ = some (.int .i64 (rd x0_2 (ji8))) ∧ w'.cell? ⟨go13, (x7_2).toNat, none⟩ = some (.int .i64 (rd x0_2 x7_2))) (ds := [15, 17]) #[false, false, false, false, false, false, false, false, false, false, false, false, false, false, false, false, false, false] (by kernel_rfl) rfl rfl ⟨hx180_0, hx181_0⟩ (fun hHeld => ?_); refine with_tabW zg.tab6 zg.bits6 (fun HT_ HW_ => ?_)
        generalize w15.drew = w17 at HO_0 HK HB GG13 HQ18 HQ19 hf13_0 hf14_0 hx13_0 hx14_0 hx177_0 hx178_0 hx180_0 hx181_0 hHeld ⊢
        refine qB (i := 0) (N := some 33) (v := ?_) (a' := ?_) #[true, false, false, false, false, false, false, false, false, false, false, false, false, false, false, false, false, false] rfl rfl (qn HT_.out (by kernel_rfl)) (fun _ _ _ h => h) (Or.inl ⟨by rfl, ?_⟩) ?_ ?_
        rotate_left
        ·intro w'
         go_simp
         with_reducible rfl
        rotate_left
        ·simp only [Act.put, List.setIfInBounds_toArray, List.set_cons_zero, List.set_cons_succ, qd, qo]
         rfl
        refine qB (i := 1) (N := some 34) (v := ?_) (a' := ?_) #[true, true, false, false, false, false, false, false, false, false, false, false, false, false, false, false, false, false] rfl rfl (qn HT_.out (by kernel_rfl)) (fun _ _ _ h => h) (Or.inl ⟨by rfl, ?_⟩) ?_ ?_
        rotate_left
        ·intro w'
         go_simp
         with_reducible rfl
        rotate_left
        ·simp only [Act.put, List.setIfInBounds_toArray, List.set_cons_zero, List.set_cons_succ, qd, qo]
         rfl
        refine qB (i := 2) (N := some 35) (v := ?_) (a' := ?_) #[true, true, true, false, false, false, false, false, false, false, false, false, false, false, false, false, false, false] rfl rfl (qn HT_.out (by kernel_rfl)) (fun _ _ _ h => h) (Or.inl ⟨by rfl, ?_⟩) ?_ ?_
        rotate_left
        ·intro w'
         go_simp
         with_reducible rfl
        rotate_left
        ·simp only [Act.put, List.setIfInBounds_toArray, List.set_cons_zero, List.set_cons_succ, qd, qo]
         rfl
        refine qB (i := 3) (N := some 36) (v := ?_) (a' := ?_) #[true, true, true, true, false, false, false, false, false, false, false, false, false, false, false, false, false, false] rfl rfl (qn HT_.out (by kernel_rfl)) (fun _ _ _ h => h) (Or.inl ⟨by rfl, ?_⟩) ?_ ?_
        rotate_left
        ·intro w'
         go_simp
         with_reducible rfl
        rotate_left
        ·simp only [Act.put, List.setIfInBounds_toArray, List.set_cons_zero, List.set_cons_succ, qd, qo]
         rfl
        refine qB (i := 4) (N := some 37) (v := ?_) (a' := ?_) #[true, true, true, true, true, false, false, false, false, false, false, false, false, false, false, false, false, false] rfl rfl (qn HT_.out (by kernel_rfl)) (fun _ _ _ h => h) (Or.inl ⟨by rfl, ?_⟩) ?_ ?_
        rotate_left
        ·intro w'
         go_simp
         with_reducible rfl
        rotate_left
        ·simp only [Act.put, List.setIfInBounds_toArray, List.set_cons_zero, List.set_cons_succ, qd, qo]
         rfl
        refine qB (i := 5) (N := some 38) (v := ?_) (a' := ?_) #[true, true, true, true, true, true, false, false, false, false, false, false, false, false, false, false, false, false] rfl rfl (qn HT_.out (by kernel_rfl)) (fun _ _ _ h => h) (Or.inl ⟨by rfl, ?_⟩) ?_ ?_
        rotate_left
        ·intro w'
         go_simp
         with_reducible rfl
        rotate_left
        ·simp only [Act.put, List.setIfInBounds_toArray, List.set_cons_zero, List.set_cons_succ, qd, qo]
         rfl
        refine qB (i := 6) (N := some 39) (v := ?_) (a' := ?_) #[true, true, true, true, true, true, true, false, false, false, false, false, false, false, false, false, false, false] rfl rfl (qn HT_.out (by kernel_rfl)) (fun _ _ _ h => h) (Or.inl ⟨by rfl, ?_⟩) ?_ ?_
        rotate_left
        ·intro w'
         go_simp
         with_reducible rfl
        rotate_left
        ·simp only [Act.put, List.setIfInBounds_toArray, List.set_cons_zero, List.set_cons_succ, qd, qo]
         rfl
        refine qB (i := 7) (N := some 40) (v := ?_) (a' := ?_) #[true, true, true, true, true, true, true, true, false, false, false, false, false, false, false, false, false, false] rfl rfl (qn HT_.out (by kernel_rfl)) (fun _ _ _ h => h) (Or.inl ⟨by rfl, ?_⟩) ?_ ?_
        rotate_left
        ·intro w'
         go_simp
         with_reducible rfl
        rotate_left
        ·simp only [Act.put, List.setIfInBounds_toArray, List.set_cons_zero, List.set_cons_succ, qd, qo]
         rfl
        refine qB (i := 8) (N := some 41) (v := ?_) (a' := ?_) #[true, true, true, true, true, true, true, true, true, false, false, false, false, false, false, false, false, false] rfl rfl (qn HT_.out (by kernel_rfl)) (fun _ _ _ h => h) (Or.inl ⟨by rfl, ?_⟩) ?_ ?_
        rotate_left
        ·intro w'
         go_simp
         with_reducible rfl
        rotate_left
        ·simp only [Act.put, List.setIfInBounds_toArray, List.set_cons_zero, List.set_cons_succ, qd, qo]
         rfl
        refine qB (i := 10) (N := some 43) (v := ?_) (a' := ?_) #[true, true, true, true, true, true, true, true, true, false, true, false, false, false, false, false, false, false] rfl rfl (qn HT_.out (by kernel_rfl)) (fun _ _ _ h => h) (Or.inl ⟨by rfl, ?_⟩) ?_ ?_
        rotate_left
        ·intro w'
         go_simp
         with_reducible rfl
        rotate_left
        ·simp only [Act.put, List.setIfInBounds_toArray, List.set_cons_zero, List.set_cons_succ, qd, qo]
         rfl
        refine qB (i := 11) (N := some 44) (v := ?_) (a' := ?_) #[true, true, true, true, true, true, true, true, true, false, true, true, false, false, false, false, false, false] rfl rfl (qn HT_.out (by kernel_rfl)) (fun _ _ _ h => h) (Or.inl ⟨by rfl, ?_⟩) ?_ ?_
        rotate_left
        ·intro w'
         go_simp
         with_reducible rfl
        rotate_left
        ·simp only [Act.put, List.setIfInBounds_toArray, List.set_cons_zero, List.set_cons_succ, qd, qo]
         rfl
        refine qB (i := 12) (N := some 45) (v := ?_) (a' := ?_) #[true, true, true, true, true, true, true, true, true, false, true, true, true, false, false, false, false, false] rfl rfl (qn HT_.out (by kernel_rfl)) (fun _ _ _ h => h) (Or.inl ⟨by rfl, ?_⟩) ?_ ?_
        rotate_left
        ·intro w'
         go_simp
         with_reducible rfl
        rotate_left
        ·simp only [Act.put, List.setIfInBounds_toArray, List.set_cons_zero, List.set_cons_succ, qd, qo]
         rfl
        refine take_ (i := 9) (N := some 42) (v := ?_) (a' := ?_) #[true, true, true, true, true, true, true, true, true, true, true, true, true, false, false, false, false, false] rfl rfl (jo HT_.out HW_.out (by kernel_rfl)) (fun _ _ _ h => h) (Or.inl ⟨by rfl, ?_⟩) hHeld ?_ ?_
        rotate_left
        ·rintro w' ⟨s0, s1⟩
         go_simp
         with_reducible rfl
        rotate_left
        ·simp only [Act.put, List.setIfInBounds_toArray, List.set_cons_zero, List.set_cons_succ, qd, qo]
         rfl
        refine take_ (i := 13) (N := some 46) (v := ?_) (a' := ?_) #[true, true, true, true, true, true, true, true, true, true, true, true, true, true, false, false, false, false] rfl rfl (jo HT_.out HW_.out (by kernel_rfl)) (fun _ _ _ h => h) (Or.inl ⟨by rfl, ?_⟩) hHeld ?_ ?_
        rotate_left
        ·rintro w' ⟨s0, s1⟩
         go_simp
         with_reducible rfl
        rotate_left
        ·simp only [Act.put, List.setIfInBounds_toArray, List.set_cons_zero, List.set_cons_succ, qd, qo]
         rfl
        refine qB (i := 14) (N := some 47) (v := ?_) (a' := ?_) #[true, true, true, true, true, true, true, true, true, true, true, true, true, true, true, false, false, false] rfl rfl (qn HT_.out (by kernel_rfl)) (fun _ _ _ h => h) (Or.inl ⟨by rfl, ?_⟩) ?_ ?_
        rotate_left
        ·intro w'
         go_simp
         with_reducible rfl
        rotate_left
        ·simp only [Act.put, List.setIfInBounds_toArray, List.set_cons_zero, List.set_cons_succ, qd, qo]
         rfl
        refine last_ (i := 15) (N := none) #[true, true, true, true, true, true, true, true, true, true, true, true, true, true, true, true, false, false] rfl rfl (one_of HT_.out (by kernel_rfl)) (by decide) (fun K hK => ?_)
        refine skip_ (w1 := ?_) (by rfl) rfl ?_ ?_
        rotate_left
        ·go_simp
         rfl
        refine hK.out _ _ ?_
        clear hK K
        refine qB (i := 16) (N := some 48) (v := ?_) (a' := ?_) #[true, true, true, true, true, true, true, true, true, true, true, true, true, true, true, true, true, false] rfl rfl (qn HT_.out (by kernel_rfl)) (fun _ _ _ h => h) (Or.inl ⟨by rfl, ?_⟩) ?_ ?_
        rotate_left
        ·intro w'
         go_simp
         with_reducible rfl
        rotate_left
        ·simp only [Act.put, List.setIfInBounds_toArray, List.set_cons_zero, List.set_cons_succ, qd, qo]
         rfl
        refine last_ (i := 17) (N := none) #[true, true, true, true, true, true, true, true, true, true, true, true, true, true, true, true, true, true] rfl rfl (one_of HT_.out (by kernel_rfl)) (by decide) (fun K hK => ?_)
        refine skip_ (w1 := ?_) (by rfl) rfl ?_ ?_
        rotate_left
        ·go_simp
         rfl
        refine hK.out _ _ ?_
        clear hK K
        refine done_ (done_of HT_.out (by kernel_rfl)) ?_
        try go_wp2
        go_roundg k2
        case measure => have := HK1.out; have := HK2.out; omega
        case rel => exact ⟨(y183), (ji8), (by rfl), H', ⟨by have := HK1.out; have := HK2.out; omega⟩, ⟨Kd.rx HQ19.out⟩, ⟨by repeat ((with_reducible first | exact HK.out | refine Kept.setCell ?_ HMgo13.out _))⟩, ⟨bsq⟩⟩
       ·replace c12 := Bool.eq_false_iff.mpr c12
        subst c12
        replace H := ifF H
        have H' := zb.mk H
        clear H
        try go_wp2
        have n0_ := zb.mk (Kd.R_drew HO_0.out)
        have n1_ := zb.mk (Kept.drew HK.out)
        have n2_ := zb.mk (xY HB.out)
        clear HO_0
        clear HK
        clear HB
        have HO_0 := n0_
        have HK := n1_
        have HB := n2_
        clear n0_ n1_ n2_
        obtain ⟨Ao21, co21, eo21⟩ := Kd.zw HO_0.out
        (subst eo21)
        have p177 : 0 ≤ (x7_2 : Int) := dq
        have q177 : x7_2 < (x0_2.length : Int) := dq
        obtain ⟨ad177, e177, hx177_0⟩ := Kd.xO (Kd.zf HO_0.out).2.2 x7_2 p177 q177
        cases e177
        replace p177 := eq_true p177
        replace q177 := eq_true q177
        have p178 : 0 ≤ ((ji8) : Int) := dq
        have q178 : (ji8) < (x0_2.length : Int) := dq
        obtain ⟨ad178, e178, hx178_0⟩ := Kd.xO (Kd.zf HO_0.out).2.2 (ji8) p178 q178
        obtain rfl : ad177 = ad178 := (by injection e178)
        replace p178 := eq_true p178
        replace q178 := eq_true q178
        refine start_ (n := 15) (S := fun w' => w'.cell? (ad177.add (x7_2).toNat) = some (.int .i64 (rd x0_2 x7_2)) ∧ w'.cell? (ad177.add ((ji8)).toNat) = some (.int .i64 (rd x0_2 (ji8)))) (ds := []) #[false, false, false, false, false, false, false, false, false, false, false, false, false, false, false] (by kernel_rfl) rfl rfl ⟨hx177_0, hx178_0⟩ (fun hHeld => ?_); refine with_tabW zg.tab4 zg.bits4 (fun HT_ HW_ => ?_)
        generalize wr.drew = w20 at HO_0 HK HB hx177_0 hx178_0 hHeld ⊢
        refine qB (i := 0) (N := some 16) (v := ?_) (a' := ?_) #[true, false, false, false, false, false, false, false, false, false, false, false, false, false, false] rfl rfl (qn HT_.out (by kernel_rfl)) (fun _ _ _ h => h) (Or.inl ⟨by rfl, ?_⟩) ?_ ?_
        rotate_left
        ·intro w'
         go_simp
         with_reducible rfl
        rotate_left
        ·simp only [Act.put, List.setIfInBounds_toArray, List.set_cons_zero, List.set_cons_succ, qd, qo]
         rfl
        refine qB (i := 1) (N := some 17) (v := ?_) (a' := ?_) #[true, true, false, false, false, false, false, false, false, false, false, false, false, false, false] rfl rfl (qn HT_.out (by kernel_rfl)) (fun _ _ _ h => h) (Or.inl ⟨by rfl, ?_⟩) ?_ ?_
        rotate_left
        ·intro w'
         go_simp
         with_reducible rfl
        rotate_left
        ·simp only [Act.put, List.setIfInBounds_toArray, List.set_cons_zero, List.set_cons_succ, qd, qo]
         rfl
        refine qB (i := 2) (N := some 18) (v := ?_) (a' := ?_) #[true, true, true, false, false, false, false, false, false, false, false, false, false, false, false] rfl rfl (qn HT_.out (by kernel_rfl)) (fun _ _ _ h => h) (Or.inl ⟨by rfl, ?_⟩) ?_ ?_
        rotate_left
        ·intro w'
         go_simp
         with_reducible rfl
        rotate_left
        ·simp only [Act.put, List.setIfInBounds_toArray, List.set_cons_zero, List.set_cons_succ, qd, qo]
         rfl
        refine qB (i := 3) (N := some 19) (v := ?_) (a' := ?_) #[true, true, true, true, false, false, false, false, false, false, false, false, false, false, false] rfl rfl (qn HT_.out (by kernel_rfl)) (fun _ _ _ h => h) (Or.inl ⟨by rfl, ?_⟩) ?_ ?_
        rotate_left
        ·intro w'
         go_simp
         with_reducible rfl
        rotate_left
        ·simp only [Act.put, List.setIfInBounds_toArray, List.set_cons_zero, List.set_cons_succ, qd, qo]
         rfl
        refine qB (i := 4) (N := some 20) (v := ?_) (a' := ?_) #[true, true, true, true, true, false, false, false, false, false, false, false, false, false, false] rfl rfl (qn HT_.out (by kernel_rfl)) (fun _ _ _ h => h) (Or.inl ⟨by rfl, ?_⟩) ?_ ?_
        rotate_left
        ·intro w'
         go_simp
         with_reducible rfl
        rotate_left
        ·simp only [Act.put, List.setIfInBounds_toArray, List.set_cons_zero, List.set_cons_succ, qd, qo]
         rfl
        refine qB (i := 5) (N := some 21) (v := ?_) (a' := ?_) #[true, true, true, true, true, true, false, false, false, false, false, false, false, false, false] rfl rfl (qn HT_.out (by kernel_rfl)) (fun _ _ _ h => h) (Or.inl ⟨by rfl, ?_⟩) ?_ ?_
        rotate_left
        ·intro w'
         go_simp
         with_reducible rfl
        rotate_left
        ·simp only [Act.put, List.setIfInBounds_toArray, List.set_cons_zero, List.set_cons_succ, qd, qo]
         rfl
        refine qB (i := 6) (N := some 22) (v := ?_) (a' := ?_) #[true, true, true, true, true, true, true, false, false, false, false, false, false, false, false] rfl rfl (qn HT_.out (by kernel_rfl)) (fun _ _ _ h => h) (Or.inl ⟨by rfl, ?_⟩) ?_ ?_
        rotate_left
        ·intro w'
         go_simp
         with_reducible rfl
        rotate_left
        ·simp only [Act.put, List.setIfInBounds_toArray, List.set_cons_zero, List.set_cons_succ, qd, qo]
         rfl
        refine qB (i := 8) (N := some 24) (v := ?_) (a' := ?_) #[true, true, true, true, true, true, true, false, true, false, false, false, false, false, false] rfl rfl (qn HT_.out (by kernel_rfl)) (fun _ _ _ h => h) (Or.inl ⟨by rfl, ?_⟩) ?_ ?_
        rotate_left
        ·intro w'
         go_simp
         with_reducible rfl
        rotate_left
        ·simp only [Act.put, List.setIfInBounds_toArray, List.set_cons_zero, List.set_cons_succ, qd, qo]
         rfl
        refine qB (i := 9) (N := some 25) (v := ?_) (a' := ?_) #[true, true, true, true, true, true, true, false, true, true, false, false, false, false, false] rfl rfl (qn HT_.out (by kernel_rfl)) (fun _ _ _ h => h) (Or.inl ⟨by rfl, ?_⟩) ?_ ?_
        rotate_left
        ·intro w'
         go_simp
         with_reducible rfl
        rotate_left
        ·simp only [Act.put, List.setIfInBounds_toArray, List.set_cons_zero, List.set_cons_succ, qd, qo]
         rfl
        refine qB (i := 10) (N := some 26) (v := ?_) (a' := ?_) #[true, true, true, true, true, true, true, false, true, true, true, false, false, false, false] rfl rfl (qn HT_.out (by kernel_rfl)) (fun _ _ _ h => h) (Or.inl ⟨by rfl, ?_⟩) ?_ ?_
        rotate_left
        ·intro w'
         go_simp
         with_reducible rfl
        rotate_left
        ·simp only [Act.put, List.setIfInBounds_toArray, List.set_cons_zero, List.set_cons_succ, qd, qo]
         rfl
        refine qB (i := 11) (N := some 27) (v := ?_) (a' := ?_) #[true, true, true, true, true, true, true, false, true, true, true, true, false, false, false] rfl rfl (qn HT_.out (by kernel_rfl)) (fun _ _ _ h => h) (Or.inl ⟨by rfl, ?_⟩) ?_ ?_
        rotate_left
        ·intro w'
         go_simp
         with_reducible rfl
        rotate_left
        ·simp only [Act.put, List.setIfInBounds_toArray, List.set_cons_zero, List.set_cons_succ, qd, qo]
         rfl
        refine take_ (i := 7) (N := some 23) (v := ?_) (a' := ?_) #[true, true, true, true, true, true, true, true, true, true, true, true, false, false, false] rfl rfl (jo HT_.out HW_.out (by kernel_rfl)) (fun _ _ _ h => h) (Or.inl ⟨by rfl, ?_⟩) hHeld ?_ ?_
        rotate_left
        ·rintro w' ⟨s0, s1⟩
         go_simp
         with_reducible rfl
        rotate_left
        ·simp only [Act.put, List.setIfInBounds_toArray, List.set_cons_zero, List.set_cons_succ, qd, qo]
         rfl
        refine take_ (i := 12) (N := some 28) (v := ?_) (a' := ?_) #[true, true, true, true, true, true, true, true, true, true, true, true, true, false, false] rfl rfl (jo HT_.out HW_.out (by kernel_rfl)) (fun _ _ _ h => h) (Or.inl ⟨by rfl, ?_⟩) hHeld ?_ ?_
        rotate_left
        ·rintro w' ⟨s0, s1⟩
         go_simp
         with_reducible rfl
        rotate_left
        ·simp only [Act.put, List.setIfInBounds_toArray, List.set_cons_zero, List.set_cons_succ, qd, qo]
         rfl
        refine one_ (i := 13) (N := some 29) #[true, true, true, true, true, true, true, true, true, true, true, true, true, true, false] rfl rfl (one_of HT_.out (by kernel_rfl)) (by decide) (fun K hK => ?_)
        refine goes_ Tryd.func72 (by kernel_rfl) rfl #[.int .i64 (rd x0_2 x7_2), .int .i64 (rd x0_2 (ji8))] (by rfl) rfl rfl (by (try simp only [List.map_toArray, List.map_cons, List.map_nil]); rfl) ?_
        with_reducible refine (jm.calls (rd x0_2 x7_2) (rd x0_2 (ji8)) false _ ?side1 A11.out).mono ?_
        (case side1 => exact gb HG HB)
        rintro e w' ⟨rfl, ⟨nd, rfl⟩⟩
        refine ⟨_, rfl, ?_⟩
        refine hK.out _ _ ⟨hHeld.1, hHeld.2⟩ (fun hHeld => ?_)
        clear hK K
        refine norm_ (a' := ?_) ?_ ?_
        rotate_left
        ·show Act.put _ (some 29) _ = _
         simp only [Act.put, List.setIfInBounds_toArray, List.set_cons_zero, List.set_cons_succ, qd, qo]
         rfl
        refine qB (i := 14) (N := some 30) (v := ?_) (a' := ?_) #[true, true, true, true, true, true, true, true, true, true, true, true, true, true, true] rfl rfl (qn HT_.out (by kernel_rfl)) (fun _ _ _ h => h) (Or.inl ⟨by rfl, ?_⟩) ?_ ?_
        rotate_left
        ·intro w'
         go_simp
         with_reducible rfl
        rotate_left
        ·simp only [Act.put, List.setIfInBounds_toArray, List.set_cons_zero, List.set_cons_succ, qd, qo]
         rfl
        refine done_ (done_of HT_.out (by kernel_rfl)) ?_
        try go_wp2
        go_roundg k2
        case measure => have := HK1.out; have := HK2.out; omega
        case rel => exact ⟨(x0_2), (wrap64 (x6_1 + 1)), eq0, H', ⟨by have := HK1.out; have := HK2.out; omega⟩, ⟨Kd.rx HO_0.out⟩, ⟨by repeat ((with_reducible first | exact HK.out | apply Kept.drewN))⟩, ⟨bl HB.out⟩⟩
      ·rw [if_neg c5] at H
       have c5b0 := decide_eq_false c5
       clear c5
       have H' := zb.mk H
       clear H
       try go_wp2
       have n0_ := zb.mk (Kd.R_drew HO_0.out)
       have n1_ := zb.mk (Kept.drew HK.out)
       have n2_ := zb.mk (xY HB.out)
       clear HO_0
       clear HK
       clear HB
       have HO_0 := n0_
       have HK := n1_
       have HB := n2_
       clear n0_ n1_ n2_
       refine start_ (n := 15) (S := fun w' => True) (ds := []) #[false, false, false, false, false, false, false, false, false, false, false, false, false, false, false] (by kernel_rfl) rfl rfl trivial (fun hHeld => ?_); refine with_tabW zg.tab4 zg.bits4 (fun HT_ HW_ => ?_)
       generalize wr.drew = w22 at HO_0 HK HB hHeld ⊢
       refine qB (i := 0) (N := some 16) (v := ?_) (a' := ?_) #[true, false, false, false, false, false, false, false, false, false, false, false, false, false, false] rfl rfl (qn HT_.out (by kernel_rfl)) (fun _ _ _ h => h) (Or.inl ⟨by rfl, ?_⟩) ?_ ?_
       rotate_left
       ·intro w'
        go_simp
        with_reducible rfl
       rotate_left
       ·simp only [Act.put, List.setIfInBounds_toArray, List.set_cons_zero, List.set_cons_succ, qd, qo]
        rfl
       refine qB (i := 1) (N := some 17) (v := ?_) (a' := ?_) #[true, true, false, false, false, false, false, false, false, false, false, false, false, false, false] rfl rfl (qn HT_.out (by kernel_rfl)) (fun _ _ _ h => h) (Or.inl ⟨by rfl, ?_⟩) ?_ ?_
       rotate_left
       ·intro w'
        go_simp
        with_reducible rfl
       rotate_left
       ·simp only [Act.put, List.setIfInBounds_toArray, List.set_cons_zero, List.set_cons_succ, qd, qo]
        rfl
       refine qB (i := 2) (N := some 18) (v := ?_) (a' := ?_) #[true, true, true, false, false, false, false, false, false, false, false, false, false, false, false] rfl rfl (qn HT_.out (by kernel_rfl)) (fun _ _ _ h => h) (Or.inl ⟨by rfl, ?_⟩) ?_ ?_
       rotate_left
       ·intro w'
        go_simp
        with_reducible rfl
       rotate_left
       ·simp only [Act.put, List.setIfInBounds_toArray, List.set_cons_zero, List.set_cons_succ, qd, qo]
        rfl
       refine qB (i := 3) (N := some 19) (v := ?_) (a' := ?_) #[true, true, true, true, false, false, false, false, false, false, false, false, false, false, false] rfl rfl (qn HT_.out (by kernel_rfl)) (fun _ _ _ h => h) (Or.inl ⟨by rfl, ?_⟩) ?_ ?_
       rotate_left
       ·intro w'
        go_simp
        with_reducible rfl
       rotate_left
       ·simp only [Act.put, List.setIfInBounds_toArray, List.set_cons_zero, List.set_cons_succ, qd, qo]
        rfl
       refine qB (i := 4) (N := some 20) (v := undef) (a' := ?_) #[true, true, true, true, true, false, false, false, false, false, false, false, false, false, false] rfl rfl (qn HT_.out (by kernel_rfl)) (fun _ _ _ h => h) (Or.inr ⟨by rfl, rfl⟩) ?_ ?_
       rotate_left
       ·simp only [Act.put, List.setIfInBounds_toArray, List.set_cons_zero, List.set_cons_succ, qd, qo]
        rfl
       refine qB (i := 5) (N := some 21) (v := undef) (a' := ?_) #[true, true, true, true, true, true, false, false, false, false, false, false, false, false, false] rfl rfl (qn HT_.out (by kernel_rfl)) (fun _ _ _ h => h) (Or.inr ⟨by rfl, rfl⟩) ?_ ?_
       rotate_left
       ·simp only [Act.put, List.setIfInBounds_toArray, List.set_cons_zero, List.set_cons_succ, qd, qo]
        rfl
       refine qB (i := 6) (N := some 22) (v := undef) (a' := ?_) #[true, true, true, true, true, true, true, false, false, false, false, false, false, false, false] rfl rfl (qn HT_.out (by kernel_rfl)) (fun _ _ _ h => h) (Or.inr ⟨by rfl, rfl⟩) ?_ ?_
       rotate_left
       ·simp only [Act.put, List.setIfInBounds_toArray, List.set_cons_zero, List.set_cons_succ, qd, qo]
        rfl
       refine qB (i := 7) (N := some 23) (v := undef) (a' := ?_) #[true, true, true, true, true, true, true, true, false, false, false, false, false, false, false] rfl rfl (qn HT_.out (by kernel_rfl)) (fun _ _ _ h => h) (Or.inr ⟨by rfl, rfl⟩) ?_ ?_
       rotate_left
       ·simp only [Act.put, List.setIfInBounds_toArray, List.set_cons_zero, List.set_cons_succ, qd, qo]
        rfl
       refine qB (i := 8) (N := some 24) (v := undef) (a' := ?_) #[true, true, true, true, true, true, true, true, true, false, false, false, false, false, false] rfl rfl (qn HT_.out (by kernel_rfl)) (fun _ _ _ h => h) (Or.inr ⟨by rfl, rfl⟩) ?_ ?_
       rotate_left
       ·simp only [Act.put, List.setIfInBounds_toArray, List.set_cons_zero, List.set_cons_succ, qd, qo]
        rfl
       refine qB (i := 9) (N := some 25) (v := undef) (a' := ?_) #[true, true, true, true, true, true, true, true, true, true, false, false, false, false, false] rfl rfl (qn HT_.out (by kernel_rfl)) (fun _ _ _ h => h) (Or.inr ⟨by rfl, rfl⟩) ?_ ?_
       rotate_left
       ·simp only [Act.put, List.setIfInBounds_toArray, List.set_cons_zero, List.set_cons_succ, qd, qo]
        rfl
       refine qB (i := 10) (N := some 26) (v := undef) (a' := ?_) #[true, true, true, true, true, true, true, true, true, true, true, false, false, false, false] rfl rfl (qn HT_.out (by kernel_rfl)) (fun _ _ _ h => h) (Or.inr ⟨by rfl, rfl⟩) ?_ ?_
       rotate_left
       ·simp only [Act.put, List.setIfInBounds_toArray, List.set_cons_zero, List.set_cons_succ, qd, qo]
        rfl
       refine qB (i := 11) (N := some 27) (v := undef) (a' := ?_) #[true, true, true, true, true, true, true, true, true, true, true, true, false, false, false] rfl rfl (qn HT_.out (by kernel_rfl)) (fun _ _ _ h => h) (Or.inr ⟨by rfl, rfl⟩) ?_ ?_
       rotate_left
       ·simp only [Act.put, List.setIfInBounds_toArray, List.set_cons_zero, List.set_cons_succ, qd, qo]
        rfl
       refine qB (i := 12) (N := some 28) (v := undef) (a' := ?_) #[true, true, true, true, true, true, true, true, true, true, true, true, true, false, false] rfl rfl (qn HT_.out (by kernel_rfl)) (fun _ _ _ h => h) (Or.inr ⟨by rfl, rfl⟩) ?_ ?_
       rotate_left
       ·simp only [Act.put, List.setIfInBounds_toArray, List.set_cons_zero, List.set_cons_succ, qd, qo]
        rfl
       refine qB (i := 13) (N := some 29) (v := undef) (a' := ?_) #[true, true, true, true, true, true, true, true, true, true, true, true, true, true, false] rfl rfl (qn HT_.out (by kernel_rfl)) (fun _ _ _ h => h) (Or.inr ⟨by rfl, rfl⟩) ?_ ?_
       rotate_left
       ·simp only [Act.put, List.setIfInBounds_toArray, List.set_cons_zero, List.set_cons_succ, qd, qo]
        rfl
       refine qB (i := 14) (N := some 30) (v := ?_) (a' := ?_) #[true, true, true, true, true, true, true, true, true, true, true, true, true, true, true] rfl rfl (qn HT_.out (by kernel_rfl)) (fun _ _ _ h => h) (Or.inl ⟨by rfl, ?_⟩) ?_ ?_
       rotate_left
       ·intro w'
        go_simp
        with_reducible rfl
       rotate_left
       ·simp only [Act.put, List.setIfInBounds_toArray, List.set_cons_zero, List.set_cons_succ, qd, qo]
        rfl
       refine done_ (done_of HT_.out (by kernel_rfl)) ?_
       try go_wp2
       go_roundg k2
       case measure => have := HK1.out; have := HK2.out; omega
       case rel => exact ⟨(x0_2), (wrap64 (x6_1 + 1)), eq0, H', ⟨by have := HK1.out; have := HK2.out; omega⟩, ⟨Kd.rx HO_0.out⟩, ⟨by repeat ((with_reducible exact HK.out))⟩, ⟨bl HB.out⟩⟩
   ·rw [if_neg c4] at H
    have c4b0 := decide_eq_false c4
    clear c4
    obtain rfl := Option.some.inj H
    go_wp2
    go_end0
    exact ⟨eq1, Kd.rx HO_0.out, bl HB.out, by repeat ((with_reducible exact HK.out))⟩
def bits_Len32.f (a0 : Int) : Option (Int) := if a0 ≥ 65536 then (if (a0 / 65536) ≥ 256 then (if 0 ≤ (((a0 / 65536) / 256) % 256) then (if (((a0 / 65536) / 256) % 256) < 256 then (some (wrap64 ((16 + 8) + (wrap64 (bt (⟨#[0, 1, 2, 2, 3, 3, 3, 3, 4, 4, 4, 4, 4, 4, 4, 4, 5, 5, 5, 5, 5, 5, 5, 5, 5, 5, 5, 5, 5, 5, 5, 5, 6, 6, 6, 6, 6, 6, 6, 6, 6, 6, 6, 6, 6, 6, 6, 6, 6, 6, 6, 6, 6, 6, 6, 6, 6, 6, 6, 6, 6, 6, 6, 6, 7, 7, 7, 7, 7, 7, 7, 7, 7, 7, 7, 7, 7, 7, 7, 7, 7, 7, 7, 7, 7, 7, 7, 7, 7, 7, 7, 7, 7, 7, 7, 7, 7, 7, 7, 7, 7, 7, 7, 7, 7, 7, 7, 7, 7, 7, 7, 7, 7, 7, 7, 7, 7, 7, 7, 7, 7, 7, 7, 7, 7, 7, 7, 7, 8, 8, 8, 8, 8, 8, 8, 8, 8, 8, 8, 8, 8, 8, 8, 8, 8, 8, 8, 8, 8, 8, 8, 8, 8, 8, 8, 8, 8, 8, 8, 8, 8, 8, 8, 8, 8, 8, 8, 8, 8, 8, 8, 8, 8, 8, 8, 8, 8, 8, 8, 8, 8, 8, 8, 8, 8, 8, 8, 8, 8, 8, 8, 8, 8, 8, 8, 8, 8, 8, 8, 8, 8, 8, 8, 8, 8, 8, 8, 8, 8, 8, 8, 8, 8, 8, 8, 8, 8, 8, 8, 8, 8, 8, 8, 8, 8, 8, 8, 8, 8, 8, 8, 8, 8, 8, 8, 8, 8, 8, 8, 8, 8, 8, 8, 8, 8, 8, 8, 8, 8, 8, 8, 8, 8, 8, 8, 8]⟩ : ByteArray) (((a0 / 65536) / 256) % 256)))))) else (none)) else (none)) else (if 0 ≤ ((a0 / 65536) % 256) then (if ((a0 / 65536) % 256) < 256 then (some (wrap64 (16 + (wrap64 (bt (⟨#[0, 1, 2, 2, 3, 3, 3, 3, 4, 4, 4, 4, 4, 4, 4, 4, 5, 5, 5, 5, 5, 5, 5, 5, 5, 5, 5, 5, 5, 5, 5, 5, 6, 6, 6, 6, 6, 6, 6, 6, 6, 6, 6, 6, 6, 6, 6, 6, 6, 6, 6, 6, 6, 6, 6, 6, 6, 6, 6, 6, 6, 6, 6, 6, 7, 7, 7, 7, 7, 7, 7, 7, 7, 7, 7, 7, 7, 7, 7, 7, 7, 7, 7, 7, 7, 7, 7, 7, 7, 7, 7, 7, 7, 7, 7, 7, 7, 7, 7, 7, 7, 7, 7, 7, 7, 7, 7, 7, 7, 7, 7, 7, 7, 7, 7, 7, 7, 7, 7, 7, 7, 7, 7, 7, 7, 7, 7, 7, 8, 8, 8, 8, 8, 8, 8, 8, 8, 8, 8, 8, 8, 8, 8, 8, 8, 8, 8, 8, 8, 8, 8, 8, 8, 8, 8, 8, 8, 8, 8, 8, 8, 8, 8, 8, 8, 8, 8, 8, 8, 8, 8, 8, 8, 8, 8, 8, 8, 8, 8, 8, 8, 8, 8, 8, 8, 8, 8, 8, 8, 8, 8, 8, 8, 8, 8, 8, 8, 8, 8, 8, 8, 8, 8, 8, 8, 8, 8, 8, 8, 8, 8, 8, 8, 8, 8, 8, 8, 8, 8, 8, 8, 8, 8, 8, 8, 8, 8, 8, 8, 8, 8, 8, 8, 8, 8, 8, 8, 8, 8, 8, 8, 8, 8, 8, 8, 8, 8, 8, 8, 8, 8, 8, 8, 8, 8, 8]⟩ : ByteArray) ((a0 / 65536) % 256)))))) else (none)) else (none))) else (if a0 ≥ 256 then (if 0 ≤ ((a0 / 256) % 256) then (if ((a0 / 256) % 256) < 256 then (some (wrap64 ((0 + 8) + (wrap64 (bt (⟨#[0, 1, 2, 2, 3, 3, 3, 3, 4, 4, 4, 4, 4, 4, 4, 4, 5, 5, 5, 5, 5, 5, 5, 5, 5, 5, 5, 5, 5, 5, 5, 5, 6, 6, 6, 6, 6, 6, 6, 6, 6, 6, 6, 6, 6, 6, 6, 6, 6, 6, 6, 6, 6, 6, 6, 6, 6, 6, 6, 6, 6, 6, 6, 6, 7, 7, 7, 7, 7, 7, 7, 7, 7, 7, 7, 7, 7, 7, 7, 7, 7, 7, 7, 7, 7, 7, 7, 7, 7, 7, 7, 7, 7, 7, 7, 7, 7, 7, 7, 7, 7, 7, 7, 7, 7, 7, 7, 7, 7, 7, 7, 7, 7, 7, 7, 7, 7, 7, 7, 7, 7, 7, 7, 7, 7, 7, 7, 7, 8, 8, 8, 8, 8, 8, 8, 8, 8, 8, 8, 8, 8, 8, 8, 8, 8, 8, 8, 8, 8, 8, 8, 8, 8, 8, 8, 8, 8, 8, 8, 8, 8, 8, 8, 8, 8, 8, 8, 8, 8, 8, 8, 8, 8, 8, 8, 8, 8, 8, 8, 8, 8, 8, 8, 8, 8, 8, 8, 8, 8, 8, 8, 8, 8, 8, 8, 8, 8, 8, 8, 8, 8, 8, 8, 8, 8, 8, 8, 8, 8, 8, 8, 8, 8, 8, 8, 8, 8, 8, 8, 8, 8, 8, 8, 8, 8, 8, 8, 8, 8, 8, 8, 8, 8, 8, 8, 8, 8, 8, 8, 8, 8, 8, 8, 8, 8, 8, 8, 8, 8, 8, 8, 8, 8, 8, 8, 8]⟩ : ByteArray) ((a0 / 256) % 256)))))) else (none)) else (none)) else (if 0 ≤ ((a0) % 256) then (if ((a0) % 256) < 256 then (some (wrap64 (0 + (wrap64 (bt (⟨#[0, 1, 2, 2, 3, 3, 3, 3, 4, 4, 4, 4, 4, 4, 4, 4, 5, 5, 5, 5, 5, 5, 5, 5, 5, 5, 5, 5, 5, 5, 5, 5, 6, 6, 6, 6, 6, 6, 6, 6, 6, 6, 6, 6, 6, 6, 6, 6, 6, 6, 6, 6, 6, 6, 6, 6, 6, 6, 6, 6, 6, 6, 6, 6, 7, 7, 7, 7, 7, 7, 7, 7, 7, 7, 7, 7, 7, 7, 7, 7, 7, 7, 7, 7, 7, 7, 7, 7, 7, 7, 7, 7, 7, 7, 7, 7, 7, 7, 7, 7, 7, 7, 7, 7, 7, 7, 7, 7, 7, 7, 7, 7, 7, 7, 7, 7, 7, 7, 7, 7, 7, 7, 7, 7, 7, 7, 7, 7, 8, 8, 8, 8, 8, 8, 8, 8, 8, 8, 8, 8, 8, 8, 8, 8, 8, 8, 8, 8, 8, 8, 8, 8, 8, 8, 8, 8, 8, 8, 8, 8, 8, 8, 8, 8, 8, 8, 8, 8, 8, 8, 8, 8, 8, 8, 8, 8, 8, 8, 8, 8, 8, 8, 8, 8, 8, 8, 8, 8, 8, 8, 8, 8, 8, 8, 8, 8, 8, 8, 8, 8, 8, 8, 8, 8, 8, 8, 8, 8, 8, 8, 8, 8, 8, 8, 8, 8, 8, 8, 8, 8, 8, 8, 8, 8, 8, 8, 8, 8, 8, 8, 8, 8, 8, 8, 8, 8, 8, 8, 8, 8, 8, 8, 8, 8, 8, 8, 8, 8, 8, 8, 8, 8, 8, 8, 8, 8]⟩ : ByteArray) ((a0) % 256)))))) else (none)) else (none)))
def xw.j0 : Nat → Int → Int → Option (Int)
 | 0, _, _ => none
 | k + 1, x0, x2 => if x0 ≥ 65536 then (if (x0 / 65536) ≥ 256 then (if 0 ≤ (((x0 / 65536) / 256) % 256) then (if (((x0 / 65536) / 256) % 256) < 256 then (some (wrap64 ((wrap64 ((wrap64 (x2 + 16)) + 8)) + (wrap64 (bt (⟨#[0, 1, 2, 2, 3, 3, 3, 3, 4, 4, 4, 4, 4, 4, 4, 4, 5, 5, 5, 5, 5, 5, 5, 5, 5, 5, 5, 5, 5, 5, 5, 5, 6, 6, 6, 6, 6, 6, 6, 6, 6, 6, 6, 6, 6, 6, 6, 6, 6, 6, 6, 6, 6, 6, 6, 6, 6, 6, 6, 6, 6, 6, 6, 6, 7, 7, 7, 7, 7, 7, 7, 7, 7, 7, 7, 7, 7, 7, 7, 7, 7, 7, 7, 7, 7, 7, 7, 7, 7, 7, 7, 7, 7, 7, 7, 7, 7, 7, 7, 7, 7, 7, 7, 7, 7, 7, 7, 7, 7, 7, 7, 7, 7, 7, 7, 7, 7, 7, 7, 7, 7, 7, 7, 7, 7, 7, 7, 7, 8, 8, 8, 8, 8, 8, 8, 8, 8, 8, 8, 8, 8, 8, 8, 8, 8, 8, 8, 8, 8, 8, 8, 8, 8, 8, 8, 8, 8, 8, 8, 8, 8, 8, 8, 8, 8, 8, 8, 8, 8, 8, 8, 8, 8, 8, 8, 8, 8, 8, 8, 8, 8, 8, 8, 8, 8, 8, 8, 8, 8, 8, 8, 8, 8, 8, 8, 8, 8, 8, 8, 8, 8, 8, 8, 8, 8, 8, 8, 8, 8, 8, 8, 8, 8, 8, 8, 8, 8, 8, 8, 8, 8, 8, 8, 8, 8, 8, 8, 8, 8, 8, 8, 8, 8, 8, 8, 8, 8, 8, 8, 8, 8, 8, 8, 8, 8, 8, 8, 8, 8, 8, 8, 8, 8, 8, 8, 8]⟩ : ByteArray) (((x0 / 65536) / 256) % 256)))))) else (none)) else (none)) else (if 0 ≤ ((x0 / 65536) % 256) then (if ((x0 / 65536) % 256) < 256 then (some (wrap64 ((wrap64 (x2 + 16)) + (wrap64 (bt (⟨#[0, 1, 2, 2, 3, 3, 3, 3, 4, 4, 4, 4, 4, 4, 4, 4, 5, 5, 5, 5, 5, 5, 5, 5, 5, 5, 5, 5, 5, 5, 5, 5, 6, 6, 6, 6, 6, 6, 6, 6, 6, 6, 6, 6, 6, 6, 6, 6, 6, 6, 6, 6, 6, 6, 6, 6, 6, 6, 6, 6, 6, 6, 6, 6, 7, 7, 7, 7, 7, 7, 7, 7, 7, 7, 7, 7, 7, 7, 7, 7, 7, 7, 7, 7, 7, 7, 7, 7, 7, 7, 7, 7, 7, 7, 7, 7, 7, 7, 7, 7, 7, 7, 7, 7, 7, 7, 7, 7, 7, 7, 7, 7, 7, 7, 7, 7, 7, 7, 7, 7, 7, 7, 7, 7, 7, 7, 7, 7, 8, 8, 8, 8, 8, 8, 8, 8, 8, 8, 8, 8, 8, 8, 8, 8, 8, 8, 8, 8, 8, 8, 8, 8, 8, 8, 8, 8, 8, 8, 8, 8, 8, 8, 8, 8, 8, 8, 8, 8, 8, 8, 8, 8, 8, 8, 8, 8, 8, 8, 8, 8, 8, 8, 8, 8, 8, 8, 8, 8, 8, 8, 8, 8, 8, 8, 8, 8, 8, 8, 8, 8, 8, 8, 8, 8, 8, 8, 8, 8, 8, 8, 8, 8, 8, 8, 8, 8, 8, 8, 8, 8, 8, 8, 8, 8, 8, 8, 8, 8, 8, 8, 8, 8, 8, 8, 8, 8, 8, 8, 8, 8, 8, 8, 8, 8, 8, 8, 8, 8, 8, 8, 8, 8, 8, 8, 8, 8]⟩ : ByteArray) ((x0 / 65536) % 256)))))) else (none)) else (none))) else (if x0 ≥ 256 then (if 0 ≤ ((x0 / 256) % 256) then (if ((x0 / 256) % 256) < 256 then (some (wrap64 ((wrap64 (x2 + 8)) + (wrap64 (bt (⟨#[0, 1, 2, 2, 3, 3, 3, 3, 4, 4, 4, 4, 4, 4, 4, 4, 5, 5, 5, 5, 5, 5, 5, 5, 5, 5, 5, 5, 5, 5, 5, 5, 6, 6, 6, 6, 6, 6, 6, 6, 6, 6, 6, 6, 6, 6, 6, 6, 6, 6, 6, 6, 6, 6, 6, 6, 6, 6, 6, 6, 6, 6, 6, 6, 7, 7, 7, 7, 7, 7, 7, 7, 7, 7, 7, 7, 7, 7, 7, 7, 7, 7, 7, 7, 7, 7, 7, 7, 7, 7, 7, 7, 7, 7, 7, 7, 7, 7, 7, 7, 7, 7, 7, 7, 7, 7, 7, 7, 7, 7, 7, 7, 7, 7, 7, 7, 7, 7, 7, 7, 7, 7, 7, 7, 7, 7, 7, 7, 8, 8, 8, 8, 8, 8, 8, 8, 8, 8, 8, 8, 8, 8, 8, 8, 8, 8, 8, 8, 8, 8, 8, 8, 8, 8, 8, 8, 8, 8, 8, 8, 8, 8, 8, 8, 8, 8, 8, 8, 8, 8, 8, 8, 8, 8, 8, 8, 8, 8, 8, 8, 8, 8, 8, 8, 8, 8, 8, 8, 8, 8, 8, 8, 8, 8, 8, 8, 8, 8, 8, 8, 8, 8, 8, 8, 8, 8, 8, 8, 8, 8, 8, 8, 8, 8, 8, 8, 8, 8, 8, 8, 8, 8, 8, 8, 8, 8, 8, 8, 8, 8, 8, 8, 8, 8, 8, 8, 8, 8, 8, 8, 8, 8, 8, 8, 8, 8, 8, 8, 8, 8, 8, 8, 8, 8, 8, 8]⟩ : ByteArray) ((x0 / 256) % 256)))))) else (none)) else (none)) else (if 0 ≤ ((x0) % 256) then (if ((x0) % 256) < 256 then (some (wrap64 (x2 + (wrap64 (bt (⟨#[0, 1, 2, 2, 3, 3, 3, 3, 4, 4, 4, 4, 4, 4, 4, 4, 5, 5, 5, 5, 5, 5, 5, 5, 5, 5, 5, 5, 5, 5, 5, 5, 6, 6, 6, 6, 6, 6, 6, 6, 6, 6, 6, 6, 6, 6, 6, 6, 6, 6, 6, 6, 6, 6, 6, 6, 6, 6, 6, 6, 6, 6, 6, 6, 7, 7, 7, 7, 7, 7, 7, 7, 7, 7, 7, 7, 7, 7, 7, 7, 7, 7, 7, 7, 7, 7, 7, 7, 7, 7, 7, 7, 7, 7, 7, 7, 7, 7, 7, 7, 7, 7, 7, 7, 7, 7, 7, 7, 7, 7, 7, 7, 7, 7, 7, 7, 7, 7, 7, 7, 7, 7, 7, 7, 7, 7, 7, 7, 8, 8, 8, 8, 8, 8, 8, 8, 8, 8, 8, 8, 8, 8, 8, 8, 8, 8, 8, 8, 8, 8, 8, 8, 8, 8, 8, 8, 8, 8, 8, 8, 8, 8, 8, 8, 8, 8, 8, 8, 8, 8, 8, 8, 8, 8, 8, 8, 8, 8, 8, 8, 8, 8, 8, 8, 8, 8, 8, 8, 8, 8, 8, 8, 8, 8, 8, 8, 8, 8, 8, 8, 8, 8, 8, 8, 8, 8, 8, 8, 8, 8, 8, 8, 8, 8, 8, 8, 8, 8, 8, 8, 8, 8, 8, 8, 8, 8, 8, 8, 8, 8, 8, 8, 8, 8, 8, 8, 8, 8, 8, 8, 8, 8, 8, 8, 8, 8, 8, 8, 8, 8, 8, 8, 8, 8, 8, 8]⟩ : ByteArray) ((x0) % 256)))))) else (none)) else (none)))
def xw.f (k : Nat) (a0 : Int) : Option (Int) := if a0 ≥ 4294967296 then (xw.j0 k (a0 / 4294967296) 32) else (xw.j0 k a0 0)
theorem xw.calls (k : Nat) (a0 r : Int) (w : World) (hG : GW w) (h : xw.f k a0 = some r) :
  Calls Tryd.prog 76 #[.int .u64 a0] w fun e w' => e = .returned (.int .i64 r) ∧ zi w w' := by
 have HG := zb.mk hG
 clear hG
 have H : (if a0 ≥ 4294967296 then (xw.j0 k (a0 / 4294967296) 32) else (xw.j0 k a0 0)) = some r := h
 clear h
 have HC2 := zb.mk H
 clear H
 go_enter Tryd.func76, Tryd.ntmps76
 go_upto_if 4 with (fail)
 go_cut [0, 2] (fun v0 v2 wc => ∃ (kq : Nat) (x0_1 : Int) (x2_1 : Int), v0 = .int .u64 x0_1 ∧ v2 = .int .i64 x2_1 ∧ zb (xw.j0 kq x0_1 x2_1 = some r) ∧ zb (kq ≤ k) ∧ zi w wc)
 case first =>
  have H := HC2.out
  clear HC2
  by_cases c3 : a0 ≥ 4294967296
  ·rw [if_pos c3] at H
   have c3b0 := decide_eq_true c3
   clear c3
   (rw [c3b0])
   have H' := zb.mk H
   clear H
   go_wp2
   go_meet
   case rel => exact ⟨_, (a0 / 4294967296), (32), eq0, eq0, H', ⟨by omega⟩, by repeat (exact zi.refl _)⟩
  ·rw [if_neg c3] at H
   have c3b0 := decide_eq_false c3
   clear c3
   (rw [c3b0])
   have H' := zb.mk H
   clear H
   go_wp2
   go_meet
   case rel => exact ⟨_, (a0), (0), eq0, eq0, H', ⟨by omega⟩, by repeat (exact zi.refl _)⟩
 case rest =>
  clear HC2
  obtain ⟨kq, x0_1, x2_1, rfl, rfl, HA, HJ1, ⟨mc1, rfl⟩⟩ := hcut
  cases kq with
  | zero => exact absurd HA.out (by simp [xw.j0])
  | succ kj1 =>
   have H := HA.out
   clear HA
   simp only [xw.j0] at H
   by_cases c4 : x0_1 ≥ 65536
   ·rw [if_pos c4] at H
    have c4b0 := decide_eq_true c4
    clear c4
    by_cases c5 : (x0_1 / 65536) ≥ 256
    ·rw [if_pos c5] at H
     have c5b0 := decide_eq_true c5
     clear c5
     obtain ⟨ji6, hji6⟩ : ∃ j_ : Int, (((x0_1 / 65536) / 256) % 256) = j_ := ⟨_, rfl⟩
     rw [hji6] at H
     replace H := qh H; obtain ⟨c7, H⟩ := H
     have c7b0 := decide_eq_true c7
     clear c7
     replace H := qh H; obtain ⟨c8, H⟩ := H
     have c8b0 := decide_eq_true c8
     clear c8
     obtain rfl := Option.some.inj H
     have p9 : 0 ≤ ((ji6) : Int) := dq
     have q9 : (ji6) < (256 : Int) := dq
     have hx9 := qJ (⟨#[0, 1, 2, 2, 3, 3, 3, 3, 4, 4, 4, 4, 4, 4, 4, 4, 5, 5, 5, 5, 5, 5, 5, 5, 5, 5, 5, 5, 5, 5, 5, 5, 6, 6, 6, 6, 6, 6, 6, 6, 6, 6, 6, 6, 6, 6, 6, 6, 6, 6, 6, 6, 6, 6, 6, 6, 6, 6, 6, 6, 6, 6, 6, 6, 7, 7, 7, 7, 7, 7, 7, 7, 7, 7, 7, 7, 7, 7, 7, 7, 7, 7, 7, 7, 7, 7, 7, 7, 7, 7, 7, 7, 7, 7, 7, 7, 7, 7, 7, 7, 7, 7, 7, 7, 7, 7, 7, 7, 7, 7, 7, 7, 7, 7, 7, 7, 7, 7, 7, 7, 7, 7, 7, 7, 7, 7, 7, 7, 8, 8, 8, 8, 8, 8, 8, 8, 8, 8, 8, 8, 8, 8, 8, 8, 8, 8, 8, 8, 8, 8, 8, 8, 8, 8, 8, 8, 8, 8, 8, 8, 8, 8, 8, 8, 8, 8, 8, 8, 8, 8, 8, 8, 8, 8, 8, 8, 8, 8, 8, 8, 8, 8, 8, 8, 8, 8, 8, 8, 8, 8, 8, 8, 8, 8, 8, 8, 8, 8, 8, 8, 8, 8, 8, 8, 8, 8, 8, 8, 8, 8, 8, 8, 8, 8, 8, 8, 8, 8, 8, 8, 8, 8, 8, 8, 8, 8, 8, 8, 8, 8, 8, 8, 8, 8, 8, 8, 8, 8, 8, 8, 8, 8, 8, 8, 8, 8, 8, 8, 8, 8, 8, 8, 8, 8, 8, 8]⟩ : ByteArray) (ji6)
     replace p9 := eq_true p9
     replace q9 := eq_true q9
     go_wp2
     go_ret
     exact ⟨by rfl, by repeat (first | exact zi.refl _ | apply zi.step)⟩
    ·rw [if_neg c5] at H
     have c5b0 := decide_eq_false c5
     clear c5
     obtain ⟨ji10, hji10⟩ : ∃ j_ : Int, ((x0_1 / 65536) % 256) = j_ := ⟨_, rfl⟩
     rw [hji10] at H
     replace H := qh H; obtain ⟨c11, H⟩ := H
     have c11b0 := decide_eq_true c11
     clear c11
     replace H := qh H; obtain ⟨c12, H⟩ := H
     have c12b0 := decide_eq_true c12
     clear c12
     obtain rfl := Option.some.inj H
     have p13 : 0 ≤ ((ji10) : Int) := dq
     have q13 : (ji10) < (256 : Int) := dq
     have hx13 := qJ (⟨#[0, 1, 2, 2, 3, 3, 3, 3, 4, 4, 4, 4, 4, 4, 4, 4, 5, 5, 5, 5, 5, 5, 5, 5, 5, 5, 5, 5, 5, 5, 5, 5, 6, 6, 6, 6, 6, 6, 6, 6, 6, 6, 6, 6, 6, 6, 6, 6, 6, 6, 6, 6, 6, 6, 6, 6, 6, 6, 6, 6, 6, 6, 6, 6, 7, 7, 7, 7, 7, 7, 7, 7, 7, 7, 7, 7, 7, 7, 7, 7, 7, 7, 7, 7, 7, 7, 7, 7, 7, 7, 7, 7, 7, 7, 7, 7, 7, 7, 7, 7, 7, 7, 7, 7, 7, 7, 7, 7, 7, 7, 7, 7, 7, 7, 7, 7, 7, 7, 7, 7, 7, 7, 7, 7, 7, 7, 7, 7, 8, 8, 8, 8, 8, 8, 8, 8, 8, 8, 8, 8, 8, 8, 8, 8, 8, 8, 8, 8, 8, 8, 8, 8, 8, 8, 8, 8, 8, 8, 8, 8, 8, 8, 8, 8, 8, 8, 8, 8, 8, 8, 8, 8, 8, 8, 8, 8, 8, 8, 8, 8, 8, 8, 8, 8, 8, 8, 8, 8, 8, 8, 8, 8, 8, 8, 8, 8, 8, 8, 8, 8, 8, 8, 8, 8, 8, 8, 8, 8, 8, 8, 8, 8, 8, 8, 8, 8, 8, 8, 8, 8, 8, 8, 8, 8, 8, 8, 8, 8, 8, 8, 8, 8, 8, 8, 8, 8, 8, 8, 8, 8, 8, 8, 8, 8, 8, 8, 8, 8, 8, 8, 8, 8, 8, 8, 8, 8]⟩ : ByteArray) (ji10)
     replace p13 := eq_true p13
     replace q13 := eq_true q13
     go_wp2
     go_ret
     exact ⟨by rfl, by repeat (first | exact zi.refl _ | apply zi.step)⟩
   ·rw [if_neg c4] at H
    have c4b0 := decide_eq_false c4
    clear c4
    by_cases c14 : x0_1 ≥ 256
    ·rw [if_pos c14] at H
     have c14b0 := decide_eq_true c14
     clear c14
     obtain ⟨ji15, hji15⟩ : ∃ j_ : Int, ((x0_1 / 256) % 256) = j_ := ⟨_, rfl⟩
     rw [hji15] at H
     replace H := qh H; obtain ⟨c16, H⟩ := H
     have c16b0 := decide_eq_true c16
     clear c16
     replace H := qh H; obtain ⟨c17, H⟩ := H
     have c17b0 := decide_eq_true c17
     clear c17
     obtain rfl := Option.some.inj H
     have p18 : 0 ≤ ((ji15) : Int) := dq
     have q18 : (ji15) < (256 : Int) := dq
     have hx18 := qJ (⟨#[0, 1, 2, 2, 3, 3, 3, 3, 4, 4, 4, 4, 4, 4, 4, 4, 5, 5, 5, 5, 5, 5, 5, 5, 5, 5, 5, 5, 5, 5, 5, 5, 6, 6, 6, 6, 6, 6, 6, 6, 6, 6, 6, 6, 6, 6, 6, 6, 6, 6, 6, 6, 6, 6, 6, 6, 6, 6, 6, 6, 6, 6, 6, 6, 7, 7, 7, 7, 7, 7, 7, 7, 7, 7, 7, 7, 7, 7, 7, 7, 7, 7, 7, 7, 7, 7, 7, 7, 7, 7, 7, 7, 7, 7, 7, 7, 7, 7, 7, 7, 7, 7, 7, 7, 7, 7, 7, 7, 7, 7, 7, 7, 7, 7, 7, 7, 7, 7, 7, 7, 7, 7, 7, 7, 7, 7, 7, 7, 8, 8, 8, 8, 8, 8, 8, 8, 8, 8, 8, 8, 8, 8, 8, 8, 8, 8, 8, 8, 8, 8, 8, 8, 8, 8, 8, 8, 8, 8, 8, 8, 8, 8, 8, 8, 8, 8, 8, 8, 8, 8, 8, 8, 8, 8, 8, 8, 8, 8, 8, 8, 8, 8, 8, 8, 8, 8, 8, 8, 8, 8, 8, 8, 8, 8, 8, 8, 8, 8, 8, 8, 8, 8, 8, 8, 8, 8, 8, 8, 8, 8, 8, 8, 8, 8, 8, 8, 8, 8, 8, 8, 8, 8, 8, 8, 8, 8, 8, 8, 8, 8, 8, 8, 8, 8, 8, 8, 8, 8, 8, 8, 8, 8, 8, 8, 8, 8, 8, 8, 8, 8, 8, 8, 8, 8, 8, 8]⟩ : ByteArray) (ji15)
     replace p18 := eq_true p18
     replace q18 := eq_true q18
     go_wp2
     go_ret
     exact ⟨by rfl, by repeat (first | exact zi.refl _ | apply zi.step)⟩
    ·rw [if_neg c14] at H
     have c14b0 := decide_eq_false c14
     clear c14
     obtain ⟨ji19, hji19⟩ : ∃ j_ : Int, ((x0_1) % 256) = j_ := ⟨_, rfl⟩
     rw [hji19] at H
     by_cases c20 : 0 ≤ (ji19)
     ·rw [if_pos c20] at H
      have c20b0 := decide_eq_true c20
      clear c20
      replace H := qh H; obtain ⟨c21, H⟩ := H
      have c21b0 := decide_eq_true c21
      clear c21
      obtain rfl := Option.some.inj H
      have p22 : 0 ≤ ((ji19) : Int) := dq
      have q22 : (ji19) < (256 : Int) := dq
      have hx22 := qJ (⟨#[0, 1, 2, 2, 3, 3, 3, 3, 4, 4, 4, 4, 4, 4, 4, 4, 5, 5, 5, 5, 5, 5, 5, 5, 5, 5, 5, 5, 5, 5, 5, 5, 6, 6, 6, 6, 6, 6, 6, 6, 6, 6, 6, 6, 6, 6, 6, 6, 6, 6, 6, 6, 6, 6, 6, 6, 6, 6, 6, 6, 6, 6, 6, 6, 7, 7, 7, 7, 7, 7, 7, 7, 7, 7, 7, 7, 7, 7, 7, 7, 7, 7, 7, 7, 7, 7, 7, 7, 7, 7, 7, 7, 7, 7, 7, 7, 7, 7, 7, 7, 7, 7, 7, 7, 7, 7, 7, 7, 7, 7, 7, 7, 7, 7, 7, 7, 7, 7, 7, 7, 7, 7, 7, 7, 7, 7, 7, 7, 8, 8, 8, 8, 8, 8, 8, 8, 8, 8, 8, 8, 8, 8, 8, 8, 8, 8, 8, 8, 8, 8, 8, 8, 8, 8, 8, 8, 8, 8, 8, 8, 8, 8, 8, 8, 8, 8, 8, 8, 8, 8, 8, 8, 8, 8, 8, 8, 8, 8, 8, 8, 8, 8, 8, 8, 8, 8, 8, 8, 8, 8, 8, 8, 8, 8, 8, 8, 8, 8, 8, 8, 8, 8, 8, 8, 8, 8, 8, 8, 8, 8, 8, 8, 8, 8, 8, 8, 8, 8, 8, 8, 8, 8, 8, 8, 8, 8, 8, 8, 8, 8, 8, 8, 8, 8, 8, 8, 8, 8, 8, 8, 8, 8, 8, 8, 8, 8, 8, 8, 8, 8, 8, 8, 8, 8, 8, 8]⟩ : ByteArray) (ji19)
      replace p22 := eq_true p22
      replace q22 := eq_true q22
      go_wp2
      go_ret
      exact ⟨by rfl, by repeat (first | exact zi.refl _ | apply zi.step)⟩
     ·rw [if_neg c20] at H
      exact absurd H (by simp)
def bits_Len.f (k : Nat) (a0 : Int) : Option (Int) := (xw.f k a0).bind fun t201 => (some t201)
theorem bits_Len.calls (k : Nat) (a0 r : Int) (w : World) (hG : GW w) (h : bits_Len.f k a0 = some r) :
  Calls Tryd.prog 61 #[.int .u64 a0] w fun e w' => e = .returned (.int .i64 r) ∧ zi w w' := by
 have HG := zb.mk hG
 clear hG
 have H : ((xw.f k a0).bind fun t201 => (some t201)) = some r := h
 clear h
 replace H := zO H; obtain ⟨t201, A2, H⟩ := H
 obtain rfl := Option.some.inj H
 go_enter Tryd.func61, Tryd.ntmps61
 go_wp2_with (((with_reducible refine zc (f := 76) rfl ?_); refine zh (some 7) rfl rfl Tryd.func76 (by kernel_rfl) rfl #[.int .u64 a0] rfl hq ?_; (with_reducible refine (xw.calls k a0 t201 _ ?side1 A2.out).mono ?_); (case side1 => repeat (exact HG.out)); rintro e w' ⟨rfl, ⟨nd, rfl⟩⟩; refine ⟨_, rfl, ?_⟩))
 go_ret
 exact ⟨eq0, by repeat (first | exact zi.refl _ | apply zi.step)⟩
def slices_nextPowerOfTwo.f (k : Nat) (a0 : Int) : Option (Int) := (bits_Len.f k (IntKind.u64.wrap (a0))).bind fun t202 => (if 0 ≤ t202 then (some (shl .u64 1 t202)) else (none))
mutual
def z7.l0 : Nat → List Int → Int → Int → Int → Bool → Option (List Int)
 | 0, _, _, _, _, _ => none
 | k + 1, x0, x1, x2, x3, x8 => if (wrap64 (x2 - x1)) ≤ 12 then ((zg.f k x0 x1 x2).bind fun t203 => (some t203)) else (if x3 = 0 then (none) else (if x8 = true then (none) else (none)))
def z7.f : Nat → List Int → Int → Int → Int → Option (List Int)
 | 0, _, _, _, _ => none
 | k + 1, l0, a1, a2, a3 => z7.l0 k l0 a1 a2 a3 true
end
theorem z7.calls (k : Nat) : ∀ (P0_ : Nat → Prop) (u9000_ : Value) (l0 : List Int) (a1 a2 a3 : Int) (r : List Int) (w0 w : World) (hG : GW w0) (hB : Below w0.heap.size w0 w) (ho0 : Kd.R (Kd.int .i64) 3 w w0.heap.size P0_ u9000_ l0) (h : z7.f k l0 a1 a2 a3 = some r),
  Calls Tryd.prog 60 #[u9000_, .int .i64 a1, .int .i64 a2, .int .i64 a3] w fun e w' => e = .returned (.tuple #[]) ∧ Kd.R (Kd.int .i64) 3 w' w0.heap.size (fun k_ => (P0_ k_ ∨ w.heap.size ≤ k_)) u9000_ r ∧ Below w0.heap.size w0 w' ∧ Kept w w' (fun k_ => P0_ k_) := by
 induction k using Nat.strongRecOn with
 | _ k ih =>
 intro P0_ u9000_ l0 a1 a2 a3 r w0 w hG hB ho0 h
 cases k with
 | zero => exact absurd h (by simp [z7.f])
 | succ k =>
 simp only [z7.f] at h
 have HO0 := zb.mk (show Kd.R (Kd.int .i64) 3 w w0.heap.size (fun k_ => (P0_ k_ ∨ w.heap.size ≤ k_)) u9000_ l0 from Kd.zH ho0 (fun k_ hk => (.inl hk)))
 have HG := zb.mk hG
 clear hG
 have HK := zb.mk (Kept.refl w (fun k_ => P0_ k_))
 have HW0 := zb.mk hB.size
 have HB := zb.mk hB
 clear hB
 have H : (z7.l0 k l0 a1 a2 a3 true) = some r := h
 clear h
 have H' := zb.mk H
 clear H
 go_enter Tryd.func60, Tryd.ntmps60
 go_wp2
 go_loopg [1, 2, 3, 8] k (fun kq v1 v2 v3 v8 w' => ∃ (x0_1 : List Int) (x1_1 : Int) (x2_1 : Int) (x3_1 : Int) (x8_1 : Bool), v1 = .int .i64 x1_1 ∧ v2 = .int .i64 x2_1 ∧ v3 = .int .i64 x3_1 ∧ v8 = .bool x8_1 ∧ zb (z7.l0 kq x0_1 x1_1 x2_1 x3_1 x8_1 = some r) ∧ zb (kq ≤ k) ∧ zb (Kd.R (Kd.int .i64) 3 w' w0.heap.size (fun k_ => (P0_ k_ ∨ w.heap.size ≤ k_)) u9000_ x0_1) ∧ zb (Kept w w' (fun k_ => P0_ k_)) ∧ zb (Below w0.heap.size w0 w'))
 case atStart => exact ⟨(l0), (a1), (a2), (a3), (true), eq0, eq0, eq0, eq0, H', ⟨Nat.le_refl _⟩, ⟨Kd.rx HO0.out⟩, ⟨by repeat ((with_reducible exact HK.out))⟩, ⟨bl HB.out⟩⟩
 case round =>
  clear H'
  obtain ⟨x0_1, x1_1, x2_1, x3_1, x8_1, rfl, rfl, rfl, rfl, HA, HK1, HO_0, HK, HB⟩ := hrel
  cases gk with
  | zero => exact absurd HA.out (by simp [z7.l0])
  | succ k1 =>
   have H := HA.out
   clear HA
   simp only [z7.l0] at H
   by_cases c5 : (wrap64 (x2_1 - x1_1)) ≤ 12
   ·rw [if_pos c5] at H
    have c5b0 := decide_eq_true c5
    clear c5
    replace H := zO H; obtain ⟨t203, A6, H⟩ := H
    obtain rfl := Option.some.inj H
    obtain ⟨Ao7, co7, eo7⟩ := Kd.zw HO_0.out
    subst eo7
    go_wp2_with ((go_at_call 66; (with_reducible refine (zg.calls k1 (fun k_ => some k_ = (.slice Ao7 x0_1.length co7 : Value).ownBlock) (.slice Ao7 x0_1.length co7) x0_1 x1_1 x2_1 t203 w0 _ HG.out ?side1 ?side2 A6.out).mono ?_); (case side1 => repeat ((with_reducible exact HB.out))); (case side2 => exact Kd.jz rfl HO_0.out); rintro e w8 ⟨rfl, hy0, hb, hkp⟩; replace HK := zb.mk (Kept.then_ (S := (fun k_ => P0_ k_)) (by repeat ((with_reducible exact HK.out))) hkp (fun k_ hs_ => (fun e_ => (HO_0.out.1 k_ e_.symm)) hs_)); replace HO_0 := zb.mk (Kd.R_reok rfl hy0 (fun k_ e_ => HO_0.out.1 k_ e_)); replace HB := zb.mk (hb); (try clear hb); (try clear hkp); (try clear hy0)))
    (refine bodyPost_ret (results_none rfl _ _ _) rfl ?_)
    exact ⟨eq1, Kd.rx HO_0.out, bl HB.out, by repeat ((with_reducible exact HK.out))⟩
   ·rw [if_neg c5] at H
    have c5b0 := decide_eq_false c5
    clear c5
    replace H := iteN H; obtain ⟨c9, H⟩ := H
    have c9b0 := beq_eq_false_iff_ne.mpr c9
    have c9b1 := bne_iff_ne.mpr c9
    by_cases c10 : x8_1 = true
    ·subst c10
     replace H := ifT H
     exact absurd H (by simp)
    ·replace c10 := Bool.eq_false_iff.mpr c10
     subst c10
     replace H := ifF H
     exact absurd H (by simp)
def qw.f (k : Nat) (l0 : List Int) : Option (List Int) := (bits_Len.f k (IntKind.u64.wrap ((l0.length : Int)))).bind fun t204 => ((z7.f k l0 0 (l0.length : Int) t204).bind fun t205 => (some t205))
theorem qw.calls (k : Nat) (P0_ : Nat → Prop) (u9000_ : Value) (l0 r : List Int) (w0 w : World) (hG : GW w0) (hB : Below w0.heap.size w0 w) (ho0 : Kd.R (Kd.int .i64) 3 w w0.heap.size P0_ u9000_ l0) (h : qw.f k l0 = some r) :
  Calls Tryd.prog 52 #[u9000_] w fun e w' => e = .returned (.tuple #[]) ∧ Kd.R (Kd.int .i64) 3 w' w0.heap.size (fun k_ => (P0_ k_ ∨ w.heap.size ≤ k_)) u9000_ r ∧ Below w0.heap.size w0 w' ∧ Kept w w' (fun k_ => P0_ k_) := by
 have HO0 := zb.mk (show Kd.R (Kd.int .i64) 3 w w0.heap.size (fun k_ => (P0_ k_ ∨ w.heap.size ≤ k_)) u9000_ l0 from Kd.zH ho0 (fun k_ hk => (.inl hk)))
 have HG := zb.mk hG
 clear hG
 have HK := zb.mk (Kept.refl w (fun k_ => P0_ k_))
 have HW0 := zb.mk hB.size
 have HB := zb.mk hB
 clear hB
 have H : ((bits_Len.f k (IntKind.u64.wrap ((l0.length : Int)))).bind fun t204 => ((z7.f k l0 0 (l0.length : Int) t204).bind fun t205 => (some t205))) = some r := h
 clear h
 replace H := zO H; obtain ⟨t204, A2, H⟩ := H
 replace H := zO H; obtain ⟨t205, A3, H⟩ := H
 obtain rfl := Option.some.inj H
 obtain ⟨Ao4, co4, eo4⟩ := Kd.zw HO0.out
 subst eo4
 go_enter Tryd.func52, Tryd.ntmps52
 go_wp2_with (first | ((with_reducible refine zc (f := 61) rfl ?_); refine zh (some 9) rfl rfl Tryd.func61 (by kernel_rfl) rfl #[.int .u64 (IntKind.u64.wrap ((l0.length : Int)))] rfl hq ?_; (with_reducible refine (bits_Len.calls k (IntKind.u64.wrap ((l0.length : Int))) t204 _ ?side1 A2.out).mono ?_); (case side1 => exact gb HG HB); rintro e w' ⟨rfl, ⟨nd, rfl⟩⟩; refine ⟨_, rfl, ?_⟩) | ((with_reducible refine zc (f := 60) rfl ?_); refine zh (some 10) rfl rfl Tryd.func60 (by kernel_rfl) rfl #[.slice Ao4 l0.length co4, .int .i64 0, .int .i64 (l0.length : Int), .int .i64 t204] rfl hq ?_; (with_reducible refine (z7.calls k (fun k_ => some k_ = (.slice Ao4 l0.length co4 : Value).ownBlock) (.slice Ao4 l0.length co4) l0 0 (l0.length : Int) t204 t205 w0 _ HG.out ?side1 ?side2 A3.out).mono ?_); (case side1 => repeat ((with_reducible first | exact HB.out | apply jh))); (case side2 => exact Kd.jz rfl HO0.out); rintro e w5 ⟨rfl, hy0, hb, hkp⟩; refine ⟨_, rfl, ?_⟩; replace HK := zb.mk (Kept.then_ (S := (fun k_ => P0_ k_)) (by repeat ((with_reducible first | exact HK.out | apply Kept.drewN))) hkp (fun k_ hs_ => (fun e_ => (HO0.out.1 k_ e_.symm)) hs_)); replace HO0 := zb.mk (Kd.R_reok rfl hy0 (fun k_ e_ => HO0.out.1 k_ e_)); replace HB := zb.mk (hb); (try clear hb); (try clear hkp); (try clear hy0)))
 go_end0
 exact ⟨eq1, Kd.rx HO0.out, bl HB.out, by repeat ((with_reducible exact HK.out))⟩
def xg.j0 : Nat → Int → List Int → Int → Int → Int → Int → ByteArray → Int → Int → Int → Int → Option (List Int)
 | 0, _, _, _, _, _, _, _, _, _, _, _ => none
 | k + 1, x1, x5, x208000, x208001, x208002, x208003, x208004, x208005, x208006, x208007, x208008 => (zI.f x208000 32).bind fun t212 => (if t212 = true then ((zI.f x208000 64).bind fun t213 => (if t213 = true then (if x208001 = 1 then ((qw.f k x5).bind fun t214 => (some t214)) else (if x5.length < 17592186044416 then ((qw.f k (x5 ++ [wrap64 (x1 + x208001)])).bind fun t218 => (some t218)) else (none))) else (if x5.length < 17592186044416 then ((qw.f k (x5 ++ [wrap64 (x1 + x208001)])).bind fun t222 => (some t222)) else (none)))) else ((qw.f k x5).bind fun t223 => (some t223)))
def xg.f (k : Nat) (l0 : List (S34)) (a1 : Int) : Option (List Int) := if 0 ≤ a1 then (if a1 < (l0.length : Int) then ((zI.f ((za l0 a1).f0) 64).bind fun t208 => (if t208 = true then (if ([] : List Int).length < 17592186044416 then (xg.j0 k a1 (([] : List Int) ++ [wrap64 (a1 + 1)]) ((za l0 a1).f0) ((za l0 a1).f1) ((za l0 a1).f2) ((za l0 a1).f3) ((za l0 a1).f4) ((za l0 a1).f5.f0) ((za l0 a1).f5.f1) ((za l0 a1).f5.f2) ((za l0 a1).f5.f3)) else (none)) else (xg.j0 k a1 ([] : List Int) ((za l0 a1).f0) ((za l0 a1).f1) ((za l0 a1).f2) ((za l0 a1).f3) ((za l0 a1).f4) ((za l0 a1).f5.f0) ((za l0 a1).f5.f1) ((za l0 a1).f5.f2) ((za l0 a1).f5.f3)))) else (none)) else (none)
theorem xg.calls (k : Nat) (A0 : Option Addr) (c0 : Nat) (l0 : List (S34)) (a1 : Int) (r : List Int) (w : World) (hG : GW w) (hr0 : Kd.C k34 w A0 l0.length l0) (hc0 : l0.length ≤ c0) (h : xg.f k l0 a1 = some r) :
  Calls Tryd.prog 30 #[.slice A0 l0.length c0, .int .i64 a1] w fun e w' => ∃ v0_ : Value, e = .returned (v0_) ∧ Kd.R (Kd.int .i64) 3 w' w.heap.size (fun _ => True) v0_ r ∧ Below w.heap.size w w' := by
 have hu34 := Tryd.underlying34
 have HR0 := zb.mk hr0
 have HC0 := zb.mk hc0
 clear hr0 hc0
 have HG := zb.mk hG
 clear hG
 have HB := zb.mk (Below.refl w.heap.size w)
 have H : (if 0 ≤ a1 then (if a1 < (l0.length : Int) then ((zI.f ((za l0 a1).f0) 64).bind fun t208 => (if t208 = true then (if ([] : List Int).length < 17592186044416 then (xg.j0 k a1 (([] : List Int) ++ [wrap64 (a1 + 1)]) ((za l0 a1).f0) ((za l0 a1).f1) ((za l0 a1).f2) ((za l0 a1).f3) ((za l0 a1).f4) ((za l0 a1).f5.f0) ((za l0 a1).f5.f1) ((za l0 a1).f5.f2) ((za l0 a1).f5.f3)) else (none)) else (xg.j0 k a1 ([] : List Int) ((za l0 a1).f0) ((za l0 a1).f1) ((za l0 a1).f2) ((za l0 a1).f3) ((za l0 a1).f4) ((za l0 a1).f5.f0) ((za l0 a1).f5.f1) ((za l0 a1).f5.f2) ((za l0 a1).f5.f3)))) else (none)) else (none)) = some r := h
 clear h
 by_cases c3 : 0 ≤ a1
 ·rw [if_pos c3] at H
  have c3b0 := decide_eq_true c3
  clear c3
  replace H := qh H; obtain ⟨c4, H⟩ := H
  have c4b0 := decide_eq_true c4
  clear c4
  replace H := zO H; obtain ⟨t208, A5, H⟩ := H
  have HC6 := zb.mk H
  clear H
  have p206 : 0 ≤ (a1 : Int) := dq
  have q206 : a1 < (l0.length : Int) := dq
  obtain ⟨ad206, e206, hx206_0, hx206_1, hx206_2, hx206_3, hx206_4, hx206_5, hx206_6, hx206_7, hx206_8⟩ := zU HR0.out a1 p206 q206
  cases e206
  replace p206 := eq_true p206
  replace q206 := eq_true q206
  go_enter Tryd.func30, Tryd.ntmps30
  go_upto_if 13 with (first | ((with_reducible refine z3 (N := 6) rfl ?_); refine qk ?hg (N := 6) ?hd (cs := #[.int .i64 0, .int .i64 0, .int .i64 0, .int .i64 0, .string (⟨#[]⟩ : ByteArray), .int .u64 0, .int .u64 0, .int .u64 0, .int .u64 0]) (t := 34) ?hr ?_; (case hd => rfl); (case hg => rfl); (case hr => (go_simp; done)); intro gb207 hg w7 hbox hb; have BK207 := zb.mk (hbox); have GW207 := zb.mk ((by rw [hg]; exact (zj (bl HB.out)) : w.heap.size ≤ gb207)); have GE207 := zb.mk ((by rw [hg]; exact (zj (bl HB.out)) : w.heap.size ≤ gb207)); replace HB := bst HB hb; clear hb hbox hg; obtain ⟨hcz8_0, hcz8_1, hcz8_2, hcz8_3, hcz8_4, hcz8_5, hcz8_6, hcz8_7, hcz8_8⟩ := zS BK207.out; obtain ⟨hfz8_0, hfz8_1, hfz8_2, hfz8_3, hfz8_4, hfz8_5, hfz8_6, hfz8_7, hfz8_8⟩ := zR BK207.out) | ((with_reducible refine zM (t := 34) (p := 6) rfl ?_); refine zB (t := 34) (p := 6) (v := ?vo_w9) (w1 := (xr w7 gb207 #[.int .i64 ((za l0 a1).f0), .int .i64 ((za l0 a1).f1), .int .i64 ((za l0 a1).f2), .int .i64 ((za l0 a1).f3), .string ((za l0 a1).f4), .int .u64 ((za l0 a1).f5.f0), .int .u64 ((za l0 a1).f5.f1), .int .u64 ((za l0 a1).f5.f2), .int .u64 ((za l0 a1).f5.f3)])) ?hg ?ho ?hn ?hr ?_; (case ho => rfl); (case hg => rfl); (case hn => rfl); (case hr => (go_simp; rfl)); intro w9 hw; replace BK207 : zb (w9.heap[gb207]? = some (.cells #[.int .i64 ((za l0 a1).f0), .int .i64 ((za l0 a1).f1), .int .i64 ((za l0 a1).f2), .int .i64 ((za l0 a1).f3), .string ((za l0 a1).f4), .int .u64 ((za l0 a1).f5.f0), .int .u64 ((za l0 a1).f5.f1), .int .u64 ((za l0 a1).f5.f2), .int .u64 ((za l0 a1).f5.f3)] 34 (0, 0))) := ⟨(by rw [hw]; exact (by (with_reducible skip); refine xd (cs := #[.int .i64 0, .int .i64 0, .int .i64 0, .int .i64 0, .string (⟨#[]⟩ : ByteArray), .int .u64 0, .int .u64 0, .int .u64 0, .int .u64 0]) ?_ _ rfl; (with_reducible skip); exact BK207.out))⟩; replace HB : zb (Below w.heap.size w w9) := ⟨(by rw [hw]; exact bsq)⟩; clear hw; obtain ⟨hcz10_0, hcz10_1, hcz10_2, hcz10_3, hcz10_4, hcz10_5, hcz10_6, hcz10_7, hcz10_8⟩ := zS BK207.out; obtain ⟨hfz10_0, hfz10_1, hfz10_2, hfz10_3, hfz10_4, hfz10_5, hfz10_6, hfz10_7, hfz10_8⟩ := zR BK207.out) | ((with_reducible refine zc (f := 51) rfl ?_); refine zh (some 13) rfl rfl Tryd.func51 (by kernel_rfl) rfl #[.int .i64 ((za l0 a1).f0), .int .i64 64] rfl hq ?_; (with_reducible refine (zI.calls ((za l0 a1).f0) 64 t208 _ ?side1 A5.out).mono ?_); (case side1 => exact GW.below HG.out bsq); rintro e w' ⟨rfl, ⟨nd, rfl⟩⟩; refine ⟨_, rfl, ?_⟩))
  (try simp only [Act.put, List.setIfInBounds_toArray, List.set_cons_zero, List.set_cons_succ])
  go_cut [5] (fun v5 wc => ∃ (kq : Nat) (x5_5 : List Int), zb (xg.j0 kq a1 x5_5 ((za l0 a1).f0) ((za l0 a1).f1) ((za l0 a1).f2) ((za l0 a1).f3) ((za l0 a1).f4) ((za l0 a1).f5.f0) ((za l0 a1).f5.f1) ((za l0 a1).f5.f2) ((za l0 a1).f5.f3) = some r) ∧ zb (kq ≤ k) ∧ zb (Kd.R (Kd.int .i64) 3 wc w.heap.size (fun _ => True) v5 x5_5) ∧ zb (wc.heap[gb207]? = some (.cells #[.int .i64 ((za l0 a1).f0), .int .i64 ((za l0 a1).f1), .int .i64 ((za l0 a1).f2), .int .i64 ((za l0 a1).f3), .string ((za l0 a1).f4), .int .u64 ((za l0 a1).f5.f0), .int .u64 ((za l0 a1).f5.f1), .int .u64 ((za l0 a1).f5.f2), .int .u64 ((za l0 a1).f5.f3)] 34 (0, 0))) ∧ zb (Below w.heap.size w wc))
  case first =>
   have H := HC6.out
   clear HC6
   by_cases c11 : t208 = true
   ·subst c11
    replace H := ifT H
    replace H := qh H; obtain ⟨c12, H⟩ := H
    have LMc12 := zb.mk c12
    clear c12
    obtain ⟨y209, hy209⟩ : ∃ y_ : List Int, y_ = (([] : List Int) ++ [wrap64 (a1 + 1)]) := ⟨_, rfl⟩
    replace H : (xg.j0 k a1 y209 ((za l0 a1).f0) ((za l0 a1).f1) ((za l0 a1).f2) ((za l0 a1).f3) ((za l0 a1).f4) ((za l0 a1).f5.f0) ((za l0 a1).f5.f1) ((za l0 a1).f5.f2) ((za l0 a1).f5.f3)) = some r := by (rw [hy209]; with_reducible exact H)
    have Ny209 := zb.mk hy209
    clear hy209
    have H' := zb.mk H
    clear H
    go_wp2_with (((with_reducible refine qu (b := .append) (xs := #[.tmp 14, .tmp 17]) rfl ?_); at_builtin; refine Kd.xE (Kd.int .i64) (w0 := w) w.heap.size rfl (.tmp 14) (.tmp 17) 45 3 (.int .i64 0) 8 rfl Tryd.underlying45 info3 rfl (by decide) (by omega) (.slice none 0 0) ([] : List Int) (wrap64 (a1 + 1)) [.int .i64 (wrap64 (a1 + 1))] (fun _ => True) (fun _ => False) rfl rfl ?aP (fun _ hk => hk.elim) ?aF ?aO ?aB ?aS ?aL ?_; (case aP => exact rfl); (case aB => exact bsq); (case aF => exact (fun _ _ => trivial)); (case aO => exact ((Kd.ji _ _ _ _ (fun _ => True)))); (case aS => exact (zj bsq)); (case aL => have := LMc12.out; omega); intro v210 w13 ho hb hg hat; rw [← Ny209.out] at ho; replace BK207 := zb.mk (xc (g := gb207) (o := .cells #[.int .i64 ((za l0 a1).f0), .int .i64 ((za l0 a1).f1), .int .i64 ((za l0 a1).f2), .int .i64 ((za l0 a1).f3), .string ((za l0 a1).f4), .int .u64 ((za l0 a1).f5.f0), .int .u64 ((za l0 a1).f5.f1), .int .u64 ((za l0 a1).f5.f2), .int .u64 ((za l0 a1).f5.f3)] 34 (0, 0)) (bx BK207.out) hg (by simp [Value.ownBlock])); replace HB := zb.mk (hb); have HO211 := zb.mk (ho); clear ho hb hg hat))
    go_meet
    case rel => exact ⟨_, (y209), H', ⟨by omega⟩, ⟨Kd.rx HO211.out⟩, ⟨by (with_reducible skip); exact BK207.out⟩, ⟨bsq⟩⟩
   ·replace c11 := Bool.eq_false_iff.mpr c11
    subst c11
    replace H := ifF H
    have H' := zb.mk H
    clear H
    go_wp2
    go_meet
    case rel => exact ⟨_, (([] : List Int)), H', ⟨by omega⟩, ⟨by exact Kd.ji _ _ _ _ _⟩, ⟨by (with_reducible repeat (refine qy ?_ _)); exact BK207.out⟩, ⟨bsq⟩⟩
  case rest =>
   clear HC6
   (try clear c3b0); (try clear c4b0); (try clear hcz10_0); (try clear hcz10_1); (try clear hcz10_2); (try clear hcz10_3); (try clear hcz10_4); (try clear hcz10_5); (try clear hcz10_6); (try clear hcz10_7); (try clear hcz10_8); (try clear hcz8_0); (try clear hcz8_1); (try clear hcz8_2); (try clear hcz8_3); (try clear hcz8_4); (try clear hcz8_5); (try clear hcz8_6); (try clear hcz8_7); (try clear hcz8_8); (try clear hfz10_0); (try clear hfz10_1); (try clear hfz10_2); (try clear hfz10_3); (try clear hfz10_4); (try clear hfz10_5); (try clear hfz10_6); (try clear hfz10_7); (try clear hfz10_8); (try clear hfz8_0); (try clear hfz8_1); (try clear hfz8_2); (try clear hfz8_3); (try clear hfz8_4); (try clear hfz8_5); (try clear hfz8_6); (try clear hfz8_7); (try clear hfz8_8); (try clear hx206_0); (try clear hx206_1); (try clear hx206_2); (try clear hx206_3); (try clear hx206_4); (try clear hx206_5); (try clear hx206_6); (try clear hx206_7); (try clear hx206_8); (try clear p206); (try clear q206)
   obtain ⟨kq, x5_5, HA, HJ5, HO_5, BK207, HB⟩ := hcut
   cases kq with
   | zero => exact absurd HA.out (by simp [xg.j0])
   | succ kj5 =>
    have H := HA.out
    clear HA
    simp only [xg.j0] at H
    replace H := zO H; obtain ⟨t212, A14, H⟩ := H
    by_cases c15 : t212 = true
    ·subst c15
     replace H := ifT H
     replace H := zO H; obtain ⟨t213, A16, H⟩ := H
     by_cases c17 : t213 = true
     ·subst c17
      replace H := ifT H
      by_cases c18 : ((za l0 a1).f1) = 1
      ·rw [if_pos c18] at H
       have c18b0 := beq_iff_eq.mpr c18
       have c18b1 := bne_eq_false_iff_eq.mpr c18
       clear c18
       replace H := zO H; obtain ⟨t214, A19, H⟩ := H
       obtain rfl := Option.some.inj H
       obtain ⟨hcz20_0, hcz20_1, hcz20_2, hcz20_3, hcz20_4, hcz20_5, hcz20_6, hcz20_7, hcz20_8⟩ := zS BK207.out
       obtain ⟨hfz20_0, hfz20_1, hfz20_2, hfz20_3, hfz20_4, hfz20_5, hfz20_6, hfz20_7, hfz20_8⟩ := zR BK207.out
       go_wp2_with (first | ((with_reducible refine zc (f := 51) rfl ?_); refine zh (some 21) rfl rfl Tryd.func51 (by kernel_rfl) rfl #[.int .i64 ((za l0 a1).f0), .int .i64 32] rfl hq ?_; (with_reducible refine (zI.calls ((za l0 a1).f0) 32 true _ ?side1 A14.out).mono ?_); (case side1 => exact GW.below HG.out bsq); rintro e w' ⟨rfl, ⟨nd, rfl⟩⟩; refine ⟨_, rfl, ?_⟩) | (go_at_call 51; (with_reducible refine (zI.calls ((za l0 a1).f0) 64 true _ ?side1 A16.out).mono ?_); (case side1 => exact GW.below HG.out bsq); rintro e w' ⟨rfl, ⟨nd, rfl⟩⟩; obtain ⟨Ao21, co21, eo21⟩ := Kd.zw HO_5.out; subst eo21) | ((with_reducible refine zc (f := 52) rfl ?_); refine zh (some 41) rfl rfl Tryd.func52 (by kernel_rfl) rfl #[.slice Ao21 x5_5.length co21] rfl hq ?_; (with_reducible refine (qw.calls kj5 (fun k_ => some k_ = (.slice Ao21 x5_5.length co21 : Value).ownBlock) (.slice Ao21 x5_5.length co21) x5_5 t214 w _ HG.out ?side1 ?side2 A19.out).mono ?_); (case side1 => repeat ((with_reducible first | exact HB.out | apply jh))); (case side2 => exact Kd.jz rfl HO_5.out); rintro e w22 ⟨rfl, hy0, hb, hkp⟩; refine ⟨_, rfl, ?_⟩; replace BK207 := zb.mk (blk_kept (bx BK207.out) hkp (fun hs_ => (fun e_ => (Kd.R_ne HO_5.out BK207.out (by decide)) e_) hs_)); replace HO_5 := zb.mk (Kd.R_reok rfl hy0 (fun k_ e_ => HO_5.out.1 k_ e_)); replace HB := zb.mk (hb); (try clear hb); (try clear hkp); (try clear hy0)))
       go_ret
       exact ⟨_, eq1, Kd.rx HO_5.out, bsq⟩
      ·rw [if_neg c18] at H
       have c18b0 := beq_eq_false_iff_ne.mpr c18
       have c18b1 := bne_iff_ne.mpr c18
       replace H := qh H; obtain ⟨c23, H⟩ := H
       have LMc23 := zb.mk c23
       clear c23
       obtain ⟨y215, hy215⟩ : ∃ y_ : List Int, y_ = (x5_5 ++ [wrap64 (a1 + ((za l0 a1).f1))]) := ⟨_, rfl⟩
       replace H : ((qw.f kj5 y215).bind fun t218 => (some t218)) = some r := by (rw [hy215]; with_reducible exact H)
       have Ny215 := zb.mk hy215
       clear hy215
       replace H := zO H; obtain ⟨t218, A24, H⟩ := H
       obtain rfl := Option.some.inj H
       obtain ⟨hcz25_0, hcz25_1, hcz25_2, hcz25_3, hcz25_4, hcz25_5, hcz25_6, hcz25_7, hcz25_8⟩ := zS BK207.out
       obtain ⟨hfz25_0, hfz25_1, hfz25_2, hfz25_3, hfz25_4, hfz25_5, hfz25_6, hfz25_7, hfz25_8⟩ := zR BK207.out
       go_wp2_with (first | ((with_reducible refine zc (f := 51) rfl ?_); refine zh (some 21) rfl rfl Tryd.func51 (by kernel_rfl) rfl #[.int .i64 ((za l0 a1).f0), .int .i64 32] rfl hq ?_; (with_reducible refine (zI.calls ((za l0 a1).f0) 32 true _ ?side1 A14.out).mono ?_); (case side1 => exact GW.below HG.out bsq); rintro e w' ⟨rfl, ⟨nd, rfl⟩⟩; refine ⟨_, rfl, ?_⟩) | (go_at_call 51; (with_reducible refine (zI.calls ((za l0 a1).f0) 64 true _ ?side1 A16.out).mono ?_); (case side1 => exact GW.below HG.out bsq); rintro e w' ⟨rfl, ⟨nd, rfl⟩⟩) | ((with_reducible refine qu (b := .append) (xs := #[.tmp 33, .tmp 38]) rfl ?_); at_builtin; refine Kd.xE (Kd.int .i64) (w0 := w) w.heap.size rfl (.tmp 33) (.tmp 38) 45 3 (.int .i64 0) 8 rfl Tryd.underlying45 info3 rfl (by decide) (by omega) u5 x5_5 (wrap64 (a1 + ((za l0 a1).f1))) [.int .i64 (wrap64 (a1 + ((za l0 a1).f1)))] (fun _ => True) (fun _ => False) rfl rfl ?aP (fun _ hk => hk.elim) ?aF ?aO ?aB ?aS ?aL ?_; (case aP => exact rfl); (case aB => exact bsq); (case aF => exact (fun _ _ => trivial)); (case aO => exact (Kd.rx HO_5.out)); (case aS => exact (zj bsq)); (case aL => have := LMc23.out; omega); intro v216 w26 ho hb hg hat; rw [← Ny215.out] at ho; replace BK207 := zb.mk (xc (g := gb207) (o := .cells #[.int .i64 ((za l0 a1).f0), .int .i64 ((za l0 a1).f1), .int .i64 ((za l0 a1).f2), .int .i64 ((za l0 a1).f3), .string ((za l0 a1).f4), .int .u64 ((za l0 a1).f5.f0), .int .u64 ((za l0 a1).f5.f1), .int .u64 ((za l0 a1).f5.f2), .int .u64 ((za l0 a1).f5.f3)] 34 (0, 0)) (bx BK207.out) hg (Kd.R_ne HO_5.out BK207.out (by decide))); replace HB := zb.mk (hb); have HO217 := zb.mk (ho); clear HO_5; clear ho hb hg hat; obtain ⟨Ao27, co27, eo27⟩ := Kd.zw HO217.out; subst eo27) | ((with_reducible refine zc (f := 52) rfl ?_); refine zh (some 41) rfl rfl Tryd.func52 (by kernel_rfl) rfl #[.slice Ao27 y215.length co27] rfl hq ?_; (with_reducible refine (qw.calls kj5 (fun k_ => some k_ = (.slice Ao27 y215.length co27 : Value).ownBlock) (.slice Ao27 y215.length co27) y215 t218 w _ HG.out ?side1 ?side2 A24.out).mono ?_); (case side1 => repeat ((with_reducible exact HB.out))); (case side2 => exact Kd.jz rfl HO217.out); rintro e w28 ⟨rfl, hy0, hb, hkp⟩; refine ⟨_, rfl, ?_⟩; replace BK207 := zb.mk (blk_kept (bx BK207.out) hkp (fun hs_ => (fun e_ => (Kd.R_ne HO217.out BK207.out (by decide)) e_) hs_)); replace HO217 := zb.mk (Kd.R_reok rfl hy0 (fun k_ e_ => HO217.out.1 k_ e_)); replace HB := zb.mk (hb); (try clear hb); (try clear hkp); (try clear hy0)))
       go_ret
       exact ⟨_, eq1, Kd.rx HO217.out, bsq⟩
     ·replace c17 := Bool.eq_false_iff.mpr c17
      subst c17
      replace H := ifF H
      replace H := qh H; obtain ⟨c29, H⟩ := H
      have LMc29 := zb.mk c29
      clear c29
      obtain ⟨y219, hy219⟩ : ∃ y_ : List Int, y_ = (x5_5 ++ [wrap64 (a1 + ((za l0 a1).f1))]) := ⟨_, rfl⟩
      replace H : ((qw.f kj5 y219).bind fun t222 => (some t222)) = some r := by (rw [hy219]; with_reducible exact H)
      have Ny219 := zb.mk hy219
      clear hy219
      replace H := zO H; obtain ⟨t222, A30, H⟩ := H
      obtain rfl := Option.some.inj H
      obtain ⟨hcz31_0, hcz31_1, hcz31_2, hcz31_3, hcz31_4, hcz31_5, hcz31_6, hcz31_7, hcz31_8⟩ := zS BK207.out
      obtain ⟨hfz31_0, hfz31_1, hfz31_2, hfz31_3, hfz31_4, hfz31_5, hfz31_6, hfz31_7, hfz31_8⟩ := zR BK207.out
      go_wp2_with (first | ((with_reducible refine zc (f := 51) rfl ?_); refine zh (some 21) rfl rfl Tryd.func51 (by kernel_rfl) rfl #[.int .i64 ((za l0 a1).f0), .int .i64 32] rfl hq ?_; (with_reducible refine (zI.calls ((za l0 a1).f0) 32 true _ ?side1 A14.out).mono ?_); (case side1 => exact GW.below HG.out bsq); rintro e w' ⟨rfl, ⟨nd, rfl⟩⟩; refine ⟨_, rfl, ?_⟩) | (go_at_call 51; (with_reducible refine (zI.calls ((za l0 a1).f0) 64 false _ ?side1 A16.out).mono ?_); (case side1 => exact GW.below HG.out bsq); rintro e w' ⟨rfl, ⟨nd, rfl⟩⟩) | ((with_reducible refine qu (b := .append) (xs := #[.tmp 33, .tmp 38]) rfl ?_); at_builtin; refine Kd.xE (Kd.int .i64) (w0 := w) w.heap.size rfl (.tmp 33) (.tmp 38) 45 3 (.int .i64 0) 8 rfl Tryd.underlying45 info3 rfl (by decide) (by omega) u5 x5_5 (wrap64 (a1 + ((za l0 a1).f1))) [.int .i64 (wrap64 (a1 + ((za l0 a1).f1)))] (fun _ => True) (fun _ => False) rfl rfl ?aP (fun _ hk => hk.elim) ?aF ?aO ?aB ?aS ?aL ?_; (case aP => exact rfl); (case aB => exact bsq); (case aF => exact (fun _ _ => trivial)); (case aO => exact (Kd.rx HO_5.out)); (case aS => exact (zj bsq)); (case aL => have := LMc29.out; omega); intro v220 w32 ho hb hg hat; rw [← Ny219.out] at ho; replace BK207 := zb.mk (xc (g := gb207) (o := .cells #[.int .i64 ((za l0 a1).f0), .int .i64 ((za l0 a1).f1), .int .i64 ((za l0 a1).f2), .int .i64 ((za l0 a1).f3), .string ((za l0 a1).f4), .int .u64 ((za l0 a1).f5.f0), .int .u64 ((za l0 a1).f5.f1), .int .u64 ((za l0 a1).f5.f2), .int .u64 ((za l0 a1).f5.f3)] 34 (0, 0)) (bx BK207.out) hg (Kd.R_ne HO_5.out BK207.out (by decide))); replace HB := zb.mk (hb); have HO221 := zb.mk (ho); clear HO_5; clear ho hb hg hat; obtain ⟨Ao33, co33, eo33⟩ := Kd.zw HO221.out; subst eo33) | ((with_reducible refine zc (f := 52) rfl ?_); refine zh (some 41) rfl rfl Tryd.func52 (by kernel_rfl) rfl #[.slice Ao33 y219.length co33] rfl hq ?_; (with_reducible refine (qw.calls kj5 (fun k_ => some k_ = (.slice Ao33 y219.length co33 : Value).ownBlock) (.slice Ao33 y219.length co33) y219 t222 w _ HG.out ?side1 ?side2 A30.out).mono ?_); (case side1 => repeat ((with_reducible exact HB.out))); (case side2 => exact Kd.jz rfl HO221.out); rintro e w34 ⟨rfl, hy0, hb, hkp⟩; refine ⟨_, rfl, ?_⟩; replace BK207 := zb.mk (blk_kept (bx BK207.out) hkp (fun hs_ => (fun e_ => (Kd.R_ne HO221.out BK207.out (by decide)) e_) hs_)); replace HO221 := zb.mk (Kd.R_reok rfl hy0 (fun k_ e_ => HO221.out.1 k_ e_)); replace HB := zb.mk (hb); (try clear hb); (try clear hkp); (try clear hy0)))
      go_ret
      exact ⟨_, eq1, Kd.rx HO221.out, bsq⟩
    ·replace c15 := Bool.eq_false_iff.mpr c15
     subst c15
     replace H := ifF H
     replace H := zO H; obtain ⟨t223, A35, H⟩ := H
     obtain rfl := Option.some.inj H
     obtain ⟨hcz36_0, hcz36_1, hcz36_2, hcz36_3, hcz36_4, hcz36_5, hcz36_6, hcz36_7, hcz36_8⟩ := zS BK207.out
     obtain ⟨hfz36_0, hfz36_1, hfz36_2, hfz36_3, hfz36_4, hfz36_5, hfz36_6, hfz36_7, hfz36_8⟩ := zR BK207.out
     go_wp2_with (first | ((with_reducible refine zc (f := 51) rfl ?_); refine zh (some 21) rfl rfl Tryd.func51 (by kernel_rfl) rfl #[.int .i64 ((za l0 a1).f0), .int .i64 32] rfl hq ?_; (with_reducible refine (zI.calls ((za l0 a1).f0) 32 false _ ?side1 A14.out).mono ?_); (case side1 => exact GW.below HG.out bsq); rintro e w' ⟨rfl, ⟨nd, rfl⟩⟩; refine ⟨_, rfl, ?_⟩; obtain ⟨Ao37, co37, eo37⟩ := Kd.zw HO_5.out; subst eo37) | ((with_reducible refine zc (f := 52) rfl ?_); refine zh (some 41) rfl rfl Tryd.func52 (by kernel_rfl) rfl #[.slice Ao37 x5_5.length co37] rfl hq ?_; (with_reducible refine (qw.calls kj5 (fun k_ => some k_ = (.slice Ao37 x5_5.length co37 : Value).ownBlock) (.slice Ao37 x5_5.length co37) x5_5 t223 w _ HG.out ?side1 ?side2 A35.out).mono ?_); (case side1 => repeat ((with_reducible first | exact HB.out | apply jh))); (case side2 => exact Kd.jz rfl HO_5.out); rintro e w38 ⟨rfl, hy0, hb, hkp⟩; refine ⟨_, rfl, ?_⟩; replace BK207 := zb.mk (blk_kept (bx BK207.out) hkp (fun hs_ => (fun e_ => (Kd.R_ne HO_5.out BK207.out (by decide)) e_) hs_)); replace HO_5 := zb.mk (Kd.R_reok rfl hy0 (fun k_ e_ => HO_5.out.1 k_ e_)); replace HB := zb.mk (hb); (try clear hb); (try clear hkp); (try clear hy0)))
     go_ret
     exact ⟨_, eq1, Kd.rx HO_5.out, bsq⟩
 ·rw [if_neg c3] at H
  exact absurd H (by simp)
def qt.l0 : Nat → List (S34) → List Bool → List Int → Option (List Bool × Int)
 | 0, _, _, _ => none
 | k + 1, x0, x6, x7 => if (x7.length : Int) > 0 then (if 0 ≤ (wrap64 ((x7.length : Int) - 1)) then (if (wrap64 ((x7.length : Int) - 1)) < (x7.length : Int) then (if (wrap64 ((x7.length : Int) - 1)) ≤ (x7.length : Int) then ((some (x7.take ((wrap64 ((x7.length : Int) - 1)) : Int).toNat : List Int)).bind fun y233 => (if 0 ≤ (rd x7 (wrap64 ((x7.length : Int) - 1))) then (if (rd x7 (wrap64 ((x7.length : Int) - 1))) < (x6.length : Int) then (if (rdOf false x6 (rd x7 (wrap64 ((x7.length : Int) - 1))) = true) then (qt.l0 k x0 x6 y233) else ((xg.f k x0 (rd x7 (wrap64 ((x7.length : Int) - 1)))).bind fun t238 => (if y233.length + t238.length < 17592186044416 then (qt.l0 k x0 (x6.set ((rd x7 (wrap64 ((x7.length : Int) - 1))) : Int).toNat true) (y233 ++ t238)) else (none)))) else (none)) else (none))) else (none)) else (none)) else (none)) else (some (x6, 0))
def qt.f (k : Nat) (l0 : List (S34)) : Option (List Bool × Int) := (zC.f k l0).bind fun bt224 => (if bt224.2 = 0 then (if 0 ≤ (l0.length : Int) then (if ((l0.length : Int) : Int).toNat ≤ 281474976710656 then (qt.l0 k l0 (List.replicate ((l0.length : Int) : Int).toNat false) (([0] : List Int))) else (none)) else (none)) else (some (([] : List Bool), bt224.2)))
theorem qt.calls (k : Nat) (A0 : Option Addr) (c0 : Nat) (l0 : List (S34)) (r1 : List Bool) (r2 : Int) (w : World) (hG : GW w) (hr0 : Kd.C k34 w A0 l0.length l0) (hc0 : l0.length ≤ c0) (h : qt.f k l0 = some (r1, r2)) :
  Calls Tryd.prog 12 #[.slice A0 l0.length c0] w fun e w' => ∃ v0_ : Value, e = .returned (.tuple #[v0_, .int .i64 r2]) ∧ Kd.R Kd.bool 4 w' w.heap.size (fun _ => True) v0_ r1 ∧ Below w.heap.size w w' := by
 have HR0 := zb.mk hr0
 have HC0 := zb.mk hc0
 clear hr0 hc0
 have HG := zb.mk hG
 clear hG
 have HB := zb.mk (Below.refl w.heap.size w)
 have H : ((zC.f k l0).bind fun bt224 => (if bt224.2 = 0 then (if 0 ≤ (l0.length : Int) then (if ((l0.length : Int) : Int).toNat ≤ 281474976710656 then (qt.l0 k l0 (List.replicate ((l0.length : Int) : Int).toNat false) (([0] : List Int))) else (none)) else (none)) else (some (([] : List Bool), bt224.2)))) = some (r1, r2) := h
 clear h
 replace H := zO H; obtain ⟨⟨t224, t225⟩, A2, H⟩ := H; try dsimp only at H
 by_cases c3 : t225 = 0
 ·rw [if_pos c3] at H
  have c3b0 := beq_iff_eq.mpr c3
  have c3b1 := bne_eq_false_iff_eq.mpr c3
  clear c3
  replace H := qh H; obtain ⟨c4, H⟩ := H
  have c4b0 := eq_true c4
  have c4b1 := decide_eq_true c4
  clear c4
  replace H := qh H; obtain ⟨c5, H⟩ := H
  have c5b0 := eq_true c5
  have c5b1 := decide_eq_true c5
  clear c5
  obtain ⟨y226, hy226⟩ : ∃ y_ : List Bool, y_ = (List.replicate ((l0.length : Int) : Int).toNat false) := ⟨_, rfl⟩
  replace H : (qt.l0 k l0 y226 (([0] : List Int))) = some (r1, r2) := by (rw [hy226]; with_reducible exact H)
  have Ny226 := zb.mk hy226
  clear hy226
  obtain ⟨y229, hy229⟩ : ∃ y_ : List Int, y_ = (([0] : List Int)) := ⟨_, rfl⟩
  replace H : (qt.l0 k l0 y226 y229) = some (r1, r2) := by (rw [hy229]; with_reducible exact H)
  have Ny229 := zb.mk hy229
  clear hy229
  have H' := zb.mk H
  clear H
  go_enter Tryd.func12, Tryd.ntmps12
  go_wp2_with (first | ((with_reducible refine zc (f := 29) rfl ?_); refine zh (some 11) rfl rfl Tryd.func29 (by kernel_rfl) rfl #[.slice A0 l0.length c0] rfl hq ?_; (with_reducible refine (zC.calls k _ _ l0 t224 t225 _ ?side3 ?side1 ?side2 A2.out).mono ?_); (case side1 => exact Kd.cx HR0.out); (case side2 => exact HC0.out); (case side3 => exact gb HG HB); rintro e w6 ⟨rfl, hb⟩; refine ⟨_, rfl, ?_⟩; replace HB := bst HB hb; (try clear hb)) | ((with_reducible refine z3 (N := 19) rfl ?_); refine Kd.R_make Kd.bool _ 4 rfl (N := 19) rfl 27 _ _ rfl (l0.length : Int) rfl rfl Tryd.underlying27 (.bool false) 1 info4 rfl (by decide) (by omega) false (ok := fun _ => True) (okp := fun _ => True) rfl (fun _ hk => hk) trivial (dq) (Nat.le_trans (Nat.mul_le_mul_right _ (dq : (l0.length : Int).toNat ≤ 281474976710656)) (by omega)) (Below.refl _ _) (Nat.le_refl _) ?_; intro v227 w7 ho8 hb hg_ hnew_; clear hg_ hnew_; (rw [← Ny226.out] at ho8); have HO228 := zb.mk (Kd.rlo ho8 HB); replace HB := bst HB hb; clear hb ho8) | ((with_reducible refine z3 (N := 20) rfl ?_); refine Kd.R_lit (Kd.int .i64) _ 3 ?hg (N := 20) ?hd (xs := ([0] : List Int)) (inner := [.int .i64 0]) (ok := fun _ => True) (okp := fun _ => True) ?hr ?hp (fun _ hk => hk) trivial (Below.refl _ _) (Nat.le_refl _) (by simp) ?_; (case hd => rfl); (case hg => rfl); (case hr => (go_simp; done)); (case hp => exact (qU.one (show Kd.M (Kd.int .i64) _ _ _ 0 [.int .i64 0] from rfl) (qU.none _ _))); intro v230 w9 ho10 hb hg_ hnew_; clear hg_ hnew_; (rw [← Ny229.out] at ho10); replace HO228 := Kd.rbl HO228 hb; have HO231 := zb.mk (Kd.rlo ho10 HB); replace HB := bst HB hb; clear hb ho10))
  go_loopg [7] k (fun kq v7 w' => ∃ (x6_1 : List Bool) (x7_1 : List Int), zb (qt.l0 kq l0 x6_1 x7_1 = some (r1, r2)) ∧ zb (kq ≤ k) ∧ zb (Kd.R Kd.bool 4 w' w.heap.size (fun _ => True) v227 x6_1) ∧ zb (Kd.R (Kd.int .i64) 3 w' w.heap.size (fun _ => True) v7 x7_1) ∧ zb (Below w.heap.size w w'))
  case atStart => exact ⟨(y226), (y229), H', ⟨Nat.le_refl _⟩, ⟨Kd.rx HO228.out⟩, ⟨Kd.rx HO231.out⟩, ⟨bl HB.out⟩⟩
  case round =>
   clear H'
   (try clear c3b0); (try clear c3b1); (try clear c4b0); (try clear c4b1); (try clear c5b0); (try clear c5b1)
   obtain ⟨x6_1, x7_1, HA, HK1, HO_6, HO_7, HB⟩ := hrel
   cases gk with
   | zero => exact absurd HA.out (by simp [qt.l0])
   | succ k1 =>
    have H := HA.out
    clear HA
    simp only [qt.l0] at H
    by_cases c11 : (x7_1.length : Int) > 0
    ·rw [if_pos c11] at H
     have c11b0 := decide_eq_true c11
     have c11b1 : decide (0 < x7_1.length) = true := decide_eq_true (by omega)
     clear c11
     obtain ⟨ji12, hji12⟩ : ∃ j_ : Int, (wrap64 ((x7_1.length : Int) - 1)) = j_ := ⟨_, rfl⟩
     rw [hji12] at H
     have hji12w : (IntKind.i64.wrap ((x7_1.length : Int) - 1)) = ji12 := (qd _).trans hji12
     replace H := qh H; obtain ⟨c13, H⟩ := H
     have c13b0 := decide_eq_true c13
     clear c13
     replace H := qh H; obtain ⟨c14, H⟩ := H
     have c14b0 := decide_eq_true c14
     clear c14
     replace H := qh H; obtain ⟨c15, H⟩ := H
     have c15b0 := eq_true c15
     have c15b1 := decide_eq_true c15
     clear c15
     obtain ⟨y233, Ny233, H⟩ := bindY H; try dsimp only at H
     replace H := qh H; obtain ⟨c16, H⟩ := H
     have c16b0 := decide_eq_true c16
     clear c16
     replace H := qh H; obtain ⟨c17, H⟩ := H
     have c17b0 := decide_eq_true c17
     clear c17
     obtain ⟨bq18, hbq18⟩ : ∃ b_ : Bool, b_ = (rdOf false x6_1 (rd x7_1 (ji12))) := ⟨_, rfl⟩
     rw [← hbq18] at H
     have Nbq18 := zb.mk hbq18
     clear hbq18
     by_cases c19 : (bq18 = true)
     ·subst c19
      replace H := ifT H
      have H' := zb.mk H
      clear H
      obtain ⟨Ao20, co20, eo20⟩ := Kd.zw HO_7.out
      subst eo20
      have p232 : 0 ≤ ((ji12) : Int) := dq
      have q232 : (ji12) < (x7_1.length : Int) := dq
      obtain ⟨ad232, e232, hx232_0⟩ := Kd.xO (Kd.zf HO_7.out).2.2 (ji12) p232 q232
      cases e232
      replace p232 := eq_true p232
      replace q232 := eq_true q232
      have q21 : ((ji12) : Int) ≤ ((x7_1.length : Int) : Int) := dq
      obtain ⟨i021, hi021, _, hsz21, _⟩ := info_parts info3
      have hcut21 := cut_to (P := Tryd.prog) 45 3 .i64 Tryd.underlying45 hi021 (some ad232) x7_1.length co20 (ji12) (dq) q21 (Kd.zf HO_7.out).2.1
      have hr21 := Kd.R_take (m := ((ji12) : Int).toNat) HO_7.out (by omega)
      have hy21 : y233.length = ((ji12) : Int).toNat := (by rw [Ny233.out, List.length_take]; omega)
      rw [← Ny233.out] at hr21
      rw [← hy21] at hr21 hcut21
      clear hy21 hi021 hsz21 HO_7
      have HO235 := zb.mk hr21
      clear hr21
      replace q21 := eq_true q21
      obtain ⟨Ao22, co22, eo22⟩ := Kd.zw HO_6.out
      subst eo22
      have p236 : 0 ≤ ((rd x7_1 (ji12)) : Int) := dq
      have q236 : (rd x7_1 (ji12)) < (x6_1.length : Int) := dq
      obtain ⟨ad236, e236, hx236_0⟩ := Kd.je (Kd.zf HO_6.out).2.2 (rd x7_1 (ji12)) p236 q236
      (try rw [← Nbq18.out] at hx236_0)
      cases e236
      replace p236 := eq_true p236
      replace q236 := eq_true q236
      go_wp2
      go_roundg k1
      case measure => have := HK1.out; omega
      case rel => exact ⟨(x6_1), (y233), H', ⟨by have := HK1.out; omega⟩, ⟨Kd.rx HO_6.out⟩, ⟨Kd.rx HO235.out⟩, ⟨bl HB.out⟩⟩
     ·replace c19 := Bool.eq_false_iff.mpr c19
      subst c19
      replace H := ifF H
      obtain ⟨y237, hy237⟩ : ∃ y_ : List Bool, y_ = (x6_1.set ((rd x7_1 (ji12)) : Int).toNat true) := ⟨_, rfl⟩
      replace H : ((xg.f k1 l0 (rd x7_1 (ji12))).bind fun t238 => (if y233.length + t238.length < 17592186044416 then (qt.l0 k1 l0 y237 (y233 ++ t238)) else (none))) = some (r1, r2) := by (rw [hy237]; with_reducible exact H)
      have Ny237 := zb.mk hy237
      clear hy237
      replace H := zO H; obtain ⟨t238, A24, H⟩ := H
      replace H := qh H; obtain ⟨c25, H⟩ := H
      have LMc25 := zb.mk c25
      clear c25
      obtain ⟨y241, hy241⟩ : ∃ y_ : List Int, y_ = (y233 ++ t238) := ⟨_, rfl⟩
      replace H : (qt.l0 k1 l0 y237 y241) = some (r1, r2) := by (rw [hy241]; with_reducible exact H)
      have Ny241 := zb.mk hy241
      clear hy241
      have H' := zb.mk H
      clear H
      obtain ⟨Ao26, co26, eo26⟩ := Kd.zw HO_7.out
      subst eo26
      have p232 : 0 ≤ ((ji12) : Int) := dq
      have q232 : (ji12) < (x7_1.length : Int) := dq
      obtain ⟨ad232, e232, hx232_0⟩ := Kd.xO (Kd.zf HO_7.out).2.2 (ji12) p232 q232
      cases e232
      replace p232 := eq_true p232
      replace q232 := eq_true q232
      have q27 : ((ji12) : Int) ≤ ((x7_1.length : Int) : Int) := dq
      obtain ⟨i027, hi027, _, hsz27, _⟩ := info_parts info3
      have hcut27 := cut_to (P := Tryd.prog) 45 3 .i64 Tryd.underlying45 hi027 (some ad232) x7_1.length co26 (ji12) (dq) q27 (Kd.zf HO_7.out).2.1
      have hr27 := Kd.R_take (m := ((ji12) : Int).toNat) HO_7.out (by omega)
      have hy27 : y233.length = ((ji12) : Int).toNat := (by rw [Ny233.out, List.length_take]; omega)
      rw [← Ny233.out] at hr27
      rw [← hy27] at hr27 hcut27
      clear hy27 hi027 hsz27 HO_7
      have HO235 := zb.mk hr27
      clear hr27
      replace q27 := eq_true q27
      obtain ⟨Ao28, co28, eo28⟩ := Kd.zw HO_6.out
      subst eo28
      have p236 : 0 ≤ ((rd x7_1 (ji12)) : Int) := dq
      have q236 : (rd x7_1 (ji12)) < (x6_1.length : Int) := dq
      obtain ⟨ad236, e236, hx236_0⟩ := Kd.je (Kd.zf HO_6.out).2.2 (rd x7_1 (ji12)) p236 q236
      (try rw [← Nbq18.out] at hx236_0)
      cases e236
      replace p236 := eq_true p236
      replace q236 := eq_true q236
      have p23 : 0 ≤ ((rd x7_1 (ji12)) : Int) := dq
      have q23 : ((rd x7_1 (ji12)) : Int) < ((x6_1.length : Int) : Int) := dq
      obtain ⟨go23, co23, eo23, gb23, gl23, cl23, HG23⟩ := Kd.xR HO_6.out (by omega)
      (cases eo23)
      have GB23 := zb.mk gb23
      have GG23 := zb.mk HG23
      clear gb23 gl23 HG23
      (simp only [add_plain] at hx236_0)
      obtain ⟨hx23_0, hf23_0⟩ := Kd.xG false HO_6.out ((rd x7_1 (ji12)) : Int) p23 q23
      replace p23 := eq_true p23
      replace q23 := eq_true q23
      have HP29 := Kd.jL HO_6.out ((rd x7_1 (ji12)) : Int) true
      go_wp2_with (first | ((with_reducible refine zM (t := 4) (p := 42) rfl ?_); refine zB (t := 4) (p := 42) (v := ?vo_w30) (w1 := (wr.setCell ⟨go23, ((rd x7_1 (ji12)) : Int).toNat, none⟩ (.bool true))) ?hg ?ho ?hn ?hr ?_; (case ho => rfl); (case hg => rfl); (case hn => rfl); (case hr => (go_simp; done)); intro w30 hw; have hg : wr.grownBy w30 (some go23) := (by rw [hw]; exact HP29.2); have hp_ : Kd.R Kd.bool 4 w30 w.heap.size (fun _ => True) (.slice (some ⟨go23, 0, none⟩) x6_1.length co28) y237 := (by rw [hw, Ny237.out]; exact HP29.1); clear HP29; replace HO235 := zb.mk (Kd.R_over' (v := (.slice (some ⟨go23, 0, none⟩) x6_1.length co28)) (Kd.rx HO235.out) (Kd.R_typed HO_6.out) (by decide) hg); replace HO_6 := zb.mk (hp_); replace HB := zb.mk ((by rw [hw]; exact zz (HB.out) GB23.out : Below w.heap.size w w30)); clear hg hw hp_) | ((with_reducible refine zc (f := 30) rfl ?_); refine zh (some 46) rfl rfl Tryd.func30 (by kernel_rfl) rfl #[.slice A0 l0.length c0, .int .i64 (rd x7_1 (ji12))] rfl (by (try simp only [List.map_toArray, List.map_cons, List.map_nil]); rfl) ?_; (with_reducible refine (xg.calls k1 _ _ l0 (rd x7_1 (ji12)) t238 _ ?side3 ?side1 ?side2 A24.out).mono ?_); (case side1 => exact Kd.cx (Kd.zF HR0.out HB.out)); (case side2 => exact HC0.out); (case side3 => exact gb HG HB); rintro e w31 ⟨v239, rfl, ho0, hb⟩; refine ⟨_, rfl, ?_⟩; replace HO_6 := Kd.rbl HO_6 hb; have HO240 := zb.mk (Kd.rlo (Kd.zu ho0 (Kd.qg (Kd.rx HO235.out))) HB); replace HO235 := Kd.eld HO235 ho0 hb; replace HB := bst HB hb; (try clear hb); (try clear ho0); obtain ⟨Ao33, co33, eo33⟩ := Kd.zw HO240.out; subst eo33) | ((with_reducible refine qu (b := .append) (xs := #[.tmp 43, .tmp 46]) rfl ?_); at_builtin; refine Kd.jI (Kd.int .i64) (w0 := w) w.heap.size rfl (.tmp 43) (.tmp 46) 45 3 (.int .i64 0) 8 rfl Tryd.underlying45 info3 rfl (by decide) (by omega) (.slice (some ad232) y233.length co26) y233 t238 _ _ _ (fun k_ => some k_ ≠ (.slice Ao33 t238.length co33 : Value).ownBlock) (fun _ => False) rfl rfl ?aO ?aR (fun _ _ h => h) (fun _ h => h.elim) ?aF ?aB ?aS ?aL ?_; (case aR => repeat (exact (Kd.zf HO240.out).2.2)); (case aB => exact (bl HB.out)); (case aF => exact (fun k_ hk => Kd.fresh' (Kd.qg (Kd.rx HO240.out)) k_ hk)); (case aO => exact (Kd.rx (Kd.zH HO235.out (fun _ hk => hk.2)))); (case aS => exact (zj (bl HB.out))); (case aL => have := LMc25.out; omega); intro v242 w32 ho hb hg hat; rw [← Ny241.out] at ho; replace HO_6 := zb.mk (Kd.R_over' (Kd.rx HO_6.out) (Kd.R_typed (Kd.rx HO235.out)) (by decide) hg); replace HO240 := zb.mk (Kd.R_after (ok := (fun _ => True)) (Kd.rx HO240.out) hg hat); replace HB := zb.mk (hb); have HO243 := zb.mk (ho); clear HO235; clear ho hb hg hat))
      go_roundg k1
      case measure => have := HK1.out; omega
      case rel => exact ⟨(y237), (y241), H', ⟨by have := HK1.out; omega⟩, ⟨Kd.rx HO_6.out⟩, ⟨Kd.rx (Kd.zH HO243.out (fun _ hk => trivial))⟩, ⟨bl HB.out⟩⟩
    ·rw [if_neg c11] at H
     have c11b0 := decide_eq_false c11
     have c11b1 : decide (0 < x7_1.length) = false := decide_eq_false (by omega)
     clear c11
     simp only [Option.some.injEq, Prod.mk.injEq] at H
     obtain ⟨rfl, rfl⟩ := H
     obtain ⟨Ao34, co34, eo34⟩ := Kd.zw HO_7.out
     subst eo34
     go_wp2
     go_ret2
     exact ⟨_, eq1, Kd.rx HO_6.out, bl HB.out⟩
 ·rw [if_neg c3] at H
  have c3b0 := beq_eq_false_iff_ne.mpr c3
  have c3b1 := bne_iff_ne.mpr c3
  simp only [Option.some.injEq, Prod.mk.injEq] at H
  obtain ⟨rfl, rfl⟩ := H
  go_enter Tryd.func12, Tryd.ntmps12
  go_wp2_with (((with_reducible refine zc (f := 29) rfl ?_); refine zh (some 11) rfl rfl Tryd.func29 (by kernel_rfl) rfl #[.slice A0 l0.length c0] rfl hq ?_; (with_reducible refine (zC.calls k _ _ l0 t224 t225 _ ?side3 ?side1 ?side2 A2.out).mono ?_); (case side1 => exact Kd.cx HR0.out); (case side2 => exact HC0.out); (case side3 => exact gb HG HB); rintro e w35 ⟨rfl, hb⟩; refine ⟨_, rfl, ?_⟩; replace HB := bst HB hb; (try clear hb)))
  go_ret2
  exact ⟨_, eq1, by exact Kd.ji _ _ _ _ _, bl HB.out⟩
def jk.f (a0 : Int) : Option (Bool) := if a0 = 4 then (some true) else (if a0 = 5 then (some true) else (if a0 = 6 then (some true) else (if a0 = 8 then (some true) else (if a0 = 9 then (some true) else (if a0 = 10 then (some true) else (if a0 = 11 then (some true) else (if a0 = 14 then (some true) else (if a0 = 15 then (some true) else (some false)))))))))
theorem jk.calls (a0 : Int) (r : Bool) (w : World) (hG : GW w) (h : jk.f a0 = some r) :
  Calls Tryd.prog 46 #[.int .i64 a0] w fun e w' => e = .returned (.bool r) ∧ zi w w' := by
 have HG := zb.mk hG
 clear hG
 have H : (if a0 = 4 then (some true) else (if a0 = 5 then (some true) else (if a0 = 6 then (some true) else (if a0 = 8 then (some true) else (if a0 = 9 then (some true) else (if a0 = 10 then (some true) else (if a0 = 11 then (some true) else (if a0 = 14 then (some true) else (if a0 = 15 then (some true) else (some false)))))))))) = some r := h
 clear h
 by_cases c2 : a0 = 4
 ·rw [if_pos c2] at H
  have c2b0 := beq_iff_eq.mpr c2
  have c2b1 := bne_eq_false_iff_eq.mpr c2
  clear c2
  obtain rfl := Option.some.inj H
  go_enter Tryd.func46, Tryd.ntmps46
  go_wp2
  go_ret
  exact ⟨eq0, by repeat (exact zi.refl _)⟩
 ·rw [if_neg c2] at H
  have c2b0 := beq_eq_false_iff_ne.mpr c2
  have c2b1 := bne_iff_ne.mpr c2
  by_cases c3 : a0 = 5
  ·rw [if_pos c3] at H
   have c3b0 := beq_iff_eq.mpr c3
   have c3b1 := bne_eq_false_iff_eq.mpr c3
   clear c3
   obtain rfl := Option.some.inj H
   go_enter Tryd.func46, Tryd.ntmps46
   go_wp2
   go_ret
   exact ⟨eq0, by repeat (exact zi.refl _)⟩
  ·rw [if_neg c3] at H
   have c3b0 := beq_eq_false_iff_ne.mpr c3
   have c3b1 := bne_iff_ne.mpr c3
   by_cases c4 : a0 = 6
   ·rw [if_pos c4] at H
    have c4b0 := beq_iff_eq.mpr c4
    have c4b1 := bne_eq_false_iff_eq.mpr c4
    clear c4
    obtain rfl := Option.some.inj H
    go_enter Tryd.func46, Tryd.ntmps46
    go_wp2
    go_ret
    exact ⟨eq0, by repeat (exact zi.refl _)⟩
   ·rw [if_neg c4] at H
    have c4b0 := beq_eq_false_iff_ne.mpr c4
    have c4b1 := bne_iff_ne.mpr c4
    by_cases c5 : a0 = 8
    ·rw [if_pos c5] at H
     have c5b0 := beq_iff_eq.mpr c5
     have c5b1 := bne_eq_false_iff_eq.mpr c5
     clear c5
     obtain rfl := Option.some.inj H
     go_enter Tryd.func46, Tryd.ntmps46
     go_wp2
     go_ret
     exact ⟨eq0, by repeat (exact zi.refl _)⟩
    ·rw [if_neg c5] at H
     have c5b0 := beq_eq_false_iff_ne.mpr c5
     have c5b1 := bne_iff_ne.mpr c5
     by_cases c6 : a0 = 9
     ·rw [if_pos c6] at H
      have c6b0 := beq_iff_eq.mpr c6
      have c6b1 := bne_eq_false_iff_eq.mpr c6
      clear c6
      obtain rfl := Option.some.inj H
      go_enter Tryd.func46, Tryd.ntmps46
      go_wp2
      go_ret
      exact ⟨eq0, by repeat (exact zi.refl _)⟩
     ·rw [if_neg c6] at H
      have c6b0 := beq_eq_false_iff_ne.mpr c6
      have c6b1 := bne_iff_ne.mpr c6
      by_cases c7 : a0 = 10
      ·rw [if_pos c7] at H
       have c7b0 := beq_iff_eq.mpr c7
       have c7b1 := bne_eq_false_iff_eq.mpr c7
       clear c7
       obtain rfl := Option.some.inj H
       go_enter Tryd.func46, Tryd.ntmps46
       go_wp2
       go_ret
       exact ⟨eq0, by repeat (exact zi.refl _)⟩
      ·rw [if_neg c7] at H
       have c7b0 := beq_eq_false_iff_ne.mpr c7
       have c7b1 := bne_iff_ne.mpr c7
       by_cases c8 : a0 = 11
       ·rw [if_pos c8] at H
        have c8b0 := beq_iff_eq.mpr c8
        have c8b1 := bne_eq_false_iff_eq.mpr c8
        clear c8
        obtain rfl := Option.some.inj H
        go_enter Tryd.func46, Tryd.ntmps46
        go_wp2
        go_ret
        exact ⟨eq0, by repeat (exact zi.refl _)⟩
       ·rw [if_neg c8] at H
        have c8b0 := beq_eq_false_iff_ne.mpr c8
        have c8b1 := bne_iff_ne.mpr c8
        by_cases c9 : a0 = 14
        ·rw [if_pos c9] at H
         have c9b0 := beq_iff_eq.mpr c9
         have c9b1 := bne_eq_false_iff_eq.mpr c9
         clear c9
         obtain rfl := Option.some.inj H
         go_enter Tryd.func46, Tryd.ntmps46
         go_wp2
         go_ret
         exact ⟨eq0, by repeat (exact zi.refl _)⟩
        ·rw [if_neg c9] at H
         have c9b0 := beq_eq_false_iff_ne.mpr c9
         have c9b1 := bne_iff_ne.mpr c9
         by_cases c10 : a0 = 15
         ·rw [if_pos c10] at H
          have c10b0 := beq_iff_eq.mpr c10
          have c10b1 := bne_eq_false_iff_eq.mpr c10
          clear c10
          obtain rfl := Option.some.inj H
          go_enter Tryd.func46, Tryd.ntmps46
          go_wp2
          go_ret
          exact ⟨eq0, by repeat (exact zi.refl _)⟩
         ·rw [if_neg c10] at H
          have c10b0 := beq_eq_false_iff_ne.mpr c10
          have c10b1 := bne_iff_ne.mpr c10
          obtain rfl := Option.some.inj H
          go_enter Tryd.func46, Tryd.ntmps46
          go_wp2
          go_ret
          exact ⟨eq0, by repeat (exact zi.refl _)⟩
end Go.Proofs.YtnpeabmlcakegaaDoor.PAll
