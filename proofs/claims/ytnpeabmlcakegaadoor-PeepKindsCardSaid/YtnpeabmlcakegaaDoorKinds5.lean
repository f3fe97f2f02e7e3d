/- Part 5 of the proof: words, walks and plain laws that the statement's own text (YtnpeabmlcakegaaDoorKinds) uses. No condition of its own. -/
import Derived.Test.YtnpeabmlcakegaaDoorKinds4
namespace Go.Proofs.YtnpeabmlcakegaaDoor.PPeepKinds
open Go.RowKit Go.Proofs.YtnpeabmlcakegaaDoorW.PrintWords Go.Proofs.YtnpeabmlcakegaaDoorW.PrintLast Go.Proofs.YtnpeabmlcakegaaDoorW.PrintMore
attribute [local go_sem] cell_drewN_set cell_drew_set cell_set_set max2_int min2_int max_two min_two max_three min_three max_four min_four   -- for this text's walks alone
set_option linter.unusedVariables false
set_option linter.unusedSimpArgs false
attribute [local go_sem high] eqA32
mutual
def harrowlaw20_PeepKinds.j0 : Nat → List (S34) → List (S34) → List (S34) → List (S34) → List Bool → Bool → Option (Bool)
 | 0, _, _, _, _, _, _ => none
 | k + 1, x0, x3, x7, x9, x11, x107 => if x107 = true then (some false) else (harrowlaw20_PeepKinds.l0 k x0 x3 x7 x9 x11 0 0 0)
def harrowlaw20_PeepKinds.l0 : Nat → List (S34) → List (S34) → List (S34) → List (S34) → List Bool → Int → Int → Int → Option (Bool)
 | 0, _, _, _, _, _, _, _, _ => none
 | k + 1, x0, x3, x7, x9, x11, x13, x14, x15 => if x15 < (x0.length : Int) then (if 0 ≤ x15 then (if x15 < (x11.length : Int) then (if rdOf false x11 x15 = true then (if x13 ≥ (x7.length : Int) then (some false) else (if 0 ≤ x13 then (if x13 < (x7.length : Int) then (if ((rd_T34 x7 x13).f0) = ((rd_T34 x0 x15).f0) then (if (!(((rd_T34 x7 x13).f5.f0) == ((rd_T34 x0 x15).f5.f0)) || (!(((rd_T34 x7 x13).f5.f1) == ((rd_T34 x0 x15).f5.f1)) || (!(((rd_T34 x7 x13).f5.f2) == ((rd_T34 x0 x15).f5.f2)) || (!(((rd_T34 x7 x13).f5.f3) == ((rd_T34 x0 x15).f5.f3)))))) = true then (some false) else (if ((rd_T34 x7 x13).f4).toList = ((rd_T34 x0 x15).f4).toList then (harrowlaw20_PeepKinds.j2 k x0 x3 x7 x9 x11 (wrap64 (x13 + 1)) x14 x15) else (some false))) else (some false)) else (none)) else (none))) else (harrowlaw20_PeepKinds.j2 k x0 x3 x7 x9 x11 x13 x14 x15)) else (none)) else (none)) else (if x13 = (x7.length : Int) then (if x14 = (x9.length : Int) then ((harrowlaw20_lives.f k).bind fun t383 => (some t383)) else (some false)) else (some false))
def harrowlaw20_PeepKinds.j2 : Nat → List (S34) → List (S34) → List (S34) → List (S34) → List Bool → Int → Int → Int → Option (Bool)
 | 0, _, _, _, _, _, _, _, _ => none
 | k + 1, x0, x3, x7, x9, x11, x13, x14, x15 => if 0 ≤ x15 then (if x15 < (x0.length : Int) then (if ((rd_T34 x0 x15).f0) = 14 then (harrowlaw20_PeepKinds.j3 k x0 x3 x7 x9 x11 x13 x14 x15 (((rd_T34 x0 x15).f1) != 1)) else (harrowlaw20_PeepKinds.j3 k x0 x3 x7 x9 x11 x13 x14 x15 true)) else (none)) else (none)
def harrowlaw20_PeepKinds.j3 : Nat → List (S34) → List (S34) → List (S34) → List (S34) → List Bool → Int → Int → Int → Bool → Option (Bool)
 | 0, _, _, _, _, _, _, _, _, _ => none
 | k + 1, x0, x3, x7, x9, x11, x13, x14, x15, x176 => if x176 = true then (if x14 ≥ (x9.length : Int) then (harrowlaw20_PeepKinds.j4 k x0 x3 x7 x9 x11 x13 x14 x15 true) else (if 0 ≤ x14 then (if x14 < (x9.length : Int) then (if 0 ≤ x15 then (if x15 < (x0.length : Int) then (if ((rd_T34 x9 x14).f0) = ((rd_T34 x0 x15).f0) then (if ((rd_T34 x9 x14).f2) = ((rd_T34 x0 x15).f2) then (harrowlaw20_PeepKinds.j4 k x0 x3 x7 x9 x11 x13 x14 x15 (((rd_T34 x9 x14).f3) != ((rd_T34 x0 x15).f3))) else (harrowlaw20_PeepKinds.j4 k x0 x3 x7 x9 x11 x13 x14 x15 true)) else (harrowlaw20_PeepKinds.j4 k x0 x3 x7 x9 x11 x13 x14 x15 true)) else (none)) else (none)) else (none)) else (none))) else (if 0 ≤ x15 then (if x15 < (x3.length : Int) then (if x15 < (x0.length : Int) then (if ((rd_T34 x3 x15).f0) = ((rd_T34 x0 x15).f0) then (harrowlaw20_PeepKinds.l0 k x0 x3 x7 x9 x11 x13 x14 (wrap64 (x15 + 1))) else (if ((rd_T34 x0 x15).f0) = 15 then (if ((rd_T34 x3 x15).f0) = 14 then (if (((rd_T34 x3 x15).f1) = ((rd_T34 x0 x15).f1)) then (harrowlaw20_PeepKinds.l0 k x0 x3 x7 x9 x11 x13 x14 (wrap64 (x15 + 1))) else (some false)) else (some false)) else (some false))) else (none)) else (none)) else (none))
def harrowlaw20_PeepKinds.j4 : Nat → List (S34) → List (S34) → List (S34) → List (S34) → List Bool → Int → Int → Int → Bool → Option (Bool)
 | 0, _, _, _, _, _, _, _, _, _ => none
 | k + 1, x0, x3, x7, x9, x11, x13, x14, x15, x219 => if x219 = true then (some false) else (if 0 ≤ x15 then (if x15 < (x3.length : Int) then (if x15 < (x0.length : Int) then (if ((rd_T34 x3 x15).f0) = ((rd_T34 x0 x15).f0) then (harrowlaw20_PeepKinds.l0 k x0 x3 x7 x9 x11 x13 (wrap64 (x14 + 1)) (wrap64 (x15 + 1))) else (if ((rd_T34 x0 x15).f0) = 15 then (if ((rd_T34 x3 x15).f0) = 14 then (if (((rd_T34 x3 x15).f1) = ((rd_T34 x0 x15).f1)) then (harrowlaw20_PeepKinds.l0 k x0 x3 x7 x9 x11 x13 (wrap64 (x14 + 1)) (wrap64 (x15 + 1))) else (some false)) else (some false)) else (some false))) else (none)) else (none)) else (none))
end
def harrowlaw20_PeepKinds.f (k : Nat) (l0 : List (S34)) : Option (Bool) := (peep_Tails.f k l0).bind fun bt362 => ((peep_Threads.f k l0).bind fun bt366 => ((peep_Dead.f k l0).bind fun bt370 => ((peep_Hops.f k l0).bind fun bt374 => (if bt362.2 = 0 then ((instr_Live.f k l0).bind fun bt379 => (if bt366.2 = 0 then (if bt370.2 = 0 then (if bt374.2 = 0 then (if bt379.2 = 0 then (if (bt362.1.length : Int) = (l0.length : Int) then (if (bt366.1.length : Int) = (l0.length : Int) then (harrowlaw20_PeepKinds.j0 k l0 bt362.1 bt370.1 bt374.1 bt379.1 ((bt379.1.length : Int) != (l0.length : Int))) else (harrowlaw20_PeepKinds.j0 k l0 bt362.1 bt370.1 bt374.1 bt379.1 true)) else (harrowlaw20_PeepKinds.j0 k l0 bt362.1 bt370.1 bt374.1 bt379.1 true)) else (harrowlaw20_PeepKinds.j0 k l0 bt362.1 bt370.1 bt374.1 bt379.1 true)) else (harrowlaw20_PeepKinds.j0 k l0 bt362.1 bt370.1 bt374.1 bt379.1 true)) else (harrowlaw20_PeepKinds.j0 k l0 bt362.1 bt370.1 bt374.1 bt379.1 true)) else (harrowlaw20_PeepKinds.j0 k l0 bt362.1 bt370.1 bt374.1 bt379.1 true))) else ((harrowlaw20_lives.f k).bind fun t378 => (if t378 = true then (if bt366.2 = bt362.2 then (if bt370.2 = bt362.2 then (if bt374.2 = bt362.2 then (some ((wrap64 ((wrap64 ((wrap64 ((bt362.1.length : Int) + (bt366.1.length : Int))) + (bt370.1.length : Int))) + (bt374.1.length : Int))) == 0)) else (some false)) else (some false)) else (some false)) else (some false)))))))
theorem harrowlaw20_PeepKinds.mono_l : ∀ k, (∀ y0 y1 y2 y3 y4 y5, LeO (harrowlaw20_PeepKinds.j0 k y0 y1 y2 y3 y4 y5) (harrowlaw20_PeepKinds.j0 (k + 1) y0 y1 y2 y3 y4 y5)) ∧ (∀ y0 y1 y2 y3 y4 y5 y6 y7, LeO (harrowlaw20_PeepKinds.l0 k y0 y1 y2 y3 y4 y5 y6 y7) (harrowlaw20_PeepKinds.l0 (k + 1) y0 y1 y2 y3 y4 y5 y6 y7)) ∧ (∀ y0 y1 y2 y3 y4 y5 y6 y7, LeO (harrowlaw20_PeepKinds.j2 k y0 y1 y2 y3 y4 y5 y6 y7) (harrowlaw20_PeepKinds.j2 (k + 1) y0 y1 y2 y3 y4 y5 y6 y7)) ∧ (∀ y0 y1 y2 y3 y4 y5 y6 y7 y8, LeO (harrowlaw20_PeepKinds.j3 k y0 y1 y2 y3 y4 y5 y6 y7 y8) (harrowlaw20_PeepKinds.j3 (k + 1) y0 y1 y2 y3 y4 y5 y6 y7 y8)) ∧ (∀ y0 y1 y2 y3 y4 y5 y6 y7 y8, LeO (harrowlaw20_PeepKinds.j4 k y0 y1 y2 y3 y4 y5 y6 y7 y8) (harrowlaw20_PeepKinds.j4 (k + 1) y0 y1 y2 y3 y4 y5 y6 y7 y8))
 | 0 => ⟨fun _ _ _ _ _ _ r h => by simp [harrowlaw20_PeepKinds.j0] at h, fun _ _ _ _ _ _ _ _ r h => by simp [harrowlaw20_PeepKinds.l0] at h, fun _ _ _ _ _ _ _ _ r h => by simp [harrowlaw20_PeepKinds.j2] at h, fun _ _ _ _ _ _ _ _ _ r h => by simp [harrowlaw20_PeepKinds.j3] at h, fun _ _ _ _ _ _ _ _ _ r h => by simp [harrowlaw20_PeepKinds.j4] at h⟩
 | k + 1 => by
  obtain ⟨ih0, ih1, ih2, ih3, ih4⟩ := harrowlaw20_PeepKinds.mono_l k
  refine ⟨?_, ?_, ?_, ?_, ?_⟩
  ·intro y0 y1 y2 y3 y4 y5
   unfold harrowlaw20_PeepKinds.j0
   repeat' first
   | (with_reducible exact ih0 _ _ _ _ _ _)
   | (with_reducible exact ih1 _ _ _ _ _ _ _ _)
   | (with_reducible exact ih2 _ _ _ _ _ _ _ _)
   | (with_reducible exact ih3 _ _ _ _ _ _ _ _ _)
   | (with_reducible exact ih4 _ _ _ _ _ _ _ _ _)
   | (with_reducible exact harrowlaw20_lives.mono _)
   | (with_reducible exact instr_Live.mono _ _)
   | (with_reducible exact peep_Dead.mono _ _)
   | (with_reducible exact peep_Hops.mono _ _)
   | (with_reducible exact peep_Tails.mono _ _)
   | (with_reducible exact peep_Threads.mono _ _)
   | (with_reducible exact LeO.refl _)
   | (with_reducible exact LeO.none _)
   | (with_reducible refine LeO.ite ?_ ?_)
   | (with_reducible refine LeO.bind ?_ (fun _ => ?_))
   | exact ih0 _ _ _ _ _ _
   | exact ih1 _ _ _ _ _ _ _ _
   | exact ih2 _ _ _ _ _ _ _ _
   | exact ih3 _ _ _ _ _ _ _ _ _
   | exact ih4 _ _ _ _ _ _ _ _ _
   | exact harrowlaw20_lives.mono _
   | exact instr_Live.mono _ _
   | exact peep_Dead.mono _ _
   | exact peep_Hops.mono _ _
   | exact peep_Tails.mono _ _
   | exact peep_Threads.mono _ _
   | exact LeO.none _
   | refine LeO.ite ?_ ?_
   | refine LeO.bind ?_ (fun _ => ?_)
  ·intro y0 y1 y2 y3 y4 y5 y6 y7
   unfold harrowlaw20_PeepKinds.l0
   repeat' first
   | (with_reducible exact ih0 _ _ _ _ _ _)
   | (with_reducible exact ih1 _ _ _ _ _ _ _ _)
   | (with_reducible exact ih2 _ _ _ _ _ _ _ _)
   | (with_reducible exact ih3 _ _ _ _ _ _ _ _ _)
   | (with_reducible exact ih4 _ _ _ _ _ _ _ _ _)
   | (with_reducible exact harrowlaw20_lives.mono _)
   | (with_reducible exact instr_Live.mono _ _)
   | (with_reducible exact peep_Dead.mono _ _)
   | (with_reducible exact peep_Hops.mono _ _)
   | (with_reducible exact peep_Tails.mono _ _)
   | (with_reducible exact peep_Threads.mono _ _)
   | (with_reducible exact LeO.refl _)
   | (with_reducible exact LeO.none _)
   | (with_reducible refine LeO.ite ?_ ?_)
   | (with_reducible refine LeO.bind ?_ (fun _ => ?_))
   | exact ih0 _ _ _ _ _ _
   | exact ih1 _ _ _ _ _ _ _ _
   | exact ih2 _ _ _ _ _ _ _ _
   | exact ih3 _ _ _ _ _ _ _ _ _
   | exact ih4 _ _ _ _ _ _ _ _ _
   | exact harrowlaw20_lives.mono _
   | exact instr_Live.mono _ _
   | exact peep_Dead.mono _ _
   | exact peep_Hops.mono _ _
   | exact peep_Tails.mono _ _
   | exact peep_Threads.mono _ _
   | exact LeO.none _
   | refine LeO.ite ?_ ?_
   | refine LeO.bind ?_ (fun _ => ?_)
  ·intro y0 y1 y2 y3 y4 y5 y6 y7
   unfold harrowlaw20_PeepKinds.j2
   repeat' first
   | (with_reducible exact ih0 _ _ _ _ _ _)
   | (with_reducible exact ih1 _ _ _ _ _ _ _ _)
   | (with_reducible exact ih2 _ _ _ _ _ _ _ _)
   | (with_reducible exact ih3 _ _ _ _ _ _ _ _ _)
   | (with_reducible exact ih4 _ _ _ _ _ _ _ _ _)
   | (with_reducible exact harrowlaw20_lives.mono _)
   | (with_reducible exact instr_Live.mono _ _)
   | (with_reducible exact peep_Dead.mono _ _)
   | (with_reducible exact peep_Hops.mono _ _)
   | (with_reducible exact peep_Tails.mono _ _)
   | (with_reducible exact peep_Threads.mono _ _)
   | (with_reducible exact LeO.refl _)
   | (with_reducible exact LeO.none _)
   | (with_reducible refine LeO.ite ?_ ?_)
   | (with_reducible refine LeO.bind ?_ (fun _ => ?_))
   | exact ih0 _ _ _ _ _ _
   | exact ih1 _ _ _ _ _ _ _ _
   | exact ih2 _ _ _ _ _ _ _ _
   | exact ih3 _ _ _ _ _ _ _ _ _
   | exact ih4 _ _ _ _ _ _ _ _ _
   | exact harrowlaw20_lives.mono _
   | exact instr_Live.mono _ _
   | exact peep_Dead.mono _ _
   | exact peep_Hops.mono _ _
   | exact peep_Tails.mono _ _
   | exact peep_Threads.mono _ _
   | exact LeO.none _
   | refine LeO.ite ?_ ?_
   | refine LeO.bind ?_ (fun _ => ?_)
  ·intro y0 y1 y2 y3 y4 y5 y6 y7 y8
   unfold harrowlaw20_PeepKinds.j3
   repeat' first
   | (with_reducible exact ih0 _ _ _ _ _ _)
   | (with_reducible exact ih1 _ _ _ _ _ _ _ _)
   | (with_reducible exact ih2 _ _ _ _ _ _ _ _)
   | (with_reducible exact ih3 _ _ _ _ _ _ _ _ _)
   | (with_reducible exact ih4 _ _ _ _ _ _ _ _ _)
   | (with_reducible exact harrowlaw20_lives.mono _)
   | (with_reducible exact instr_Live.mono _ _)
   | (with_reducible exact peep_Dead.mono _ _)
   | (with_reducible exact peep_Hops.mono _ _)
   | (with_reducible exact peep_Tails.mono _ _)
   | (with_reducible exact peep_Threads.mono _ _)
   | (with_reducible exact LeO.refl _)
   | (with_reducible exact LeO.none _)
   | (with_reducible refine LeO.ite ?_ ?_)
   | (with_reducible refine LeO.bind ?_ (fun _ => ?_))
   | exact ih0 _ _ _ _ _ _
   | exact ih1 _ _ _ _ _ _ _ _
   | exact ih2 _ _ _ _ _ _ _ _
   | exact ih3 _ _ _ _ _ _ _ _ _
   | exact ih4 _ _ _ _ _ _ _ _ _
   | exact harrowlaw20_lives.mono _
   | exact instr_Live.mono _ _
   | exact peep_Dead.mono _ _
   | exact peep_Hops.mono _ _
   | exact peep_Tails.mono _ _
   | exact peep_Threads.mono _ _
   | exact LeO.none _
   | refine LeO.ite ?_ ?_
   | refine LeO.bind ?_ (fun _ => ?_)
  ·intro y0 y1 y2 y3 y4 y5 y6 y7 y8
   unfold harrowlaw20_PeepKinds.j4
   repeat' first
   | (with_reducible exact ih0 _ _ _ _ _ _)
   | (with_reducible exact ih1 _ _ _ _ _ _ _ _)
   | (with_reducible exact ih2 _ _ _ _ _ _ _ _)
   | (with_reducible exact ih3 _ _ _ _ _ _ _ _ _)
   | (with_reducible exact ih4 _ _ _ _ _ _ _ _ _)
   | (with_reducible exact harrowlaw20_lives.mono _)
   | (with_reducible exact instr_Live.mono _ _)
   | (with_reducible exact peep_Dead.mono _ _)
   | (with_reducible exact peep_Hops.mono _ _)
   | (with_reducible exact peep_Tails.mono _ _)
   | (with_reducible exact peep_Threads.mono _ _)
   | (with_reducible exact LeO.refl _)
   | (with_reducible exact LeO.none _)
   | (with_reducible refine LeO.ite ?_ ?_)
   | (with_reducible refine LeO.bind ?_ (fun _ => ?_))
   | exact ih0 _ _ _ _ _ _
   | exact ih1 _ _ _ _ _ _ _ _
   | exact ih2 _ _ _ _ _ _ _ _
   | exact ih3 _ _ _ _ _ _ _ _ _
   | exact ih4 _ _ _ _ _ _ _ _ _
   | exact harrowlaw20_lives.mono _
   | exact instr_Live.mono _ _
   | exact peep_Dead.mono _ _
   | exact peep_Hops.mono _ _
   | exact peep_Tails.mono _ _
   | exact peep_Threads.mono _ _
   | exact LeO.none _
   | refine LeO.ite ?_ ?_
   | refine LeO.bind ?_ (fun _ => ?_)
theorem harrowlaw20_PeepKinds.mono : ∀ a0 k, LeO (harrowlaw20_PeepKinds.f k a0) (harrowlaw20_PeepKinds.f (k + 1) a0) := by
 intro a0 k
 obtain ⟨ih0, ih1, ih2, ih3, ih4⟩ := harrowlaw20_PeepKinds.mono_l k
 unfold harrowlaw20_PeepKinds.f
 repeat' first
   | (with_reducible exact ih0 _ _ _ _ _ _)
   | (with_reducible exact ih1 _ _ _ _ _ _ _ _)
   | (with_reducible exact ih2 _ _ _ _ _ _ _ _)
   | (with_reducible exact ih3 _ _ _ _ _ _ _ _ _)
   | (with_reducible exact ih4 _ _ _ _ _ _ _ _ _)
   | (with_reducible exact harrowlaw20_lives.mono _)
   | (with_reducible exact instr_Live.mono _ _)
   | (with_reducible exact peep_Dead.mono _ _)
   | (with_reducible exact peep_Hops.mono _ _)
   | (with_reducible exact peep_Tails.mono _ _)
   | (with_reducible exact peep_Threads.mono _ _)
   | (with_reducible exact LeO.refl _)
   | (with_reducible exact LeO.none _)
   | (with_reducible refine LeO.ite ?_ ?_)
   | (with_reducible refine LeO.bind ?_ (fun _ => ?_))
   | exact ih0 _ _ _ _ _ _
   | exact ih1 _ _ _ _ _ _ _ _
   | exact ih2 _ _ _ _ _ _ _ _
   | exact ih3 _ _ _ _ _ _ _ _ _
   | exact ih4 _ _ _ _ _ _ _ _ _
   | exact harrowlaw20_lives.mono _
   | exact instr_Live.mono _ _
   | exact peep_Dead.mono _ _
   | exact peep_Hops.mono _ _
   | exact peep_Tails.mono _ _
   | exact peep_Threads.mono _ _
   | exact LeO.none _
   | refine LeO.ite ?_ ?_
   | refine LeO.bind ?_ (fun _ => ?_)
set_option maxHeartbeats 8000000 in
set_option maxRecDepth 100000 in
theorem harrowlaw20_PeepKinds.calls (k : Nat) (A0 : Option Addr) (c0 : Nat) (l0 : List (S34)) (r : Bool) (w : World) (hG : GW w) (hr0 : Kd.C k34 w A0 l0.length l0) (hc0 : l0.length ≤ c0) (h : harrowlaw20_PeepKinds.f k l0 = some r) :
  Calls Tryd.prog 3 #[.slice A0 l0.length c0] w fun e w' => e = .returned (.bool r) ∧ Below w.heap.size w w' := by
 have hu32 := Tryd.underlying32
 have HR0 := Aside0.mk hr0
 have HC0 := Aside0.mk hc0
 clear hr0 hc0
 have HG := Aside0.mk hG
 clear hG
 have HB := Aside0.mk (Below.refl w.heap.size w)
 have H : ((peep_Tails.f k l0).bind fun bt362 => ((peep_Threads.f k l0).bind fun bt366 => ((peep_Dead.f k l0).bind fun bt370 => ((peep_Hops.f k l0).bind fun bt374 => (if bt362.2 = 0 then ((instr_Live.f k l0).bind fun bt379 => (if bt366.2 = 0 then (if bt370.2 = 0 then (if bt374.2 = 0 then (if bt379.2 = 0 then (if (bt362.1.length : Int) = (l0.length : Int) then (if (bt366.1.length : Int) = (l0.length : Int) then (harrowlaw20_PeepKinds.j0 k l0 bt362.1 bt370.1 bt374.1 bt379.1 ((bt379.1.length : Int) != (l0.length : Int))) else (harrowlaw20_PeepKinds.j0 k l0 bt362.1 bt370.1 bt374.1 bt379.1 true)) else (harrowlaw20_PeepKinds.j0 k l0 bt362.1 bt370.1 bt374.1 bt379.1 true)) else (harrowlaw20_PeepKinds.j0 k l0 bt362.1 bt370.1 bt374.1 bt379.1 true)) else (harrowlaw20_PeepKinds.j0 k l0 bt362.1 bt370.1 bt374.1 bt379.1 true)) else (harrowlaw20_PeepKinds.j0 k l0 bt362.1 bt370.1 bt374.1 bt379.1 true)) else (harrowlaw20_PeepKinds.j0 k l0 bt362.1 bt370.1 bt374.1 bt379.1 true))) else ((harrowlaw20_lives.f k).bind fun t378 => (if t378 = true then (if bt366.2 = bt362.2 then (if bt370.2 = bt362.2 then (if bt374.2 = bt362.2 then (some ((wrap64 ((wrap64 ((wrap64 ((bt362.1.length : Int) + (bt366.1.length : Int))) + (bt370.1.length : Int))) + (bt374.1.length : Int))) == 0)) else (some false)) else (some false)) else (some false)) else (some false)))))))) = some r := h
 clear h
 replace H := bindA H; obtain ⟨⟨t362, t363⟩, A2, H⟩ := H; try dsimp only at H
 replace H := bindA H; obtain ⟨⟨t366, t367⟩, A3, H⟩ := H; try dsimp only at H
 replace H := bindA H; obtain ⟨⟨t370, t371⟩, A4, H⟩ := H; try dsimp only at H
 replace H := bindA H; obtain ⟨⟨t374, t375⟩, A5, H⟩ := H; try dsimp only at H
 by_cases c6 : t363 = 0
 ·rw [if_pos c6] at H
  have c6b0 : (t363 == 0) = true := beq_iff_eq.mpr c6
  have c6b1 : (t363 != 0) = false := bne_eq_false_iff_eq.mpr c6
  clear c6
  replace H := bindA H; obtain ⟨⟨t379, t380⟩, A7, H⟩ := H; try dsimp only at H
  have HC8 := Aside0.mk H
  clear H
  go_enter Tryd.func3, Tryd.ntmps3
  go_upto_region 8 with (first | (go_at_call 7; (with_reducible refine (peep_Tails.calls k _ _ l0 t362 t363 _ ?side3 ?side1 ?side2 A2.out).mono ?_); (case side1 => exact Kd.cx HR0.out); (case side2 => exact HC0.out); (case side3 => exact GW.below HG.out (bl HB.out)); rintro e w9 ⟨v364, rfl, ho0, hb⟩; have HO365 := Aside0.mk (Kd.R_lower ho0 (below_size (bl HB.out))); replace HB := Aside0.mk (below_step (bl HB.out) hb); (try clear hb); (try clear ho0)) | (go_at_call 8; (with_reducible refine (peep_Threads.calls k _ _ l0 t366 t367 _ ?side3 ?side1 ?side2 A3.out).mono ?_); (case side1 => exact Kd.cx (Kd.C_below HR0.out HB.out)); (case side2 => exact HC0.out); (case side3 => exact GW.below HG.out (bl HB.out)); rintro e w10 ⟨v368, rfl, ho0, hb⟩; have HO369 := Aside0.mk (Kd.R_lower (Kd.R_new' ho0 (Kd.R_lt (Kd.rx HO365.out))) (below_size (bl HB.out))); replace HO365 := Aside0.mk (Kd.R_elder' (Kd.rx HO365.out) (Kd.R_base ho0) hb); replace HB := Aside0.mk (below_step (bl HB.out) hb); (try clear hb); (try clear ho0)) | (go_at_call 9; (with_reducible refine (peep_Dead.calls k _ _ l0 t370 t371 _ ?side3 ?side1 ?side2 A4.out).mono ?_); (case side1 => exact Kd.cx (Kd.C_below HR0.out HB.out)); (case side2 => exact HC0.out); (case side3 => exact GW.below HG.out (bl HB.out)); rintro e w11 ⟨v372, rfl, ho0, hb⟩; have HO373 := Aside0.mk (Kd.R_lower (Kd.R_new' (Kd.R_new' ho0 (Kd.R_lt (Kd.rx HO365.out))) (Kd.R_lt (Kd.rx HO369.out))) (below_size (bl HB.out))); replace HO365 := Aside0.mk (Kd.R_elder' (Kd.rx HO365.out) (Kd.R_base ho0) hb); replace HO369 := Aside0.mk (Kd.R_elder' (Kd.rx HO369.out) (Kd.R_base ho0) hb); replace HB := Aside0.mk (below_step (bl HB.out) hb); (try clear hb); (try clear ho0)) | (go_at_call 10; (with_reducible refine (peep_Hops.calls k _ _ l0 t374 t375 _ ?side3 ?side1 ?side2 A5.out).mono ?_); (case side1 => exact Kd.cx (Kd.C_below HR0.out HB.out)); (case side2 => exact HC0.out); (case side3 => exact GW.below HG.out (bl HB.out)); rintro e w12 ⟨v376, rfl, ho0, hb⟩; have HO377 := Aside0.mk (Kd.R_lower (Kd.R_new' (Kd.R_new' (Kd.R_new' ho0 (Kd.R_lt (Kd.rx HO365.out))) (Kd.R_lt (Kd.rx HO369.out))) (Kd.R_lt (Kd.rx HO373.out))) (below_size (bl HB.out))); replace HO365 := Aside0.mk (Kd.R_elder' (Kd.rx HO365.out) (Kd.R_base ho0) hb); replace HO369 := Aside0.mk (Kd.R_elder' (Kd.rx HO369.out) (Kd.R_base ho0) hb); replace HO373 := Aside0.mk (Kd.R_elder' (Kd.rx HO373.out) (Kd.R_base ho0) hb); replace HB := Aside0.mk (below_step (bl HB.out) hb); (try clear hb); (try clear ho0)) | (go_at_call 12; (with_reducible refine (instr_Live.calls k _ _ l0 t379 t380 _ ?side3 ?side1 ?side2 A7.out).mono ?_); (case side1 => exact Kd.cx (Kd.C_below HR0.out HB.out)); (case side2 => exact HC0.out); (case side3 => exact GW.below HG.out (bl HB.out)); rintro e w13 ⟨v381, rfl, ho0, hb⟩; replace HO365 := Aside0.mk (Kd.R_below (Kd.rx HO365.out) hb); replace HO369 := Aside0.mk (Kd.R_below (Kd.rx HO369.out) hb); replace HO373 := Aside0.mk (Kd.R_below (Kd.rx HO373.out) hb); replace HO377 := Aside0.mk (Kd.R_below (Kd.rx HO377.out) hb); have HO382 := Aside0.mk (Kd.R_lower ho0 (below_size (bl HB.out))); replace HB := Aside0.mk (below_step (bl HB.out) hb); (try clear hb); (try clear ho0)))
  repeat (go_quiet (first | (go_at_call 7; (with_reducible refine (peep_Tails.calls k _ _ l0 t362 t363 _ ?side3 ?side1 ?side2 A2.out).mono ?_); (case side1 => exact Kd.cx HR0.out); (case side2 => exact HC0.out); (case side3 => exact GW.below HG.out (bl HB.out)); rintro e w9 ⟨v364, rfl, ho0, hb⟩; have HO365 := Aside0.mk (Kd.R_lower ho0 (below_size (bl HB.out))); replace HB := Aside0.mk (below_step (bl HB.out) hb); (try clear hb); (try clear ho0)) | (go_at_call 8; (with_reducible refine (peep_Threads.calls k _ _ l0 t366 t367 _ ?side3 ?side1 ?side2 A3.out).mono ?_); (case side1 => exact Kd.cx (Kd.C_below HR0.out HB.out)); (case side2 => exact HC0.out); (case side3 => exact GW.below HG.out (bl HB.out)); rintro e w10 ⟨v368, rfl, ho0, hb⟩; have HO369 := Aside0.mk (Kd.R_lower (Kd.R_new' ho0 (Kd.R_lt (Kd.rx HO365.out))) (below_size (bl HB.out))); replace HO365 := Aside0.mk (Kd.R_elder' (Kd.rx HO365.out) (Kd.R_base ho0) hb); replace HB := Aside0.mk (below_step (bl HB.out) hb); (try clear hb); (try clear ho0)) | (go_at_call 9; (with_reducible refine (peep_Dead.calls k _ _ l0 t370 t371 _ ?side3 ?side1 ?side2 A4.out).mono ?_); (case side1 => exact Kd.cx (Kd.C_below HR0.out HB.out)); (case side2 => exact HC0.out); (case side3 => exact GW.below HG.out (bl HB.out)); rintro e w11 ⟨v372, rfl, ho0, hb⟩; have HO373 := Aside0.mk (Kd.R_lower (Kd.R_new' (Kd.R_new' ho0 (Kd.R_lt (Kd.rx HO365.out))) (Kd.R_lt (Kd.rx HO369.out))) (below_size (bl HB.out))); replace HO365 := Aside0.mk (Kd.R_elder' (Kd.rx HO365.out) (Kd.R_base ho0) hb); replace HO369 := Aside0.mk (Kd.R_elder' (Kd.rx HO369.out) (Kd.R_base ho0) hb); replace HB := Aside0.mk (below_step (bl HB.out) hb); (try clear hb); (try clear ho0)) | (go_at_call 10; (with_reducible refine (peep_Hops.calls k _ _ l0 t374 t375 _ ?side3 ?side1 ?side2 A5.out).mono ?_); (case side1 => exact Kd.cx (Kd.C_below HR0.out HB.out)); (case side2 => exact HC0.out); (case side3 => exact GW.below HG.out (bl HB.out)); rintro e w12 ⟨v376, rfl, ho0, hb⟩; have HO377 := Aside0.mk (Kd.R_lower (Kd.R_new' (Kd.R_new' (Kd.R_new' ho0 (Kd.R_lt (Kd.rx HO365.out))) (Kd.R_lt (Kd.rx HO369.out))) (Kd.R_lt (Kd.rx HO373.out))) (below_size (bl HB.out))); replace HO365 := Aside0.mk (Kd.R_elder' (Kd.rx HO365.out) (Kd.R_base ho0) hb); replace HO369 := Aside0.mk (Kd.R_elder' (Kd.rx HO369.out) (Kd.R_base ho0) hb); replace HO373 := Aside0.mk (Kd.R_elder' (Kd.rx HO373.out) (Kd.R_base ho0) hb); replace HB := Aside0.mk (below_step (bl HB.out) hb); (try clear hb); (try clear ho0)) | (go_at_call 12; (with_reducible refine (instr_Live.calls k _ _ l0 t379 t380 _ ?side3 ?side1 ?side2 A7.out).mono ?_); (case side1 => exact Kd.cx (Kd.C_below HR0.out HB.out)); (case side2 => exact HC0.out); (case side3 => exact GW.below HG.out (bl HB.out)); rintro e w13 ⟨v381, rfl, ho0, hb⟩; replace HO365 := Aside0.mk (Kd.R_below (Kd.rx HO365.out) hb); replace HO369 := Aside0.mk (Kd.R_below (Kd.rx HO369.out) hb); replace HO373 := Aside0.mk (Kd.R_below (Kd.rx HO373.out) hb); replace HO377 := Aside0.mk (Kd.R_below (Kd.rx HO377.out) hb); have HO382 := Aside0.mk (Kd.R_lower ho0 (below_size (bl HB.out))); replace HB := Aside0.mk (below_step (bl HB.out) hb); (try clear hb); (try clear ho0))); go_upto_region 8 with (first | (go_at_call 7; (with_reducible refine (peep_Tails.calls k _ _ l0 t362 t363 _ ?side3 ?side1 ?side2 A2.out).mono ?_); (case side1 => exact Kd.cx HR0.out); (case side2 => exact HC0.out); (case side3 => exact GW.below HG.out (bl HB.out)); rintro e w9 ⟨v364, rfl, ho0, hb⟩; have HO365 := Aside0.mk (Kd.R_lower ho0 (below_size (bl HB.out))); replace HB := Aside0.mk (below_step (bl HB.out) hb); (try clear hb); (try clear ho0)) | (go_at_call 8; (with_reducible refine (peep_Threads.calls k _ _ l0 t366 t367 _ ?side3 ?side1 ?side2 A3.out).mono ?_); (case side1 => exact Kd.cx (Kd.C_below HR0.out HB.out)); (case side2 => exact HC0.out); (case side3 => exact GW.below HG.out (bl HB.out)); rintro e w10 ⟨v368, rfl, ho0, hb⟩; have HO369 := Aside0.mk (Kd.R_lower (Kd.R_new' ho0 (Kd.R_lt (Kd.rx HO365.out))) (below_size (bl HB.out))); replace HO365 := Aside0.mk (Kd.R_elder' (Kd.rx HO365.out) (Kd.R_base ho0) hb); replace HB := Aside0.mk (below_step (bl HB.out) hb); (try clear hb); (try clear ho0)) | (go_at_call 9; (with_reducible refine (peep_Dead.calls k _ _ l0 t370 t371 _ ?side3 ?side1 ?side2 A4.out).mono ?_); (case side1 => exact Kd.cx (Kd.C_below HR0.out HB.out)); (case side2 => exact HC0.out); (case side3 => exact GW.below HG.out (bl HB.out)); rintro e w11 ⟨v372, rfl, ho0, hb⟩; have HO373 := Aside0.mk (Kd.R_lower (Kd.R_new' (Kd.R_new' ho0 (Kd.R_lt (Kd.rx HO365.out))) (Kd.R_lt (Kd.rx HO369.out))) (below_size (bl HB.out))); replace HO365 := Aside0.mk (Kd.R_elder' (Kd.rx HO365.out) (Kd.R_base ho0) hb); replace HO369 := Aside0.mk (Kd.R_elder' (Kd.rx HO369.out) (Kd.R_base ho0) hb); replace HB := Aside0.mk (below_step (bl HB.out) hb); (try clear hb); (try clear ho0)) | (go_at_call 10; (with_reducible refine (peep_Hops.calls k _ _ l0 t374 t375 _ ?side3 ?side1 ?side2 A5.out).mono ?_); (case side1 => exact Kd.cx (Kd.C_below HR0.out HB.out)); (case side2 => exact HC0.out); (case side3 => exact GW.below HG.out (bl HB.out)); rintro e w12 ⟨v376, rfl, ho0, hb⟩; have HO377 := Aside0.mk (Kd.R_lower (Kd.R_new' (Kd.R_new' (Kd.R_new' ho0 (Kd.R_lt (Kd.rx HO365.out))) (Kd.R_lt (Kd.rx HO369.out))) (Kd.R_lt (Kd.rx HO373.out))) (below_size (bl HB.out))); replace HO365 := Aside0.mk (Kd.R_elder' (Kd.rx HO365.out) (Kd.R_base ho0) hb); replace HO369 := Aside0.mk (Kd.R_elder' (Kd.rx HO369.out) (Kd.R_base ho0) hb); replace HO373 := Aside0.mk (Kd.R_elder' (Kd.rx HO373.out) (Kd.R_base ho0) hb); replace HB := Aside0.mk (below_step (bl HB.out) hb); (try clear hb); (try clear ho0)) | (go_at_call 12; (with_reducible refine (instr_Live.calls k _ _ l0 t379 t380 _ ?side3 ?side1 ?side2 A7.out).mono ?_); (case side1 => exact Kd.cx (Kd.C_below HR0.out HB.out)); (case side2 => exact HC0.out); (case side3 => exact GW.below HG.out (bl HB.out)); rintro e w13 ⟨v381, rfl, ho0, hb⟩; replace HO365 := Aside0.mk (Kd.R_below (Kd.rx HO365.out) hb); replace HO369 := Aside0.mk (Kd.R_below (Kd.rx HO369.out) hb); replace HO373 := Aside0.mk (Kd.R_below (Kd.rx HO373.out) hb); replace HO377 := Aside0.mk (Kd.R_below (Kd.rx HO377.out) hb); have HO382 := Aside0.mk (Kd.R_lower ho0 (below_size (bl HB.out))); replace HB := Aside0.mk (below_step (bl HB.out) hb); (try clear hb); (try clear ho0))))
  (try simp only [Act.put, List.setIfInBounds_toArray, List.set_cons_zero, List.set_cons_succ])
  go_cut [107] (fun v107 wc => ∃ (kq : Nat) (x107_7 : Bool), v107 = .bool x107_7 ∧ Aside0 (harrowlaw20_PeepKinds.j0 kq l0 t362 t370 t374 t379 x107_7 = some r) ∧ Aside0 (kq ≤ k) ∧ Aside0 (Kd.R k34 34 wc w.heap.size (fun k_ => some k_ ≠ (v372 : Value).ownBlock ∧ some k_ ≠ (v376 : Value).ownBlock) v364 t362) ∧ Aside0 (Kd.R k34 34 wc w.heap.size (fun k_ => some k_ ≠ (v364 : Value).ownBlock ∧ some k_ ≠ (v376 : Value).ownBlock) v372 t370) ∧ Aside0 (Kd.R k34 34 wc w.heap.size (fun k_ => some k_ ≠ (v364 : Value).ownBlock ∧ some k_ ≠ (v372 : Value).ownBlock) v376 t374) ∧ Aside0 (Kd.R Kd.bool 4 wc w.heap.size (fun _ => True) v381 t379) ∧ Aside0 (Below w.heap.size w wc))
  case first =>
   as_aux_lemma =>
    have H := HC8.out
    clear HC8
    by_cases c14 : t367 = 0
    ·rw [if_pos c14] at H
     have c14b0 : (t367 == 0) = true := beq_iff_eq.mpr c14
     have c14b1 : (t367 != 0) = false := bne_eq_false_iff_eq.mpr c14
     clear c14
     (first | rw [c14b0] | (simp only [i64_w, i32_w]; rw [c14b0]) | skip)
     by_cases c15 : t371 = 0
     ·rw [if_pos c15] at H
      have c15b0 : (t371 == 0) = true := beq_iff_eq.mpr c15
      have c15b1 : (t371 != 0) = false := bne_eq_false_iff_eq.mpr c15
      clear c15
      by_cases c16 : t375 = 0
      ·rw [if_pos c16] at H
       have c16b0 : (t375 == 0) = true := beq_iff_eq.mpr c16
       have c16b1 : (t375 != 0) = false := bne_eq_false_iff_eq.mpr c16
       clear c16
       by_cases c17 : t380 = 0
       ·rw [if_pos c17] at H
        have c17b0 : (t380 == 0) = true := beq_iff_eq.mpr c17
        have c17b1 : (t380 != 0) = false := bne_eq_false_iff_eq.mpr c17
        clear c17
        by_cases c18 : (t362.length : Int) = (l0.length : Int)
        ·rw [if_pos c18] at H
         have c18b0 : ((t362.length : Int) == (l0.length : Int)) = true := beq_iff_eq.mpr c18
         have c18b1 : ((t362.length : Int) != (l0.length : Int)) = false := bne_eq_false_iff_eq.mpr c18
         have c18b2 : (t362.length == l0.length) = true := by first | simpa using c18 | (simp at c18 ⊢; omega)
         clear c18
         by_cases c19 : (t366.length : Int) = (l0.length : Int)
         ·rw [if_pos c19] at H
          have c19b0 : ((t366.length : Int) == (l0.length : Int)) = true := beq_iff_eq.mpr c19
          have c19b1 : ((t366.length : Int) != (l0.length : Int)) = false := bne_eq_false_iff_eq.mpr c19
          have c19b2 : (t366.length == l0.length) = true := by first | simpa using c19 | (simp at c19 ⊢; omega)
          clear c19
          have H' := Aside0.mk H
          clear H
          obtain ⟨Ao20, co20, eo20⟩ := Kd.R_slice HO365.out
          subst eo20
          obtain ⟨Ao21, co21, eo21⟩ := Kd.R_slice HO369.out
          subst eo21
          obtain ⟨Ao22, co22, eo22⟩ := Kd.R_slice HO382.out
          subst eo22
          go_wp2
          repeat (go_quiet (fail); try go_wp2)
          go_meet
          case rel => exact ⟨_, (((t379.length : Int) != (l0.length : Int))), (by first | rfl | (simp; done) | (simp [*]; done)), H', ⟨by first | omega | exact Nat.le_refl _⟩, ⟨Kd.rx (Kd.R_mono HO365.out (fun _ hk => ⟨hk.1.2, hk.2⟩))⟩, ⟨Kd.rx (Kd.R_mono HO373.out (fun _ hk => ⟨hk.1.1.2, hk.2⟩))⟩, ⟨Kd.rx (Kd.R_mono HO377.out (fun _ hk => ⟨hk.1.1.2, hk.2⟩))⟩, ⟨Kd.rx HO382.out⟩, ⟨bl HB.out⟩⟩
         ·rw [if_neg c19] at H
          have c19b0 : ((t366.length : Int) == (l0.length : Int)) = false := beq_eq_false_iff_ne.mpr c19
          have c19b1 : ((t366.length : Int) != (l0.length : Int)) = true := bne_iff_ne.mpr c19
          have c19b2 : (t366.length == l0.length) = false := by first | simpa using c19 | (simp at c19 ⊢; omega)
          have H' := Aside0.mk H
          clear H
          obtain ⟨Ao23, co23, eo23⟩ := Kd.R_slice HO365.out
          subst eo23
          obtain ⟨Ao24, co24, eo24⟩ := Kd.R_slice HO369.out
          subst eo24
          go_wp2
          repeat (go_quiet (fail); try go_wp2)
          go_meet
          case rel => exact ⟨_, (true), (by first | rfl | (simp; done) | (simp [*]; done)), H', ⟨by first | omega | exact Nat.le_refl _⟩, ⟨Kd.rx (Kd.R_mono HO365.out (fun _ hk => ⟨hk.1.2, hk.2⟩))⟩, ⟨Kd.rx (Kd.R_mono HO373.out (fun _ hk => ⟨hk.1.1.2, hk.2⟩))⟩, ⟨Kd.rx (Kd.R_mono HO377.out (fun _ hk => ⟨hk.1.1.2, hk.2⟩))⟩, ⟨Kd.rx HO382.out⟩, ⟨bl HB.out⟩⟩
        ·rw [if_neg c18] at H
         have c18b0 : ((t362.length : Int) == (l0.length : Int)) = false := beq_eq_false_iff_ne.mpr c18
         have c18b1 : ((t362.length : Int) != (l0.length : Int)) = true := bne_iff_ne.mpr c18
         have c18b2 : (t362.length == l0.length) = false := by first | simpa using c18 | (simp at c18 ⊢; omega)
         have H' := Aside0.mk H
         clear H
         obtain ⟨Ao25, co25, eo25⟩ := Kd.R_slice HO365.out
         subst eo25
         go_wp2
         repeat (go_quiet (fail); try go_wp2)
         go_meet
         case rel => exact ⟨_, (true), (by first | rfl | (simp; done) | (simp [*]; done)), H', ⟨by first | omega | exact Nat.le_refl _⟩, ⟨Kd.rx (Kd.R_mono HO365.out (fun _ hk => ⟨hk.1.2, hk.2⟩))⟩, ⟨Kd.rx (Kd.R_mono HO373.out (fun _ hk => ⟨hk.1.1.2, hk.2⟩))⟩, ⟨Kd.rx (Kd.R_mono HO377.out (fun _ hk => ⟨hk.1.1.2, hk.2⟩))⟩, ⟨Kd.rx HO382.out⟩, ⟨bl HB.out⟩⟩
       ·rw [if_neg c17] at H
        have c17b0 : (t380 == 0) = false := beq_eq_false_iff_ne.mpr c17
        have c17b1 : (t380 != 0) = true := bne_iff_ne.mpr c17
        have H' := Aside0.mk H
        clear H
        go_wp2
        repeat (go_quiet (fail); try go_wp2)
        go_meet
        case rel => exact ⟨_, (true), (by first | rfl | (simp; done) | (simp [*]; done)), H', ⟨by first | omega | exact Nat.le_refl _⟩, ⟨Kd.rx (Kd.R_mono HO365.out (fun _ hk => ⟨hk.1.2, hk.2⟩))⟩, ⟨Kd.rx (Kd.R_mono HO373.out (fun _ hk => ⟨hk.1.1.2, hk.2⟩))⟩, ⟨Kd.rx (Kd.R_mono HO377.out (fun _ hk => ⟨hk.1.1.2, hk.2⟩))⟩, ⟨Kd.rx HO382.out⟩, ⟨bl HB.out⟩⟩
      ·rw [if_neg c16] at H
       have c16b0 : (t375 == 0) = false := beq_eq_false_iff_ne.mpr c16
       have c16b1 : (t375 != 0) = true := bne_iff_ne.mpr c16
       have H' := Aside0.mk H
       clear H
       go_wp2
       repeat (go_quiet (fail); try go_wp2)
       go_meet
       case rel => exact ⟨_, (true), (by first | rfl | (simp; done) | (simp [*]; done)), H', ⟨by first | omega | exact Nat.le_refl _⟩, ⟨Kd.rx (Kd.R_mono HO365.out (fun _ hk => ⟨hk.1.2, hk.2⟩))⟩, ⟨Kd.rx (Kd.R_mono HO373.out (fun _ hk => ⟨hk.1.1.2, hk.2⟩))⟩, ⟨Kd.rx (Kd.R_mono HO377.out (fun _ hk => ⟨hk.1.1.2, hk.2⟩))⟩, ⟨Kd.rx HO382.out⟩, ⟨bl HB.out⟩⟩
     ·rw [if_neg c15] at H
      have c15b0 : (t371 == 0) = false := beq_eq_false_iff_ne.mpr c15
      have c15b1 : (t371 != 0) = true := bne_iff_ne.mpr c15
      have H' := Aside0.mk H
      clear H
      go_wp2
      repeat (go_quiet (fail); try go_wp2)
      go_meet
      case rel => exact ⟨_, (true), (by first | rfl | (simp; done) | (simp [*]; done)), H', ⟨by first | omega | exact Nat.le_refl _⟩, ⟨Kd.rx (Kd.R_mono HO365.out (fun _ hk => ⟨hk.1.2, hk.2⟩))⟩, ⟨Kd.rx (Kd.R_mono HO373.out (fun _ hk => ⟨hk.1.1.2, hk.2⟩))⟩, ⟨Kd.rx (Kd.R_mono HO377.out (fun _ hk => ⟨hk.1.1.2, hk.2⟩))⟩, ⟨Kd.rx HO382.out⟩, ⟨bl HB.out⟩⟩
    ·rw [if_neg c14] at H
     have c14b0 : (t367 == 0) = false := beq_eq_false_iff_ne.mpr c14
     have c14b1 : (t367 != 0) = true := bne_iff_ne.mpr c14
     (first | rw [c14b0] | (simp only [i64_w, i32_w]; rw [c14b0]) | skip)
     have H' := Aside0.mk H
     clear H
     go_wp2
     repeat (go_quiet (fail); try go_wp2)
     go_meet
     case rel => exact ⟨_, (true), (by first | rfl | (simp; done) | (simp [*]; done)), H', ⟨by first | omega | exact Nat.le_refl _⟩, ⟨Kd.rx (Kd.R_mono HO365.out (fun _ hk => ⟨hk.1.2, hk.2⟩))⟩, ⟨Kd.rx (Kd.R_mono HO373.out (fun _ hk => ⟨hk.1.1.2, hk.2⟩))⟩, ⟨Kd.rx (Kd.R_mono HO377.out (fun _ hk => ⟨hk.1.1.2, hk.2⟩))⟩, ⟨Kd.rx HO382.out⟩, ⟨bl HB.out⟩⟩
  case rest =>
   clear HC8
   (try clear c1); (try clear p2); (try clear c3); (try clear c6); (try clear c6b0); (try clear c6b1); (try clear p6); (try clear c14); (try clear c14b0); (try clear c14b1); (try clear c15); (try clear c15b0); (try clear c15b1); (try clear c16); (try clear c16b0); (try clear c16b1); (try clear c17); (try clear c17b0); (try clear c17b1); (try clear c18); (try clear c18b0); (try clear c18b1); (try clear c18b2); (try clear c19); (try clear c19b0); (try clear c19b1); (try clear c19b2)
   obtain ⟨kq, x107_7, rfl, HA, HJ7, HO_3, HO_7, HO_9, HO_11, HB⟩ := hcut
   cases kq with
   | zero => exact absurd HA.out (by simp [harrowlaw20_PeepKinds.j0])
   | succ kj7 =>
    have H := HA.out
    clear HA
    simp only [harrowlaw20_PeepKinds.j0] at H
    by_cases c26 : x107_7 = true
    ·subst c26
     have H1 : (some false) = some r := by rw [if_pos rfl] at H; exact H
     clear H
     have H := H1
     clear H1
     obtain rfl := Option.some.inj H
     go_wp2
     repeat (go_quiet (fail); try go_wp2)
     go_ret
     exact ⟨by first | rfl | (simp [errW_none, errW_some] <;> rfl) | (simp [*, errW_none, errW_some] <;> rfl), bl HB.out⟩
    ·replace c26 := Bool.eq_false_iff.mpr c26
     subst c26
     have H1 : (harrowlaw20_PeepKinds.l0 kj7 l0 t362 t370 t374 t379 0 0 0) = some r := by rw [if_neg (show ¬ (false = true) by decide)] at H; exact H
     clear H
     have H := H1
     clear H1
     have H' := Aside0.mk H
     clear H
     go_wp2
     repeat (go_quiet (fail); try go_wp2)
     go_loopg [13, 14, 15] kj7 (fun kq v13 v14 v15 w' => ∃ (x13_2 : Int) (x14_2 : Int) (x15_2 : Int), v13 = .int .i64 x13_2 ∧ v14 = .int .i64 x14_2 ∧ v15 = .int .i64 x15_2 ∧ Aside0 (harrowlaw20_PeepKinds.l0 kq l0 t362 t370 t374 t379 x13_2 x14_2 x15_2 = some r) ∧ Aside0 (kq ≤ kj7) ∧ Aside0 (Kd.R k34 34 w' w.heap.size (fun k_ => some k_ ≠ (v372 : Value).ownBlock ∧ some k_ ≠ (v376 : Value).ownBlock) v364 t362) ∧ Aside0 (Kd.R k34 34 w' w.heap.size (fun k_ => some k_ ≠ (v364 : Value).ownBlock ∧ some k_ ≠ (v376 : Value).ownBlock) v372 t370) ∧ Aside0 (Kd.R k34 34 w' w.heap.size (fun k_ => some k_ ≠ (v364 : Value).ownBlock ∧ some k_ ≠ (v372 : Value).ownBlock) v376 t374) ∧ Aside0 (Kd.R Kd.bool 4 w' w.heap.size (fun _ => True) v381 t379) ∧ Aside0 (Below w.heap.size w w'))
     case atStart => exact ⟨(0), (0), (0), (by first | rfl | (simp; done) | (simp [*]; done)), (by first | rfl | (simp; done) | (simp [*]; done)), (by first | rfl | (simp; done) | (simp [*]; done)), H', ⟨Nat.le_refl _⟩, ⟨Kd.rx HO_3.out⟩, ⟨Kd.rx HO_7.out⟩, ⟨Kd.rx HO_9.out⟩, ⟨Kd.rx HO_11.out⟩, ⟨bl HB.out⟩⟩
     case round =>
      clear H'
      (try clear c1); (try clear c2); (try clear p2); (try clear c3); (try clear c6); (try clear c6b0); (try clear c6b1); (try clear p6); (try clear c14); (try clear c14b0); (try clear c14b1); (try clear c15); (try clear c15b0); (try clear c15b1); (try clear c16); (try clear c16b0); (try clear c16b1); (try clear c17); (try clear c17b0); (try clear c17b1); (try clear c18); (try clear c18b0); (try clear c18b1); (try clear c18b2); (try clear c19); (try clear c19b0); (try clear c19b1); (try clear c19b2); (try clear c26); (try clear p2); (try clear p6)
      obtain ⟨x13_2, x14_2, x15_2, rfl, rfl, rfl, HA, HK2, HO_3, HO_7, HO_9, HO_11, HB⟩ := hrel
      cases gk with
      | zero => exact absurd HA.out (by simp [harrowlaw20_PeepKinds.l0])
      | succ k2 =>
       have H := HA.out
       clear HA
       simp only [harrowlaw20_PeepKinds.l0] at H
       by_cases c27 : x15_2 < (l0.length : Int)
       ·as_aux_lemma =>
         rw [if_pos c27] at H
         have c27b0 : decide (x15_2 < (l0.length : Int)) = true := decide_eq_true c27
         clear c27
         replace H := iteP H; obtain ⟨c28, H⟩ := H
         have c28b0 : decide (0 ≤ x15_2) = true := decide_eq_true c28
         clear c28
         replace H := iteP H; obtain ⟨c29, H⟩ := H
         have c29b0 : decide (x15_2 < (t379.length : Int)) = true := decide_eq_true c29
         clear c29
         have HC30 := Aside0.mk H
         clear H
         obtain ⟨Ao31, co31, eo31⟩ := Kd.R_slice HO_11.out
         subst eo31
         have p384 : 0 ≤ (x15_2 : Int) := of_decide_eq_true (by first | (with_reducible assumption) | assumption)
         have q384 : x15_2 < (t379.length : Int) := of_decide_eq_true (by first | (with_reducible assumption) | assumption)
         obtain ⟨ad384, e384, hx384_0⟩ := Kd.at_bool (Kd.R_reads' HO_11.out).2.2 x15_2 p384 q384
         cases e384
         replace p384 := eq_true p384
         replace q384 := eq_true q384
         go_upto_if 117 with (fail)
         repeat (go_quiet (fail); go_upto_if 117 with (fail))
         go_cut [13] (fun v13 wc => ∃ (kq : Nat) (x13_29 : Int), v13 = .int .i64 x13_29 ∧ Aside0 (harrowlaw20_PeepKinds.j2 kq l0 t362 t370 t374 t379 x13_29 x14_2 x15_2 = some r) ∧ Aside0 (kq ≤ k2) ∧ Aside0 (Kd.R k34 34 wc w.heap.size (fun k_ => some k_ ≠ (v372 : Value).ownBlock ∧ some k_ ≠ (v376 : Value).ownBlock) v364 t362) ∧ Aside0 (Kd.R k34 34 wc w.heap.size (fun k_ => some k_ ≠ (v364 : Value).ownBlock ∧ some k_ ≠ (v376 : Value).ownBlock) v372 t370) ∧ Aside0 (Kd.R k34 34 wc w.heap.size (fun k_ => some k_ ≠ (v364 : Value).ownBlock ∧ some k_ ≠ (v372 : Value).ownBlock) v376 t374) ∧ Aside0 (Kd.R Kd.bool 4 wc w.heap.size (fun _ => True) (.slice (some ad384) t379.length co31) t379) ∧ Aside0 (Below w.heap.size w wc))
         case first =>
          as_aux_lemma =>
           have H := HC30.out
           clear HC30
           obtain ⟨bq32, hbq32⟩ : ∃ b_ : Bool, b_ = (rdOf false t379 x15_2) := ⟨_, rfl⟩
           replace H : (if bq32 = true then (if x13_2 ≥ (t370.length : Int) then (some false) else (if 0 ≤ x13_2 then (if x13_2 < (t370.length : Int) then (if ((rd_T34 t370 x13_2).f0) = ((rd_T34 l0 x15_2).f0) then (if (!(((rd_T34 t370 x13_2).f5.f0) == ((rd_T34 l0 x15_2).f5.f0)) || (!(((rd_T34 t370 x13_2).f5.f1) == ((rd_T34 l0 x15_2).f5.f1)) || (!(((rd_T34 t370 x13_2).f5.f2) == ((rd_T34 l0 x15_2).f5.f2)) || (!(((rd_T34 t370 x13_2).f5.f3) == ((rd_T34 l0 x15_2).f5.f3)))))) = true then (some false) else (if ((rd_T34 t370 x13_2).f4).toList = ((rd_T34 l0 x15_2).f4).toList then (harrowlaw20_PeepKinds.j2 k2 l0 t362 t370 t374 t379 (wrap64 (x13_2 + 1)) x14_2 x15_2) else (some false))) else (some false)) else (none)) else (none))) else (harrowlaw20_PeepKinds.j2 k2 l0 t362 t370 t374 t379 x13_2 x14_2 x15_2)) = some r := by rw [← hbq32] at H; exact H
           have Nbq32 := Aside0.mk hbq32
           clear hbq32
           (try rw [← Nbq32.out])
           by_cases c33 : bq32 = true
           ·subst c33
            have H1 : (if x13_2 ≥ (t370.length : Int) then (some false) else (if 0 ≤ x13_2 then (if x13_2 < (t370.length : Int) then (if ((rd_T34 t370 x13_2).f0) = ((rd_T34 l0 x15_2).f0) then (if (!(((rd_T34 t370 x13_2).f5.f0) == ((rd_T34 l0 x15_2).f5.f0)) || (!(((rd_T34 t370 x13_2).f5.f1) == ((rd_T34 l0 x15_2).f5.f1)) || (!(((rd_T34 t370 x13_2).f5.f2) == ((rd_T34 l0 x15_2).f5.f2)) || (!(((rd_T34 t370 x13_2).f5.f3) == ((rd_T34 l0 x15_2).f5.f3)))))) = true then (some false) else (if ((rd_T34 t370 x13_2).f4).toList = ((rd_T34 l0 x15_2).f4).toList then (harrowlaw20_PeepKinds.j2 k2 l0 t362 t370 t374 t379 (wrap64 (x13_2 + 1)) x14_2 x15_2) else (some false))) else (some false)) else (none)) else (none))) = some r := by rw [if_pos rfl] at H; exact H
            clear H
            have H := H1
            clear H1
            by_cases c34 : x13_2 ≥ (t370.length : Int)
            ·rw [if_pos c34] at H
             have c34b0 : decide ((t370.length : Int) ≤ x13_2) = true := decide_eq_true c34
             clear c34
             obtain rfl := Option.some.inj H
             obtain ⟨Ao35, co35, eo35⟩ := Kd.R_slice HO_7.out
             subst eo35
             go_wp2
             repeat (go_quiet (fail); try go_wp2)
             go_ret
             exact ⟨by first | rfl | (simp [errW_none, errW_some] <;> rfl) | (simp [*, errW_none, errW_some] <;> rfl), bl HB.out⟩
            ·rw [if_neg c34] at H
             have c34b0 : decide ((t370.length : Int) ≤ x13_2) = false := decide_eq_false c34
             clear c34
             replace H := iteP H; obtain ⟨c36, H⟩ := H
             have c36b0 : decide (0 ≤ x13_2) = true := decide_eq_true c36
             clear c36
             replace H := iteP H; obtain ⟨c37, H⟩ := H
             have c37b0 : decide (x13_2 < (t370.length : Int)) = true := decide_eq_true c37
             clear c37
             by_cases c38 : ((rd_T34 t370 x13_2).f0) = ((rd_T34 l0 x15_2).f0)
             ·rw [if_pos c38] at H
              have c38b0 : (((rd_T34 t370 x13_2).f0) == ((rd_T34 l0 x15_2).f0)) = true := beq_iff_eq.mpr c38
              have c38b1 : (((rd_T34 t370 x13_2).f0) != ((rd_T34 l0 x15_2).f0)) = false := bne_eq_false_iff_eq.mpr c38
              clear c38
              by_cases c39 : (!(((rd_T34 t370 x13_2).f5.f0) == ((rd_T34 l0 x15_2).f5.f0)) || (!(((rd_T34 t370 x13_2).f5.f1) == ((rd_T34 l0 x15_2).f5.f1)) || (!(((rd_T34 t370 x13_2).f5.f2) == ((rd_T34 l0 x15_2).f5.f2)) || (!(((rd_T34 t370 x13_2).f5.f3) == ((rd_T34 l0 x15_2).f5.f3)))))) = true
              ·rw [if_pos c39] at H
               have c39b0 : (!(((rd_T34 t370 x13_2).f5.f0) == ((rd_T34 l0 x15_2).f5.f0)) || (!(((rd_T34 t370 x13_2).f5.f1) == ((rd_T34 l0 x15_2).f5.f1)) || (!(((rd_T34 t370 x13_2).f5.f2) == ((rd_T34 l0 x15_2).f5.f2)) || (!(((rd_T34 t370 x13_2).f5.f3) == ((rd_T34 l0 x15_2).f5.f3)))))) = true := c39
               clear c39
               obtain rfl := Option.some.inj H
               obtain ⟨Ao40, co40, eo40⟩ := Kd.R_slice HO_7.out
               subst eo40
               have p385 : 0 ≤ (x13_2 : Int) := of_decide_eq_true (by first | (with_reducible assumption) | assumption)
               have q385 : x13_2 < (t370.length : Int) := of_decide_eq_true (by first | (with_reducible assumption) | assumption)
               obtain ⟨ad385, e385, hx385_0, hx385_1, hx385_2, hx385_3, hx385_4, hx385_5, hx385_6, hx385_7, hx385_8⟩ := at_T34 (Kd.R_reads' HO_7.out).2.2 x13_2 p385 q385
               cases e385
               replace p385 := eq_true p385
               replace q385 := eq_true q385
               have p386 : 0 ≤ (x15_2 : Int) := of_decide_eq_true (by first | (with_reducible assumption) | assumption)
               have q386 : x15_2 < (l0.length : Int) := of_decide_eq_true (by first | (with_reducible assumption) | assumption)
               obtain ⟨ad386, e386, hx386_0, hx386_1, hx386_2, hx386_3, hx386_4, hx386_5, hx386_6, hx386_7, hx386_8⟩ := at_T34 HR0.out x15_2 p386 q386
               cases e386
               replace hx386_0 := cb HB.out hx386_0
               replace hx386_1 := cb HB.out hx386_1
               replace hx386_2 := cb HB.out hx386_2
               replace hx386_3 := cb HB.out hx386_3
               replace hx386_4 := cb HB.out hx386_4
               replace hx386_5 := cb HB.out hx386_5
               replace hx386_6 := cb HB.out hx386_6
               replace hx386_7 := cb HB.out hx386_7
               replace hx386_8 := cb HB.out hx386_8
               replace p386 := eq_true p386
               replace q386 := eq_true q386
               have p387 : 0 ≤ (x13_2 : Int) := of_decide_eq_true (by first | (with_reducible assumption) | assumption)
               have q387 : x13_2 < (t370.length : Int) := of_decide_eq_true (by first | (with_reducible assumption) | assumption)
               obtain ⟨ad387, e387, hx387_0, hx387_1, hx387_2, hx387_3, hx387_4, hx387_5, hx387_6, hx387_7, hx387_8⟩ := at_T34 (Kd.R_reads' HO_7.out).2.2 x13_2 p387 q387
               obtain rfl : ad385 = ad387 := (by injection e387)
               replace p387 := eq_true p387
               replace q387 := eq_true q387
               have p388 : 0 ≤ (x15_2 : Int) := of_decide_eq_true (by first | (with_reducible assumption) | assumption)
               have q388 : x15_2 < (l0.length : Int) := of_decide_eq_true (by first | (with_reducible assumption) | assumption)
               obtain ⟨ad388, e388, hx388_0, hx388_1, hx388_2, hx388_3, hx388_4, hx388_5, hx388_6, hx388_7, hx388_8⟩ := at_T34 HR0.out x15_2 p388 q388
               obtain rfl : ad386 = ad388 := (by injection e388)
               replace hx388_0 := cb HB.out hx388_0
               replace hx388_1 := cb HB.out hx388_1
               replace hx388_2 := cb HB.out hx388_2
               replace hx388_3 := cb HB.out hx388_3
               replace hx388_4 := cb HB.out hx388_4
               replace hx388_5 := cb HB.out hx388_5
               replace hx388_6 := cb HB.out hx388_6
               replace hx388_7 := cb HB.out hx388_7
               replace hx388_8 := cb HB.out hx388_8
               replace p388 := eq_true p388
               replace q388 := eq_true q388
               go_wp2
               repeat (go_quiet (fail); try go_wp2)
               go_ret
               exact ⟨by first | rfl | (simp [errW_none, errW_some] <;> rfl) | (simp [*, errW_none, errW_some] <;> rfl), bl HB.out⟩
              ·as_aux_lemma =>
                rw [if_neg c39] at H
                have c39b0 : (!(((rd_T34 t370 x13_2).f5.f0) == ((rd_T34 l0 x15_2).f5.f0)) || (!(((rd_T34 t370 x13_2).f5.f1) == ((rd_T34 l0 x15_2).f5.f1)) || (!(((rd_T34 t370 x13_2).f5.f2) == ((rd_T34 l0 x15_2).f5.f2)) || (!(((rd_T34 t370 x13_2).f5.f3) == ((rd_T34 l0 x15_2).f5.f3)))))) = false := by simpa using c39
                clear c39
                by_cases c41 : ((rd_T34 t370 x13_2).f4).toList = ((rd_T34 l0 x15_2).f4).toList
                ·rw [if_pos c41] at H
                 have c41b0 : (((rd_T34 t370 x13_2).f4).toList == ((rd_T34 l0 x15_2).f4).toList) = true := beq_iff_eq.mpr c41
                 have c41b1 : (((rd_T34 t370 x13_2).f4).toList != ((rd_T34 l0 x15_2).f4).toList) = false := bne_eq_false_iff_eq.mpr c41
                 clear c41
                 have H' := Aside0.mk H
                 clear H
                 obtain ⟨Ao42, co42, eo42⟩ := Kd.R_slice HO_7.out
                 subst eo42
                 have p385 : 0 ≤ (x13_2 : Int) := of_decide_eq_true (by first | (with_reducible assumption) | assumption)
                 have q385 : x13_2 < (t370.length : Int) := of_decide_eq_true (by first | (with_reducible assumption) | assumption)
                 obtain ⟨ad385, e385, hx385_0, hx385_1, hx385_2, hx385_3, hx385_4, hx385_5, hx385_6, hx385_7, hx385_8⟩ := at_T34 (Kd.R_reads' HO_7.out).2.2 x13_2 p385 q385
                 cases e385
                 replace p385 := eq_true p385
                 replace q385 := eq_true q385
                 have p386 : 0 ≤ (x15_2 : Int) := of_decide_eq_true (by first | (with_reducible assumption) | assumption)
                 have q386 : x15_2 < (l0.length : Int) := of_decide_eq_true (by first | (with_reducible assumption) | assumption)
                 obtain ⟨ad386, e386, hx386_0, hx386_1, hx386_2, hx386_3, hx386_4, hx386_5, hx386_6, hx386_7, hx386_8⟩ := at_T34 HR0.out x15_2 p386 q386
                 cases e386
                 replace hx386_0 := cb HB.out hx386_0
                 replace hx386_1 := cb HB.out hx386_1
                 replace hx386_2 := cb HB.out hx386_2
                 replace hx386_3 := cb HB.out hx386_3
                 replace hx386_4 := cb HB.out hx386_4
                 replace hx386_5 := cb HB.out hx386_5
                 replace hx386_6 := cb HB.out hx386_6
                 replace hx386_7 := cb HB.out hx386_7
                 replace hx386_8 := cb HB.out hx386_8
                 replace p386 := eq_true p386
                 replace q386 := eq_true q386
                 have p387 : 0 ≤ (x13_2 : Int) := of_decide_eq_true (by first | (with_reducible assumption) | assumption)
                 have q387 : x13_2 < (t370.length : Int) := of_decide_eq_true (by first | (with_reducible assumption) | assumption)
                 obtain ⟨ad387, e387, hx387_0, hx387_1, hx387_2, hx387_3, hx387_4, hx387_5, hx387_6, hx387_7, hx387_8⟩ := at_T34 (Kd.R_reads' HO_7.out).2.2 x13_2 p387 q387
                 obtain rfl : ad385 = ad387 := (by injection e387)
                 replace p387 := eq_true p387
                 replace q387 := eq_true q387
                 have p388 : 0 ≤ (x15_2 : Int) := of_decide_eq_true (by first | (with_reducible assumption) | assumption)
                 have q388 : x15_2 < (l0.length : Int) := of_decide_eq_true (by first | (with_reducible assumption) | assumption)
                 obtain ⟨ad388, e388, hx388_0, hx388_1, hx388_2, hx388_3, hx388_4, hx388_5, hx388_6, hx388_7, hx388_8⟩ := at_T34 HR0.out x15_2 p388 q388
                 obtain rfl : ad386 = ad388 := (by injection e388)
                 replace hx388_0 := cb HB.out hx388_0
                 replace hx388_1 := cb HB.out hx388_1
                 replace hx388_2 := cb HB.out hx388_2
                 replace hx388_3 := cb HB.out hx388_3
                 replace hx388_4 := cb HB.out hx388_4
                 replace hx388_5 := cb HB.out hx388_5
                 replace hx388_6 := cb HB.out hx388_6
                 replace hx388_7 := cb HB.out hx388_7
                 replace hx388_8 := cb HB.out hx388_8
                 replace p388 := eq_true p388
                 replace q388 := eq_true q388
                 have p389 : 0 ≤ (x13_2 : Int) := of_decide_eq_true (by first | (with_reducible assumption) | assumption)
                 have q389 : x13_2 < (t370.length : Int) := of_decide_eq_true (by first | (with_reducible assumption) | assumption)
                 obtain ⟨ad389, e389, hx389_0, hx389_1, hx389_2, hx389_3, hx389_4, hx389_5, hx389_6, hx389_7, hx389_8⟩ := at_T34 (Kd.R_reads' HO_7.out).2.2 x13_2 p389 q389
                 obtain rfl : ad385 = ad389 := (by injection e389)
                 replace p389 := eq_true p389
                 replace q389 := eq_true q389
                 have p390 : 0 ≤ (x15_2 : Int) := of_decide_eq_true (by first | (with_reducible assumption) | assumption)
                 have q390 : x15_2 < (l0.length : Int) := of_decide_eq_true (by first | (with_reducible assumption) | assumption)
                 obtain ⟨ad390, e390, hx390_0, hx390_1, hx390_2, hx390_3, hx390_4, hx390_5, hx390_6, hx390_7, hx390_8⟩ := at_T34 HR0.out x15_2 p390 q390
                 obtain rfl : ad386 = ad390 := (by injection e390)
                 replace hx390_0 := cb HB.out hx390_0
                 replace hx390_1 := cb HB.out hx390_1
                 replace hx390_2 := cb HB.out hx390_2
                 replace hx390_3 := cb HB.out hx390_3
                 replace hx390_4 := cb HB.out hx390_4
                 replace hx390_5 := cb HB.out hx390_5
                 replace hx390_6 := cb HB.out hx390_6
                 replace hx390_7 := cb HB.out hx390_7
                 replace hx390_8 := cb HB.out hx390_8
                 replace p390 := eq_true p390
                 replace q390 := eq_true q390
                 go_wp2
                 repeat (go_quiet (fail); try go_wp2)
                 go_meet
                 case rel => exact ⟨_, (wrap64 (x13_2 + 1)), (by first | rfl | (simp; done) | (simp [*]; done)), H', ⟨by have := HJ7.out; have := HK2.out; first | omega | exact Nat.le_refl _⟩, ⟨Kd.rx HO_3.out⟩, ⟨Kd.rx HO_7.out⟩, ⟨Kd.rx HO_9.out⟩, ⟨Kd.rx HO_11.out⟩, ⟨bl HB.out⟩⟩
                ·rw [if_neg c41] at H
                 have c41b0 : (((rd_T34 t370 x13_2).f4).toList == ((rd_T34 l0 x15_2).f4).toList) = false := beq_eq_false_iff_ne.mpr c41
                 have c41b1 : (((rd_T34 t370 x13_2).f4).toList != ((rd_T34 l0 x15_2).f4).toList) = true := bne_iff_ne.mpr c41
                 obtain rfl := Option.some.inj H
                 obtain ⟨Ao43, co43, eo43⟩ := Kd.R_slice HO_7.out
                 subst eo43
                 have p385 : 0 ≤ (x13_2 : Int) := of_decide_eq_true (by first | (with_reducible assumption) | assumption)
                 have q385 : x13_2 < (t370.length : Int) := of_decide_eq_true (by first | (with_reducible assumption) | assumption)
                 obtain ⟨ad385, e385, hx385_0, hx385_1, hx385_2, hx385_3, hx385_4, hx385_5, hx385_6, hx385_7, hx385_8⟩ := at_T34 (Kd.R_reads' HO_7.out).2.2 x13_2 p385 q385
                 cases e385
                 replace p385 := eq_true p385
                 replace q385 := eq_true q385
                 have p386 : 0 ≤ (x15_2 : Int) := of_decide_eq_true (by first | (with_reducible assumption) | assumption)
                 have q386 : x15_2 < (l0.length : Int) := of_decide_eq_true (by first | (with_reducible assumption) | assumption)
                 obtain ⟨ad386, e386, hx386_0, hx386_1, hx386_2, hx386_3, hx386_4, hx386_5, hx386_6, hx386_7, hx386_8⟩ := at_T34 HR0.out x15_2 p386 q386
                 cases e386
                 replace hx386_0 := cb HB.out hx386_0
                 replace hx386_1 := cb HB.out hx386_1
                 replace hx386_2 := cb HB.out hx386_2
                 replace hx386_3 := cb HB.out hx386_3
                 replace hx386_4 := cb HB.out hx386_4
                 replace hx386_5 := cb HB.out hx386_5
                 replace hx386_6 := cb HB.out hx386_6
                 replace hx386_7 := cb HB.out hx386_7
                 replace hx386_8 := cb HB.out hx386_8
                 replace p386 := eq_true p386
                 replace q386 := eq_true q386
                 have p387 : 0 ≤ (x13_2 : Int) := of_decide_eq_true (by first | (with_reducible assumption) | assumption)
                 have q387 : x13_2 < (t370.length : Int) := of_decide_eq_true (by first | (with_reducible assumption) | assumption)
                 obtain ⟨ad387, e387, hx387_0, hx387_1, hx387_2, hx387_3, hx387_4, hx387_5, hx387_6, hx387_7, hx387_8⟩ := at_T34 (Kd.R_reads' HO_7.out).2.2 x13_2 p387 q387
                 obtain rfl : ad385 = ad387 := (by injection e387)
                 replace p387 := eq_true p387
                 replace q387 := eq_true q387
                 have p388 : 0 ≤ (x15_2 : Int) := of_decide_eq_true (by first | (with_reducible assumption) | assumption)
                 have q388 : x15_2 < (l0.length : Int) := of_decide_eq_true (by first | (with_reducible assumption) | assumption)
                 obtain ⟨ad388, e388, hx388_0, hx388_1, hx388_2, hx388_3, hx388_4, hx388_5, hx388_6, hx388_7, hx388_8⟩ := at_T34 HR0.out x15_2 p388 q388
                 obtain rfl : ad386 = ad388 := (by injection e388)
                 replace hx388_0 := cb HB.out hx388_0
                 replace hx388_1 := cb HB.out hx388_1
                 replace hx388_2 := cb HB.out hx388_2
                 replace hx388_3 := cb HB.out hx388_3
                 replace hx388_4 := cb HB.out hx388_4
                 replace hx388_5 := cb HB.out hx388_5
                 replace hx388_6 := cb HB.out hx388_6
                 replace hx388_7 := cb HB.out hx388_7
                 replace hx388_8 := cb HB.out hx388_8
                 replace p388 := eq_true p388
                 replace q388 := eq_true q388
                 have p389 : 0 ≤ (x13_2 : Int) := of_decide_eq_true (by first | (with_reducible assumption) | assumption)
                 have q389 : x13_2 < (t370.length : Int) := of_decide_eq_true (by first | (with_reducible assumption) | assumption)
                 obtain ⟨ad389, e389, hx389_0, hx389_1, hx389_2, hx389_3, hx389_4, hx389_5, hx389_6, hx389_7, hx389_8⟩ := at_T34 (Kd.R_reads' HO_7.out).2.2 x13_2 p389 q389
                 obtain rfl : ad385 = ad389 := (by injection e389)
                 replace p389 := eq_true p389
                 replace q389 := eq_true q389
                 have p390 : 0 ≤ (x15_2 : Int) := of_decide_eq_true (by first | (with_reducible assumption) | assumption)
                 have q390 : x15_2 < (l0.length : Int) := of_decide_eq_true (by first | (with_reducible assumption) | assumption)
                 obtain ⟨ad390, e390, hx390_0, hx390_1, hx390_2, hx390_3, hx390_4, hx390_5, hx390_6, hx390_7, hx390_8⟩ := at_T34 HR0.out x15_2 p390 q390
                 obtain rfl : ad386 = ad390 := (by injection e390)
                 replace hx390_0 := cb HB.out hx390_0
                 replace hx390_1 := cb HB.out hx390_1
                 replace hx390_2 := cb HB.out hx390_2
                 replace hx390_3 := cb HB.out hx390_3
                 replace hx390_4 := cb HB.out hx390_4
                 replace hx390_5 := cb HB.out hx390_5
                 replace hx390_6 := cb HB.out hx390_6
                 replace hx390_7 := cb HB.out hx390_7
                 replace hx390_8 := cb HB.out hx390_8
                 replace p390 := eq_true p390
                 replace q390 := eq_true q390
                 go_wp2
                 repeat (go_quiet (fail); try go_wp2)
                 go_ret
                 exact ⟨by first | rfl | (simp [errW_none, errW_some] <;> rfl) | (simp [*, errW_none, errW_some] <;> rfl), bl HB.out⟩
             ·rw [if_neg c38] at H
              have c38b0 : (((rd_T34 t370 x13_2).f0) == ((rd_T34 l0 x15_2).f0)) = false := beq_eq_false_iff_ne.mpr c38
              have c38b1 : (((rd_T34 t370 x13_2).f0) != ((rd_T34 l0 x15_2).f0)) = true := bne_iff_ne.mpr c38
              obtain rfl := Option.some.inj H
              obtain ⟨Ao44, co44, eo44⟩ := Kd.R_slice HO_7.out
              subst eo44
              have p385 : 0 ≤ (x13_2 : Int) := of_decide_eq_true (by first | (with_reducible assumption) | assumption)
              have q385 : x13_2 < (t370.length : Int) := of_decide_eq_true (by first | (with_reducible assumption) | assumption)
              obtain ⟨ad385, e385, hx385_0, hx385_1, hx385_2, hx385_3, hx385_4, hx385_5, hx385_6, hx385_7, hx385_8⟩ := at_T34 (Kd.R_reads' HO_7.out).2.2 x13_2 p385 q385
              cases e385
              replace p385 := eq_true p385
              replace q385 := eq_true q385
              have p386 : 0 ≤ (x15_2 : Int) := of_decide_eq_true (by first | (with_reducible assumption) | assumption)
              have q386 : x15_2 < (l0.length : Int) := of_decide_eq_true (by first | (with_reducible assumption) | assumption)
              obtain ⟨ad386, e386, hx386_0, hx386_1, hx386_2, hx386_3, hx386_4, hx386_5, hx386_6, hx386_7, hx386_8⟩ := at_T34 HR0.out x15_2 p386 q386
              cases e386
              replace hx386_0 := cb HB.out hx386_0
              replace hx386_1 := cb HB.out hx386_1
              replace hx386_2 := cb HB.out hx386_2
              replace hx386_3 := cb HB.out hx386_3
              replace hx386_4 := cb HB.out hx386_4
              replace hx386_5 := cb HB.out hx386_5
              replace hx386_6 := cb HB.out hx386_6
              replace hx386_7 := cb HB.out hx386_7
              replace hx386_8 := cb HB.out hx386_8
              replace p386 := eq_true p386
              replace q386 := eq_true q386
              go_wp2
              repeat (go_quiet (fail); try go_wp2)
              go_ret
              exact ⟨by first | rfl | (simp [errW_none, errW_some] <;> rfl) | (simp [*, errW_none, errW_some] <;> rfl), bl HB.out⟩
           ·replace c33 := Bool.eq_false_iff.mpr c33
            subst c33
            have H1 : (harrowlaw20_PeepKinds.j2 k2 l0 t362 t370 t374 t379 x13_2 x14_2 x15_2) = some r := by rw [if_neg (show ¬ (false = true) by decide)] at H; exact H
            clear H
            have H := H1
            clear H1
            have H' := Aside0.mk H
            clear H
            go_wp2
            repeat (go_quiet (fail); try go_wp2)
            go_meet
            case rel => exact ⟨_, (x13_2), (by first | rfl | (simp; done) | (simp [*]; done)), H', ⟨by have := HJ7.out; have := HK2.out; first | omega | exact Nat.le_refl _⟩, ⟨Kd.rx HO_3.out⟩, ⟨Kd.rx HO_7.out⟩, ⟨Kd.rx HO_9.out⟩, ⟨Kd.rx HO_11.out⟩, ⟨bl HB.out⟩⟩
         case rest =>
          clear HC30
          (try clear c1); (try clear c2); (try clear p2); (try clear c3); (try clear p3); (try clear q3); (try clear hx3); (try clear c4); (try clear c6); (try clear c6b0); (try clear c6b1); (try clear p6); (try clear c14); (try clear c14b0); (try clear c14b1); (try clear c15); (try clear c15b0); (try clear c15b1); (try clear c16); (try clear c16b0); (try clear c16b1); (try clear c17); (try clear c17b0); (try clear c17b1); (try clear c18); (try clear c18b0); (try clear c18b1); (try clear c18b2); (try clear c19); (try clear c19b0); (try clear c19b1); (try clear c19b2); (try clear c26); (try clear c27); (try clear c27b0); (try clear c28); (try clear c28b0); (try clear c29); (try clear c29b0); (try clear q32); (try clear c33); (try clear c34); (try clear c34b0); (try clear c36); (try clear c36b0); (try clear c37); (try clear c37b0); (try clear c38); (try clear c38b0); (try clear c38b1); (try clear p38); (try clear q38); (try clear hx38); (try clear c39); (try clear c39b0); (try clear p39); (try clear q39); (try clear hx39); (try clear c41); (try clear c41b0); (try clear c41b1); (try clear hx384_0); (try clear hx385_0); (try clear hx385_1); (try clear hx385_2); (try clear hx385_3); (try clear hx385_4); (try clear hx385_5); (try clear hx385_6); (try clear hx385_7); (try clear hx385_8); (try clear hx386_0); (try clear hx386_1); (try clear hx386_2); (try clear hx386_3); (try clear hx386_4); (try clear hx386_5); (try clear hx386_6); (try clear hx386_7); (try clear hx386_8); (try clear hx387_0); (try clear hx387_1); (try clear hx387_2); (try clear hx387_3); (try clear hx387_4); (try clear hx387_5); (try clear hx387_6); (try clear hx387_7); (try clear hx387_8); (try clear hx388_0); (try clear hx388_1); (try clear hx388_2); (try clear hx388_3); (try clear hx388_4); (try clear hx388_5); (try clear hx388_6); (try clear hx388_7); (try clear hx388_8); (try clear hx389_0); (try clear hx389_1); (try clear hx389_2); (try clear hx389_3); (try clear hx389_4); (try clear hx389_5); (try clear hx389_6); (try clear hx389_7); (try clear hx389_8); (try clear hx390_0); (try clear hx390_1); (try clear hx390_2); (try clear hx390_3); (try clear hx390_4); (try clear hx390_5); (try clear hx390_6); (try clear hx390_7); (try clear hx390_8); (try clear p2); (try clear p384); (try clear p385); (try clear p386); (try clear p387); (try clear p388); (try clear p389); (try clear p390); (try clear p6); (try clear q384); (try clear q385); (try clear q386); (try clear q387); (try clear q388); (try clear q389); (try clear q390)
          obtain ⟨kq, x13_29, rfl, HA, HJ29, HO_3, HO_7, HO_9, HO_11, HB⟩ := hcut
          cases kq with
          | zero => exact absurd HA.out (by simp [harrowlaw20_PeepKinds.j2])
          | succ kj29 =>
           have H := HA.out
           clear HA
           simp only [harrowlaw20_PeepKinds.j2] at H
           have HC45 := Aside0.mk H
           clear H
           go_upto_region 18 with (fail)
           repeat (go_quiet (fail); go_upto_region 18 with (fail))
           go_cut [176] (fun v176 wc => ∃ (kq : Nat) (x176_44 : Bool), v176 = .bool x176_44 ∧ Aside0 (harrowlaw20_PeepKinds.j3 kq l0 t362 t370 t374 t379 x13_29 x14_2 x15_2 x176_44 = some r) ∧ Aside0 (kq ≤ kj29) ∧ Aside0 (Kd.R k34 34 wc w.heap.size (fun k_ => some k_ ≠ (v372 : Value).ownBlock ∧ some k_ ≠ (v376 : Value).ownBlock) v364 t362) ∧ Aside0 (Kd.R k34 34 wc w.heap.size (fun k_ => some k_ ≠ (v364 : Value).ownBlock ∧ some k_ ≠ (v376 : Value).ownBlock) v372 t370) ∧ Aside0 (Kd.R k34 34 wc w.heap.size (fun k_ => some k_ ≠ (v364 : Value).ownBlock ∧ some k_ ≠ (v372 : Value).ownBlock) v376 t374) ∧ Aside0 (Kd.R Kd.bool 4 wc w.heap.size (fun _ => True) (.slice (some ad384) t379.length co31) t379) ∧ Aside0 (Below w.heap.size w wc))
           case first =>
            have H := HC45.out
            clear HC45
            replace H := iteP H; obtain ⟨c46, H⟩ := H
            have c46b0 : decide (0 ≤ x15_2) = true := decide_eq_true c46
            clear c46
            (first | rw [c46b0] | (simp only [i64_w, i32_w]; rw [c46b0]) | skip)
            replace H := iteP H; obtain ⟨c47, H⟩ := H
            have c47b0 : decide (x15_2 < (l0.length : Int)) = true := decide_eq_true c47
            clear c47
            by_cases c48 : ((rd_T34 l0 x15_2).f0) = 14
            ·rw [if_pos c48] at H
             have c48b0 : (((rd_T34 l0 x15_2).f0) == 14) = true := beq_iff_eq.mpr c48
             have c48b1 : (((rd_T34 l0 x15_2).f0) != 14) = false := bne_eq_false_iff_eq.mpr c48
             clear c48
             have H' := Aside0.mk H
             clear H
             have p391 : 0 ≤ (x15_2 : Int) := of_decide_eq_true (by first | (with_reducible assumption) | assumption)
             have q391 : x15_2 < (l0.length : Int) := of_decide_eq_true (by first | (with_reducible assumption) | assumption)
             obtain ⟨ad391, e391, hx391_0, hx391_1, hx391_2, hx391_3, hx391_4, hx391_5, hx391_6, hx391_7, hx391_8⟩ := at_T34 HR0.out x15_2 p391 q391
             cases e391
             replace hx391_0 := cb HB.out hx391_0
             replace hx391_1 := cb HB.out hx391_1
             replace hx391_2 := cb HB.out hx391_2
             replace hx391_3 := cb HB.out hx391_3
             replace hx391_4 := cb HB.out hx391_4
             replace hx391_5 := cb HB.out hx391_5
             replace hx391_6 := cb HB.out hx391_6
             replace hx391_7 := cb HB.out hx391_7
             replace hx391_8 := cb HB.out hx391_8
             replace p391 := eq_true p391
             replace q391 := eq_true q391
             have p392 : 0 ≤ (x15_2 : Int) := of_decide_eq_true (by first | (with_reducible assumption) | assumption)
             have q392 : x15_2 < (l0.length : Int) := of_decide_eq_true (by first | (with_reducible assumption) | assumption)
             obtain ⟨ad392, e392, hx392_0, hx392_1, hx392_2, hx392_3, hx392_4, hx392_5, hx392_6, hx392_7, hx392_8⟩ := at_T34 HR0.out x15_2 p392 q392
             obtain rfl : ad391 = ad392 := (by injection e392)
             replace hx392_0 := cb HB.out hx392_0
             replace hx392_1 := cb HB.out hx392_1
             replace hx392_2 := cb HB.out hx392_2
             replace hx392_3 := cb HB.out hx392_3
             replace hx392_4 := cb HB.out hx392_4
             replace hx392_5 := cb HB.out hx392_5
             replace hx392_6 := cb HB.out hx392_6
             replace hx392_7 := cb HB.out hx392_7
             replace hx392_8 := cb HB.out hx392_8
             replace p392 := eq_true p392
             replace q392 := eq_true q392
             go_wp2
             repeat (go_quiet (fail); try go_wp2)
             go_meet
             case rel => exact ⟨_, ((((rd_T34 l0 x15_2).f1) != 1)), (by first | rfl | (simp; done) | (simp [*]; done)), H', ⟨by have := HJ7.out; have := HK2.out; have := HJ29.out; first | omega | exact Nat.le_refl _⟩, ⟨Kd.rx HO_3.out⟩, ⟨Kd.rx HO_7.out⟩, ⟨Kd.rx HO_9.out⟩, ⟨Kd.rx HO_11.out⟩, ⟨bl HB.out⟩⟩
            ·rw [if_neg c48] at H
             have c48b0 : (((rd_T34 l0 x15_2).f0) == 14) = false := beq_eq_false_iff_ne.mpr c48
             have c48b1 : (((rd_T34 l0 x15_2).f0) != 14) = true := bne_iff_ne.mpr c48
             have H' := Aside0.mk H
             clear H
             have p391 : 0 ≤ (x15_2 : Int) := of_decide_eq_true (by first | (with_reducible assumption) | assumption)
             have q391 : x15_2 < (l0.length : Int) := of_decide_eq_true (by first | (with_reducible assumption) | assumption)
             obtain ⟨ad391, e391, hx391_0, hx391_1, hx391_2, hx391_3, hx391_4, hx391_5, hx391_6, hx391_7, hx391_8⟩ := at_T34 HR0.out x15_2 p391 q391
             cases e391
             replace hx391_0 := cb HB.out hx391_0
             replace hx391_1 := cb HB.out hx391_1
             replace hx391_2 := cb HB.out hx391_2
             replace hx391_3 := cb HB.out hx391_3
             replace hx391_4 := cb HB.out hx391_4
             replace hx391_5 := cb HB.out hx391_5
             replace hx391_6 := cb HB.out hx391_6
             replace hx391_7 := cb HB.out hx391_7
             replace hx391_8 := cb HB.out hx391_8
             replace p391 := eq_true p391
             replace q391 := eq_true q391
             go_wp2
             repeat (go_quiet (fail); try go_wp2)
             go_meet
             case rel => exact ⟨_, (true), (by first | rfl | (simp; done) | (simp [*]; done)), H', ⟨by have := HJ7.out; have := HK2.out; have := HJ29.out; first | omega | exact Nat.le_refl _⟩, ⟨Kd.rx HO_3.out⟩, ⟨Kd.rx HO_7.out⟩, ⟨Kd.rx HO_9.out⟩, ⟨Kd.rx HO_11.out⟩, ⟨bl HB.out⟩⟩
           case rest =>
            as_aux_lemma =>
             clear HC45
             (try clear c1); (try clear c2); (try clear p2); (try clear c3); (try clear p3); (try clear q3); (try clear hx3); (try clear c4); (try clear c6); (try clear c6b0); (try clear c6b1); (try clear p6); (try clear c14); (try clear c14b0); (try clear c14b1); (try clear c15); (try clear c15b0); (try clear c15b1); (try clear c16); (try clear c16b0); (try clear c16b1); (try clear c17); (try clear c17b0); (try clear c17b1); (try clear c18); (try clear c18b0); (try clear c18b1); (try clear c18b2); (try clear c19); (try clear c19b0); (try clear c19b1); (try clear c19b2); (try clear c26); (try clear c27); (try clear c27b0); (try clear c28); (try clear c28b0); (try clear c29); (try clear c29b0); (try clear q32); (try clear c33); (try clear c34); (try clear c34b0); (try clear c36); (try clear c36b0); (try clear c37); (try clear c37b0); (try clear c38); (try clear c38b0); (try clear c38b1); (try clear p38); (try clear q38); (try clear hx38); (try clear c39); (try clear c39b0); (try clear p39); (try clear q39); (try clear hx39); (try clear c41); (try clear c41b0); (try clear c41b1); (try clear c46); (try clear c46b0); (try clear c47); (try clear c47b0); (try clear c48); (try clear c48b0); (try clear c48b1); (try clear hx384_0); (try clear hx385_0); (try clear hx385_1); (try clear hx385_2); (try clear hx385_3); (try clear hx385_4); (try clear hx385_5); (try clear hx385_6); (try clear hx385_7); (try clear hx385_8); (try clear hx386_0); (try clear hx386_1); (try clear hx386_2); (try clear hx386_3); (try clear hx386_4); (try clear hx386_5); (try clear hx386_6); (try clear hx386_7); (try clear hx386_8); (try clear hx387_0); (try clear hx387_1); (try clear hx387_2); (try clear hx387_3); (try clear hx387_4); (try clear hx387_5); (try clear hx387_6); (try clear hx387_7); (try clear hx387_8); (try clear hx388_0); (try clear hx388_1); (try clear hx388_2); (try clear hx388_3); (try clear hx388_4); (try clear hx388_5); (try clear hx388_6); (try clear hx388_7); (try clear hx388_8); (try clear hx389_0); (try clear hx389_1); (try clear hx389_2); (try clear hx389_3); (try clear hx389_4); (try clear hx389_5); (try clear hx389_6); (try clear hx389_7); (try clear hx389_8); (try clear hx390_0); (try clear hx390_1); (try clear hx390_2); (try clear hx390_3); (try clear hx390_4); (try clear hx390_5); (try clear hx390_6); (try clear hx390_7); (try clear hx390_8); (try clear hx391_0); (try clear hx391_1); (try clear hx391_2); (try clear hx391_3); (try clear hx391_4); (try clear hx391_5); (try clear hx391_6); (try clear hx391_7); (try clear hx391_8); (try clear hx392_0); (try clear hx392_1); (try clear hx392_2); (try clear hx392_3); (try clear hx392_4); (try clear hx392_5); (try clear hx392_6); (try clear hx392_7); (try clear hx392_8); (try clear p2); (try clear p3); (try clear p38); (try clear p384); (try clear p385); (try clear p386); (try clear p387); (try clear p388); (try clear p389); (try clear p39); (try clear p390); (try clear p391); (try clear p392); (try clear p6); (try clear q3); (try clear q32); (try clear q38); (try clear q384); (try clear q385); (try clear q386); (try clear q387); (try clear q388); (try clear q389); (try clear q39); (try clear q390); (try clear q391); (try clear q392)
             obtain ⟨kq, x176_44, rfl, HA, HJ44, HO_3, HO_7, HO_9, HO_11, HB⟩ := hcut
             cases kq with
             | zero => exact absurd HA.out (by simp [harrowlaw20_PeepKinds.j3])
             | succ kj44 =>
              have H := HA.out
              clear HA
              simp only [harrowlaw20_PeepKinds.j3] at H
              by_cases c49 : x176_44 = true
              ·subst c49
               have H1 : (if x14_2 ≥ (t374.length : Int) then (harrowlaw20_PeepKinds.j4 kj44 l0 t362 t370 t374 t379 x13_29 x14_2 x15_2 true) else (if 0 ≤ x14_2 then (if x14_2 < (t374.length : Int) then (if 0 ≤ x15_2 then (if x15_2 < (l0.length : Int) then (if ((rd_T34 t374 x14_2).f0) = ((rd_T34 l0 x15_2).f0) then (if ((rd_T34 t374 x14_2).f2) = ((rd_T34 l0 x15_2).f2) then (harrowlaw20_PeepKinds.j4 kj44 l0 t362 t370 t374 t379 x13_29 x14_2 x15_2 (((rd_T34 t374 x14_2).f3) != ((rd_T34 l0 x15_2).f3))) else (harrowlaw20_PeepKinds.j4 kj44 l0 t362 t370 t374 t379 x13_29 x14_2 x15_2 true)) else (harrowlaw20_PeepKinds.j4 kj44 l0 t362 t370 t374 t379 x13_29 x14_2 x15_2 true)) else (none)) else (none)) else (none)) else (none))) = some r := by rw [if_pos rfl] at H; exact H
               clear H
               have H := H1
               clear H1
               have HC50 := Aside0.mk H
               clear H
               go_upto_region 19 with (fail)
               repeat (go_quiet (fail); go_upto_region 19 with (fail))
               go_cut [219] (fun v219 wc => ∃ (kq : Nat) (x219_49 : Bool), v219 = .bool x219_49 ∧ Aside0 (harrowlaw20_PeepKinds.j4 kq l0 t362 t370 t374 t379 x13_29 x14_2 x15_2 x219_49 = some r) ∧ Aside0 (kq ≤ kj44) ∧ Aside0 (Kd.R k34 34 wc w.heap.size (fun k_ => some k_ ≠ (v372 : Value).ownBlock ∧ some k_ ≠ (v376 : Value).ownBlock) v364 t362) ∧ Aside0 (Kd.R k34 34 wc w.heap.size (fun k_ => some k_ ≠ (v364 : Value).ownBlock ∧ some k_ ≠ (v376 : Value).ownBlock) v372 t370) ∧ Aside0 (Kd.R k34 34 wc w.heap.size (fun k_ => some k_ ≠ (v364 : Value).ownBlock ∧ some k_ ≠ (v372 : Value).ownBlock) v376 t374) ∧ Aside0 (Kd.R Kd.bool 4 wc w.heap.size (fun _ => True) (.slice (some ad384) t379.length co31) t379) ∧ Aside0 (Below w.heap.size w wc))
               case first =>
                have H := HC50.out
                clear HC50
                by_cases c51 : x14_2 ≥ (t374.length : Int)
                ·rw [if_pos c51] at H
                 have c51b0 : decide ((t374.length : Int) ≤ x14_2) = true := decide_eq_true c51
                 clear c51
                 (first | rw [c51b0] | (simp only [i64_w, i32_w]; rw [c51b0]) | skip)
                 have H' := Aside0.mk H
                 clear H
                 obtain ⟨Ao52, co52, eo52⟩ := Kd.R_slice HO_9.out
                 subst eo52
                 go_wp2
                 repeat (go_quiet (fail); try go_wp2)
                 go_meet
                 case rel => exact ⟨_, (true), (by first | rfl | (simp; done) | (simp [*]; done)), H', ⟨by have := HJ7.out; have := HK2.out; have := HJ29.out; have := HJ44.out; first | omega | exact Nat.le_refl _⟩, ⟨Kd.rx HO_3.out⟩, ⟨Kd.rx HO_7.out⟩, ⟨Kd.rx HO_9.out⟩, ⟨Kd.rx HO_11.out⟩, ⟨bl HB.out⟩⟩
                ·rw [if_neg c51] at H
                 have c51b0 : decide ((t374.length : Int) ≤ x14_2) = false := decide_eq_false c51
                 clear c51
                 (first | rw [c51b0] | (simp only [i64_w, i32_w]; rw [c51b0]) | skip)
                 replace H := iteP H; obtain ⟨c53, H⟩ := H
                 have c53b0 : decide (0 ≤ x14_2) = true := decide_eq_true c53
                 clear c53
                 replace H := iteP H; obtain ⟨c54, H⟩ := H
                 have c54b0 : decide (x14_2 < (t374.length : Int)) = true := decide_eq_true c54
                 clear c54
                 replace H := iteP H; obtain ⟨c55, H⟩ := H
                 have c55b0 : decide (0 ≤ x15_2) = true := decide_eq_true c55
                 clear c55
                 replace H := iteP H; obtain ⟨c56, H⟩ := H
                 have c56b0 : decide (x15_2 < (l0.length : Int)) = true := decide_eq_true c56
                 clear c56
                 by_cases c57 : ((rd_T34 t374 x14_2).f0) = ((rd_T34 l0 x15_2).f0)
                 ·as_aux_lemma =>
                   rw [if_pos c57] at H
                   have c57b0 : (((rd_T34 t374 x14_2).f0) == ((rd_T34 l0 x15_2).f0)) = true := beq_iff_eq.mpr c57
                   have c57b1 : (((rd_T34 t374 x14_2).f0) != ((rd_T34 l0 x15_2).f0)) = false := bne_eq_false_iff_eq.mpr c57
                   clear c57
                   by_cases c58 : ((rd_T34 t374 x14_2).f2) = ((rd_T34 l0 x15_2).f2)
                   ·rw [if_pos c58] at H
                    have c58b0 : (((rd_T34 t374 x14_2).f2) == ((rd_T34 l0 x15_2).f2)) = true := beq_iff_eq.mpr c58
                    have c58b1 : (((rd_T34 t374 x14_2).f2) != ((rd_T34 l0 x15_2).f2)) = false := bne_eq_false_iff_eq.mpr c58
                    clear c58
                    have H' := Aside0.mk H
                    clear H
                    obtain ⟨Ao59, co59, eo59⟩ := Kd.R_slice HO_9.out
                    subst eo59
                    have p393 : 0 ≤ (x14_2 : Int) := of_decide_eq_true (by first | (with_reducible assumption) | assumption)
                    have q393 : x14_2 < (t374.length : Int) := of_decide_eq_true (by first | (with_reducible assumption) | assumption)
                    obtain ⟨ad393, e393, hx393_0, hx393_1, hx393_2, hx393_3, hx393_4, hx393_5, hx393_6, hx393_7, hx393_8⟩ := at_T34 (Kd.R_reads' HO_9.out).2.2 x14_2 p393 q393
                    cases e393
                    replace p393 := eq_true p393
                    replace q393 := eq_true q393
                    have p394 : 0 ≤ (x15_2 : Int) := of_decide_eq_true (by first | (with_reducible assumption) | assumption)
                    have q394 : x15_2 < (l0.length : Int) := of_decide_eq_true (by first | (with_reducible assumption) | assumption)
                    obtain ⟨ad394, e394, hx394_0, hx394_1, hx394_2, hx394_3, hx394_4, hx394_5, hx394_6, hx394_7, hx394_8⟩ := at_T34 HR0.out x15_2 p394 q394
                    cases e394
                    replace hx394_0 := cb HB.out hx394_0
                    replace hx394_1 := cb HB.out hx394_1
                    replace hx394_2 := cb HB.out hx394_2
                    replace hx394_3 := cb HB.out hx394_3
                    replace hx394_4 := cb HB.out hx394_4
                    replace hx394_5 := cb HB.out hx394_5
                    replace hx394_6 := cb HB.out hx394_6
                    replace hx394_7 := cb HB.out hx394_7
                    replace hx394_8 := cb HB.out hx394_8
                    replace p394 := eq_true p394
                    replace q394 := eq_true q394
                    have p395 : 0 ≤ (x14_2 : Int) := of_decide_eq_true (by first | (with_reducible assumption) | assumption)
                    have q395 : x14_2 < (t374.length : Int) := of_decide_eq_true (by first | (with_reducible assumption) | assumption)
                    obtain ⟨ad395, e395, hx395_0, hx395_1, hx395_2, hx395_3, hx395_4, hx395_5, hx395_6, hx395_7, hx395_8⟩ := at_T34 (Kd.R_reads' HO_9.out).2.2 x14_2 p395 q395
                    obtain rfl : ad393 = ad395 := (by injection e395)
                    replace p395 := eq_true p395
                    replace q395 := eq_true q395
                    have p396 : 0 ≤ (x15_2 : Int) := of_decide_eq_true (by first | (with_reducible assumption) | assumption)
                    have q396 : x15_2 < (l0.length : Int) := of_decide_eq_true (by first | (with_reducible assumption) | assumption)
                    obtain ⟨ad396, e396, hx396_0, hx396_1, hx396_2, hx396_3, hx396_4, hx396_5, hx396_6, hx396_7, hx396_8⟩ := at_T34 HR0.out x15_2 p396 q396
                    obtain rfl : ad394 = ad396 := (by injection e396)
                    replace hx396_0 := cb HB.out hx396_0
                    replace hx396_1 := cb HB.out hx396_1
                    replace hx396_2 := cb HB.out hx396_2
                    replace hx396_3 := cb HB.out hx396_3
                    replace hx396_4 := cb HB.out hx396_4
                    replace hx396_5 := cb HB.out hx396_5
                    replace hx396_6 := cb HB.out hx396_6
                    replace hx396_7 := cb HB.out hx396_7
                    replace hx396_8 := cb HB.out hx396_8
                    replace p396 := eq_true p396
                    replace q396 := eq_true q396
                    have p397 : 0 ≤ (x14_2 : Int) := of_decide_eq_true (by first | (with_reducible assumption) | assumption)
                    have q397 : x14_2 < (t374.length : Int) := of_decide_eq_true (by first | (with_reducible assumption) | assumption)
                    obtain ⟨ad397, e397, hx397_0, hx397_1, hx397_2, hx397_3, hx397_4, hx397_5, hx397_6, hx397_7, hx397_8⟩ := at_T34 (Kd.R_reads' HO_9.out).2.2 x14_2 p397 q397
                    obtain rfl : ad393 = ad397 := (by injection e397)
                    replace p397 := eq_true p397
                    replace q397 := eq_true q397
                    have p398 : 0 ≤ (x15_2 : Int) := of_decide_eq_true (by first | (with_reducible assumption) | assumption)
                    have q398 : x15_2 < (l0.length : Int) := of_decide_eq_true (by first | (with_reducible assumption) | assumption)
                    obtain ⟨ad398, e398, hx398_0, hx398_1, hx398_2, hx398_3, hx398_4, hx398_5, hx398_6, hx398_7, hx398_8⟩ := at_T34 HR0.out x15_2 p398 q398
                    obtain rfl : ad394 = ad398 := (by injection e398)
                    replace hx398_0 := cb HB.out hx398_0
                    replace hx398_1 := cb HB.out hx398_1
                    replace hx398_2 := cb HB.out hx398_2
                    replace hx398_3 := cb HB.out hx398_3
                    replace hx398_4 := cb HB.out hx398_4
                    replace hx398_5 := cb HB.out hx398_5
                    replace hx398_6 := cb HB.out hx398_6
                    replace hx398_7 := cb HB.out hx398_7
                    replace hx398_8 := cb HB.out hx398_8
                    replace p398 := eq_true p398
                    replace q398 := eq_true q398
                    go_wp2
                    repeat (go_quiet (fail); try go_wp2)
                    go_meet
                    case rel => exact ⟨_, ((((rd_T34 t374 x14_2).f3) != ((rd_T34 l0 x15_2).f3))), (by first | rfl | (simp; done) | (simp [*]; done)), H', ⟨by have := HJ7.out; have := HK2.out; have := HJ29.out; have := HJ44.out; first | omega | exact Nat.le_refl _⟩, ⟨Kd.rx HO_3.out⟩, ⟨Kd.rx HO_7.out⟩, ⟨Kd.rx HO_9.out⟩, ⟨Kd.rx HO_11.out⟩, ⟨bl HB.out⟩⟩
                   ·rw [if_neg c58] at H
                    have c58b0 : (((rd_T34 t374 x14_2).f2) == ((rd_T34 l0 x15_2).f2)) = false := beq_eq_false_iff_ne.mpr c58
                    have c58b1 : (((rd_T34 t374 x14_2).f2) != ((rd_T34 l0 x15_2).f2)) = true := bne_iff_ne.mpr c58
                    have H' := Aside0.mk H
                    clear H
                    obtain ⟨Ao60, co60, eo60⟩ := Kd.R_slice HO_9.out
                    subst eo60
                    have p393 : 0 ≤ (x14_2 : Int) := of_decide_eq_true (by first | (with_reducible assumption) | assumption)
                    have q393 : x14_2 < (t374.length : Int) := of_decide_eq_true (by first | (with_reducible assumption) | assumption)
                    obtain ⟨ad393, e393, hx393_0, hx393_1, hx393_2, hx393_3, hx393_4, hx393_5, hx393_6, hx393_7, hx393_8⟩ := at_T34 (Kd.R_reads' HO_9.out).2.2 x14_2 p393 q393
                    cases e393
                    replace p393 := eq_true p393
                    replace q393 := eq_true q393
                    have p394 : 0 ≤ (x15_2 : Int) := of_decide_eq_true (by first | (with_reducible assumption) | assumption)
                    have q394 : x15_2 < (l0.length : Int) := of_decide_eq_true (by first | (with_reducible assumption) | assumption)
                    obtain ⟨ad394, e394, hx394_0, hx394_1, hx394_2, hx394_3, hx394_4, hx394_5, hx394_6, hx394_7, hx394_8⟩ := at_T34 HR0.out x15_2 p394 q394
                    cases e394
                    replace hx394_0 := cb HB.out hx394_0
                    replace hx394_1 := cb HB.out hx394_1
                    replace hx394_2 := cb HB.out hx394_2
                    replace hx394_3 := cb HB.out hx394_3
                    replace hx394_4 := cb HB.out hx394_4
                    replace hx394_5 := cb HB.out hx394_5
                    replace hx394_6 := cb HB.out hx394_6
                    replace hx394_7 := cb HB.out hx394_7
                    replace hx394_8 := cb HB.out hx394_8
                    replace p394 := eq_true p394
                    replace q394 := eq_true q394
                    have p395 : 0 ≤ (x14_2 : Int) := of_decide_eq_true (by first | (with_reducible assumption) | assumption)
                    have q395 : x14_2 < (t374.length : Int) := of_decide_eq_true (by first | (with_reducible assumption) | assumption)
                    obtain ⟨ad395, e395, hx395_0, hx395_1, hx395_2, hx395_3, hx395_4, hx395_5, hx395_6, hx395_7, hx395_8⟩ := at_T34 (Kd.R_reads' HO_9.out).2.2 x14_2 p395 q395
                    obtain rfl : ad393 = ad395 := (by injection e395)
                    replace p395 := eq_true p395
                    replace q395 := eq_true q395
                    have p396 : 0 ≤ (x15_2 : Int) := of_decide_eq_true (by first | (with_reducible assumption) | assumption)
                    have q396 : x15_2 < (l0.length : Int) := of_decide_eq_true (by first | (with_reducible assumption) | assumption)
                    obtain ⟨ad396, e396, hx396_0, hx396_1, hx396_2, hx396_3, hx396_4, hx396_5, hx396_6, hx396_7, hx396_8⟩ := at_T34 HR0.out x15_2 p396 q396
                    obtain rfl : ad394 = ad396 := (by injection e396)
                    replace hx396_0 := cb HB.out hx396_0
                    replace hx396_1 := cb HB.out hx396_1
                    replace hx396_2 := cb HB.out hx396_2
                    replace hx396_3 := cb HB.out hx396_3
                    replace hx396_4 := cb HB.out hx396_4
                    replace hx396_5 := cb HB.out hx396_5
                    replace hx396_6 := cb HB.out hx396_6
                    replace hx396_7 := cb HB.out hx396_7
                    replace hx396_8 := cb HB.out hx396_8
                    replace p396 := eq_true p396
                    replace q396 := eq_true q396
                    go_wp2
                    repeat (go_quiet (fail); try go_wp2)
                    go_meet
                    case rel => exact ⟨_, (true), (by first | rfl | (simp; done) | (simp [*]; done)), H', ⟨by have := HJ7.out; have := HK2.out; have := HJ29.out; have := HJ44.out; first | omega | exact Nat.le_refl _⟩, ⟨Kd.rx HO_3.out⟩, ⟨Kd.rx HO_7.out⟩, ⟨Kd.rx HO_9.out⟩, ⟨Kd.rx HO_11.out⟩, ⟨bl HB.out⟩⟩
                 ·rw [if_neg c57] at H
                  have c57b0 : (((rd_T34 t374 x14_2).f0) == ((rd_T34 l0 x15_2).f0)) = false := beq_eq_false_iff_ne.mpr c57
                  have c57b1 : (((rd_T34 t374 x14_2).f0) != ((rd_T34 l0 x15_2).f0)) = true := bne_iff_ne.mpr c57
                  have H' := Aside0.mk H
                  clear H
                  obtain ⟨Ao61, co61, eo61⟩ := Kd.R_slice HO_9.out
                  subst eo61
                  have p393 : 0 ≤ (x14_2 : Int) := of_decide_eq_true (by first | (with_reducible assumption) | assumption)
                  have q393 : x14_2 < (t374.length : Int) := of_decide_eq_true (by first | (with_reducible assumption) | assumption)
                  obtain ⟨ad393, e393, hx393_0, hx393_1, hx393_2, hx393_3, hx393_4, hx393_5, hx393_6, hx393_7, hx393_8⟩ := at_T34 (Kd.R_reads' HO_9.out).2.2 x14_2 p393 q393
                  cases e393
                  replace p393 := eq_true p393
                  replace q393 := eq_true q393
                  have p394 : 0 ≤ (x15_2 : Int) := of_decide_eq_true (by first | (with_reducible assumption) | assumption)
                  have q394 : x15_2 < (l0.length : Int) := of_decide_eq_true (by first | (with_reducible assumption) | assumption)
                  obtain ⟨ad394, e394, hx394_0, hx394_1, hx394_2, hx394_3, hx394_4, hx394_5, hx394_6, hx394_7, hx394_8⟩ := at_T34 HR0.out x15_2 p394 q394
                  cases e394
                  replace hx394_0 := cb HB.out hx394_0
                  replace hx394_1 := cb HB.out hx394_1
                  replace hx394_2 := cb HB.out hx394_2
                  replace hx394_3 := cb HB.out hx394_3
                  replace hx394_4 := cb HB.out hx394_4
                  replace hx394_5 := cb HB.out hx394_5
                  replace hx394_6 := cb HB.out hx394_6
                  replace hx394_7 := cb HB.out hx394_7
                  replace hx394_8 := cb HB.out hx394_8
                  replace p394 := eq_true p394
                  replace q394 := eq_true q394
                  go_wp2
                  repeat (go_quiet (fail); try go_wp2)
                  go_meet
                  case rel => exact ⟨_, (true), (by first | rfl | (simp; done) | (simp [*]; done)), H', ⟨by have := HJ7.out; have := HK2.out; have := HJ29.out; have := HJ44.out; first | omega | exact Nat.le_refl _⟩, ⟨Kd.rx HO_3.out⟩, ⟨Kd.rx HO_7.out⟩, ⟨Kd.rx HO_9.out⟩, ⟨Kd.rx HO_11.out⟩, ⟨bl HB.out⟩⟩
               case rest =>
                as_aux_lemma =>
                 clear HC50
                 (try clear c1); (try clear c2); (try clear p2); (try clear c3); (try clear p3); (try clear q3); (try clear hx3); (try clear c4); (try clear c5); (try clear c6); (try clear c6b0); (try clear c6b1); (try clear p6); (try clear c14); (try clear c14b0); (try clear c14b1); (try clear c15); (try clear c15b0); (try clear c15b1); (try clear c16); (try clear c16b0); (try clear c16b1); (try clear c17); (try clear c17b0); (try clear c17b1); (try clear c18); (try clear c18b0); (try clear c18b1); (try clear c18b2); (try clear c19); (try clear c19b0); (try clear c19b1); (try clear c19b2); (try clear c26); (try clear c27); (try clear c27b0); (try clear c28); (try clear c28b0); (try clear c29); (try clear c29b0); (try clear q32); (try clear c33); (try clear c34); (try clear c34b0); (try clear c36); (try clear c36b0); (try clear c37); (try clear c37b0); (try clear c38); (try clear c38b0); (try clear c38b1); (try clear p38); (try clear q38); (try clear hx38); (try clear c39); (try clear c39b0); (try clear p39); (try clear q39); (try clear hx39); (try clear c41); (try clear c41b0); (try clear c41b1); (try clear c46); (try clear c46b0); (try clear c47); (try clear c47b0); (try clear c48); (try clear c48b0); (try clear c48b1); (try clear c49); (try clear c51); (try clear c51b0); (try clear c53); (try clear c53b0); (try clear c54); (try clear c54b0); (try clear c55); (try clear c55b0); (try clear c56); (try clear c56b0); (try clear c57); (try clear c57b0); (try clear c57b1); (try clear c58); (try clear c58b0); (try clear c58b1); (try clear hx384_0); (try clear hx385_0); (try clear hx385_1); (try clear hx385_2); (try clear hx385_3); (try clear hx385_4); (try clear hx385_5); (try clear hx385_6); (try clear hx385_7); (try clear hx385_8); (try clear hx386_0); (try clear hx386_1); (try clear hx386_2); (try clear hx386_3); (try clear hx386_4); (try clear hx386_5); (try clear hx386_6); (try clear hx386_7); (try clear hx386_8); (try clear hx387_0); (try clear hx387_1); (try clear hx387_2); (try clear hx387_3); (try clear hx387_4); (try clear hx387_5); (try clear hx387_6); (try clear hx387_7); (try clear hx387_8); (try clear hx388_0); (try clear hx388_1); (try clear hx388_2); (try clear hx388_3); (try clear hx388_4); (try clear hx388_5); (try clear hx388_6); (try clear hx388_7); (try clear hx388_8); (try clear hx389_0); (try clear hx389_1); (try clear hx389_2); (try clear hx389_3); (try clear hx389_4); (try clear hx389_5); (try clear hx389_6); (try clear hx389_7); (try clear hx389_8); (try clear hx390_0); (try clear hx390_1); (try clear hx390_2); (try clear hx390_3); (try clear hx390_4); (try clear hx390_5); (try clear hx390_6); (try clear hx390_7); (try clear hx390_8); (try clear hx391_0); (try clear hx391_1); (try clear hx391_2); (try clear hx391_3); (try clear hx391_4); (try clear hx391_5); (try clear hx391_6); (try clear hx391_7); (try clear hx391_8); (try clear hx392_0); (try clear hx392_1); (try clear hx392_2); (try clear hx392_3); (try clear hx392_4); (try clear hx392_5); (try clear hx392_6); (try clear hx392_7); (try clear hx392_8); (try clear hx393_0); (try clear hx393_1); (try clear hx393_2); (try clear hx393_3); (try clear hx393_4); (try clear hx393_5); (try clear hx393_6); (try clear hx393_7); (try clear hx393_8); (try clear hx394_0); (try clear hx394_1); (try clear hx394_2); (try clear hx394_3); (try clear hx394_4); (try clear hx394_5); (try clear hx394_6); (try clear hx394_7); (try clear hx394_8); (try clear hx395_0); (try clear hx395_1); (try clear hx395_2); (try clear hx395_3); (try clear hx395_4); (try clear hx395_5); (try clear hx395_6); (try clear hx395_7); (try clear hx395_8); (try clear hx396_0); (try clear hx396_1); (try clear hx396_2); (try clear hx396_3); (try clear hx396_4); (try clear hx396_5); (try clear hx396_6); (try clear hx396_7); (try clear hx396_8); (try clear hx397_0); (try clear hx397_1); (try clear hx397_2); (try clear hx397_3); (try clear hx397_4); (try clear hx397_5); (try clear hx397_6); (try clear hx397_7); (try clear hx397_8); (try clear hx398_0); (try clear hx398_1); (try clear hx398_2); (try clear hx398_3); (try clear hx398_4); (try clear hx398_5); (try clear hx398_6); (try clear hx398_7); (try clear hx398_8); (try clear p2); (try clear p3); (try clear p38); (try clear p384); (try clear p385); (try clear p386); (try clear p387); (try clear p388); (try clear p389); (try clear p39); (try clear p390); (try clear p391); (try clear p392); (try clear p393); (try clear p394); (try clear p395); (try clear p396); (try clear p397); (try clear p398); (try clear p6); (try clear q3); (try clear q32); (try clear q38); (try clear q384); (try clear q385); (try clear q386); (try clear q387); (try clear q388); (try clear q389); (try clear q39); (try clear q390); (try clear q391); (try clear q392); (try clear q393); (try clear q394); (try clear q395); (try clear q396); (try clear q397); (try clear q398)
                 obtain ⟨kq, x219_49, rfl, HA, HJ49, HO_3, HO_7, HO_9, HO_11, HB⟩ := hcut
                 cases kq with
                 | zero => exact absurd HA.out (by simp [harrowlaw20_PeepKinds.j4])
                 | succ kj49 =>
                  have H := HA.out
                  clear HA
                  simp only [harrowlaw20_PeepKinds.j4] at H
                  by_cases c62 : x219_49 = true
                  ·subst c62
                   have H1 : (some false) = some r := by rw [if_pos rfl] at H; exact H
                   clear H
                   have H := H1
                   clear H1
                   obtain rfl := Option.some.inj H
                   go_wp2
                   repeat (go_quiet (fail); try go_wp2)
                   go_ret
                   exact ⟨by first | rfl | (simp [errW_none, errW_some] <;> rfl) | (simp [*, errW_none, errW_some] <;> rfl), bl HB.out⟩
                  ·replace c62 := Bool.eq_false_iff.mpr c62
                   subst c62
                   have H1 : (if 0 ≤ x15_2 then (if x15_2 < (t362.length : Int) then (if x15_2 < (l0.length : Int) then (if ((rd_T34 t362 x15_2).f0) = ((rd_T34 l0 x15_2).f0) then (harrowlaw20_PeepKinds.l0 kj49 l0 t362 t370 t374 t379 x13_29 (wrap64 (x14_2 + 1)) (wrap64 (x15_2 + 1))) else (if ((rd_T34 l0 x15_2).f0) = 15 then (if ((rd_T34 t362 x15_2).f0) = 14 then (if (((rd_T34 t362 x15_2).f1) = ((rd_T34 l0 x15_2).f1)) then (harrowlaw20_PeepKinds.l0 kj49 l0 t362 t370 t374 t379 x13_29 (wrap64 (x14_2 + 1)) (wrap64 (x15_2 + 1))) else (some false)) else (some false)) else (some false))) else (none)) else (none)) else (none)) = some r := by rw [if_neg (show ¬ (false = true) by decide)] at H; exact H
                   clear H
                   have H := H1
                   clear H1
                   replace H := iteP H; obtain ⟨c63, H⟩ := H
                   have c63b0 : decide (0 ≤ x15_2) = true := decide_eq_true c63
                   clear c63
                   replace H := iteP H; obtain ⟨c64, H⟩ := H
                   have c64b0 : decide (x15_2 < (t362.length : Int)) = true := decide_eq_true c64
                   clear c64
                   replace H := iteP H; obtain ⟨c65, H⟩ := H
                   have c65b0 : decide (x15_2 < (l0.length : Int)) = true := decide_eq_true c65
                   clear c65
                   by_cases c66 : ((rd_T34 t362 x15_2).f0) = ((rd_T34 l0 x15_2).f0)
                   ·rw [if_pos c66] at H
                    have c66b0 : (((rd_T34 t362 x15_2).f0) == ((rd_T34 l0 x15_2).f0)) = true := beq_iff_eq.mpr c66
                    have c66b1 : (((rd_T34 t362 x15_2).f0) != ((rd_T34 l0 x15_2).f0)) = false := bne_eq_false_iff_eq.mpr c66
                    clear c66
                    have H' := Aside0.mk H
                    clear H
                    obtain ⟨Ao67, co67, eo67⟩ := Kd.R_slice HO_3.out
                    subst eo67
                    have p399 : 0 ≤ (x15_2 : Int) := of_decide_eq_true (by first | (with_reducible assumption) | assumption)
                    have q399 : x15_2 < (t362.length : Int) := of_decide_eq_true (by first | (with_reducible assumption) | assumption)
                    obtain ⟨ad399, e399, hx399_0, hx399_1, hx399_2, hx399_3, hx399_4, hx399_5, hx399_6, hx399_7, hx399_8⟩ := at_T34 (Kd.R_reads' HO_3.out).2.2 x15_2 p399 q399
                    cases e399
                    replace p399 := eq_true p399
                    replace q399 := eq_true q399
                    have p400 : 0 ≤ (x15_2 : Int) := of_decide_eq_true (by first | (with_reducible assumption) | assumption)
                    have q400 : x15_2 < (l0.length : Int) := of_decide_eq_true (by first | (with_reducible assumption) | assumption)
                    obtain ⟨ad400, e400, hx400_0, hx400_1, hx400_2, hx400_3, hx400_4, hx400_5, hx400_6, hx400_7, hx400_8⟩ := at_T34 HR0.out x15_2 p400 q400
                    cases e400
                    replace hx400_0 := cb HB.out hx400_0
                    replace hx400_1 := cb HB.out hx400_1
                    replace hx400_2 := cb HB.out hx400_2
                    replace hx400_3 := cb HB.out hx400_3
                    replace hx400_4 := cb HB.out hx400_4
                    replace hx400_5 := cb HB.out hx400_5
                    replace hx400_6 := cb HB.out hx400_6
                    replace hx400_7 := cb HB.out hx400_7
                    replace hx400_8 := cb HB.out hx400_8
                    replace p400 := eq_true p400
                    replace q400 := eq_true q400
                    go_wp2
                    repeat (go_quiet (fail); try go_wp2)
                    go_roundg kj49
                    case measure => have := HJ7.out; have := HK2.out; have := HJ29.out; have := HJ44.out; have := HJ49.out; omega
                    case rel => exact ⟨(x13_29), (wrap64 (x14_2 + 1)), (wrap64 (x15_2 + 1)), (by first | rfl | (simp; done) | (simp [*]; done)), (by first | rfl | (simp; done) | (simp [*]; done)), (by first | rfl | (simp; done) | (simp [*]; done)), H', ⟨by have := HJ7.out; have := HK2.out; have := HJ29.out; have := HJ44.out; have := HJ49.out; omega⟩, ⟨Kd.rx HO_3.out⟩, ⟨Kd.rx HO_7.out⟩, ⟨Kd.rx HO_9.out⟩, ⟨Kd.rx HO_11.out⟩, ⟨bl HB.out⟩⟩
                   ·rw [if_neg c66] at H
                    have c66b0 : (((rd_T34 t362 x15_2).f0) == ((rd_T34 l0 x15_2).f0)) = false := beq_eq_false_iff_ne.mpr c66
                    have c66b1 : (((rd_T34 t362 x15_2).f0) != ((rd_T34 l0 x15_2).f0)) = true := bne_iff_ne.mpr c66
                    by_cases c68 : ((rd_T34 l0 x15_2).f0) = 15
                    ·rw [if_pos c68] at H
                     have c68b0 : (((rd_T34 l0 x15_2).f0) == 15) = true := beq_iff_eq.mpr c68
                     have c68b1 : (((rd_T34 l0 x15_2).f0) != 15) = false := bne_eq_false_iff_eq.mpr c68
                     clear c68
                     by_cases c69 : ((rd_T34 t362 x15_2).f0) = 14
                     ·as_aux_lemma =>
                       rw [if_pos c69] at H
                       have c69b0 : (((rd_T34 t362 x15_2).f0) == 14) = true := beq_iff_eq.mpr c69
                       have c69b1 : (((rd_T34 t362 x15_2).f0) != 14) = false := bne_eq_false_iff_eq.mpr c69
                       clear c69
                       by_cases c70 : (((rd_T34 t362 x15_2).f1) = ((rd_T34 l0 x15_2).f1))
                       ·rw [if_pos c70] at H
                        have c70b0 : (((rd_T34 t362 x15_2).f1) == ((rd_T34 l0 x15_2).f1)) = true := beq_iff_eq.mpr c70
                        have c70b1 : (((rd_T34 t362 x15_2).f1) != ((rd_T34 l0 x15_2).f1)) = false := bne_eq_false_iff_eq.mpr c70
                        clear c70
                        have H' := Aside0.mk H
                        clear H
                        obtain ⟨Ao71, co71, eo71⟩ := Kd.R_slice HO_3.out
                        subst eo71
                        have p399 : 0 ≤ (x15_2 : Int) := of_decide_eq_true (by first | (with_reducible assumption) | assumption)
                        have q399 : x15_2 < (t362.length : Int) := of_decide_eq_true (by first | (with_reducible assumption) | assumption)
                        obtain ⟨ad399, e399, hx399_0, hx399_1, hx399_2, hx399_3, hx399_4, hx399_5, hx399_6, hx399_7, hx399_8⟩ := at_T34 (Kd.R_reads' HO_3.out).2.2 x15_2 p399 q399
                        cases e399
                        replace p399 := eq_true p399
                        replace q399 := eq_true q399
                        have p400 : 0 ≤ (x15_2 : Int) := of_decide_eq_true (by first | (with_reducible assumption) | assumption)
                        have q400 : x15_2 < (l0.length : Int) := of_decide_eq_true (by first | (with_reducible assumption) | assumption)
                        obtain ⟨ad400, e400, hx400_0, hx400_1, hx400_2, hx400_3, hx400_4, hx400_5, hx400_6, hx400_7, hx400_8⟩ := at_T34 HR0.out x15_2 p400 q400
                        cases e400
                        replace hx400_0 := cb HB.out hx400_0
                        replace hx400_1 := cb HB.out hx400_1
                        replace hx400_2 := cb HB.out hx400_2
                        replace hx400_3 := cb HB.out hx400_3
                        replace hx400_4 := cb HB.out hx400_4
                        replace hx400_5 := cb HB.out hx400_5
                        replace hx400_6 := cb HB.out hx400_6
                        replace hx400_7 := cb HB.out hx400_7
                        replace hx400_8 := cb HB.out hx400_8
                        replace p400 := eq_true p400
                        replace q400 := eq_true q400
                        have p401 : 0 ≤ (x15_2 : Int) := of_decide_eq_true (by first | (with_reducible assumption) | assumption)
                        have q401 : x15_2 < (l0.length : Int) := of_decide_eq_true (by first | (with_reducible assumption) | assumption)
                        obtain ⟨ad401, e401, hx401_0, hx401_1, hx401_2, hx401_3, hx401_4, hx401_5, hx401_6, hx401_7, hx401_8⟩ := at_T34 HR0.out x15_2 p401 q401
                        obtain rfl : ad400 = ad401 := (by injection e401)
                        replace hx401_0 := cb HB.out hx401_0
                        replace hx401_1 := cb HB.out hx401_1
                        replace hx401_2 := cb HB.out hx401_2
                        replace hx401_3 := cb HB.out hx401_3
                        replace hx401_4 := cb HB.out hx401_4
                        replace hx401_5 := cb HB.out hx401_5
                        replace hx401_6 := cb HB.out hx401_6
                        replace hx401_7 := cb HB.out hx401_7
                        replace hx401_8 := cb HB.out hx401_8
                        replace p401 := eq_true p401
                        replace q401 := eq_true q401
                        have p402 : 0 ≤ (x15_2 : Int) := of_decide_eq_true (by first | (with_reducible assumption) | assumption)
                        have q402 : x15_2 < (t362.length : Int) := of_decide_eq_true (by first | (with_reducible assumption) | assumption)
                        obtain ⟨ad402, e402, hx402_0, hx402_1, hx402_2, hx402_3, hx402_4, hx402_5, hx402_6, hx402_7, hx402_8⟩ := at_T34 (Kd.R_reads' HO_3.out).2.2 x15_2 p402 q402
                        obtain rfl : ad399 = ad402 := (by injection e402)
                        replace p402 := eq_true p402
                        replace q402 := eq_true q402
                        have p403 : 0 ≤ (x15_2 : Int) := of_decide_eq_true (by first | (with_reducible assumption) | assumption)
                        have q403 : x15_2 < (t362.length : Int) := of_decide_eq_true (by first | (with_reducible assumption) | assumption)
                        obtain ⟨ad403, e403, hx403_0, hx403_1, hx403_2, hx403_3, hx403_4, hx403_5, hx403_6, hx403_7, hx403_8⟩ := at_T34 (Kd.R_reads' HO_3.out).2.2 x15_2 p403 q403
                        obtain rfl : ad399 = ad403 := (by injection e403)
                        replace p403 := eq_true p403
                        replace q403 := eq_true q403
                        have p404 : 0 ≤ (x15_2 : Int) := of_decide_eq_true (by first | (with_reducible assumption) | assumption)
                        have q404 : x15_2 < (l0.length : Int) := of_decide_eq_true (by first | (with_reducible assumption) | assumption)
                        obtain ⟨ad404, e404, hx404_0, hx404_1, hx404_2, hx404_3, hx404_4, hx404_5, hx404_6, hx404_7, hx404_8⟩ := at_T34 HR0.out x15_2 p404 q404
                        obtain rfl : ad400 = ad404 := (by injection e404)
                        replace hx404_0 := cb HB.out hx404_0
                        replace hx404_1 := cb HB.out hx404_1
                        replace hx404_2 := cb HB.out hx404_2
                        replace hx404_3 := cb HB.out hx404_3
                        replace hx404_4 := cb HB.out hx404_4
                        replace hx404_5 := cb HB.out hx404_5
                        replace hx404_6 := cb HB.out hx404_6
                        replace hx404_7 := cb HB.out hx404_7
                        replace hx404_8 := cb HB.out hx404_8
                        replace p404 := eq_true p404
                        replace q404 := eq_true q404
                        go_wp2
                        repeat (go_quiet (fail); try go_wp2)
                        go_roundg kj49
                        case measure => have := HJ7.out; have := HK2.out; have := HJ29.out; have := HJ44.out; have := HJ49.out; omega
                        case rel => exact ⟨(x13_29), (wrap64 (x14_2 + 1)), (wrap64 (x15_2 + 1)), (by first | rfl | (simp; done) | (simp [*]; done)), (by first | rfl | (simp; done) | (simp [*]; done)), (by first | rfl | (simp; done) | (simp [*]; done)), H', ⟨by have := HJ7.out; have := HK2.out; have := HJ29.out; have := HJ44.out; have := HJ49.out; omega⟩, ⟨Kd.rx HO_3.out⟩, ⟨Kd.rx HO_7.out⟩, ⟨Kd.rx HO_9.out⟩, ⟨Kd.rx HO_11.out⟩, ⟨bl HB.out⟩⟩
                       ·rw [if_neg c70] at H
                        have c70b0 : (((rd_T34 t362 x15_2).f1) == ((rd_T34 l0 x15_2).f1)) = false := beq_eq_false_iff_ne.mpr c70
                        have c70b1 : (((rd_T34 t362 x15_2).f1) != ((rd_T34 l0 x15_2).f1)) = true := bne_iff_ne.mpr c70
                        obtain rfl := Option.some.inj H
                        obtain ⟨Ao72, co72, eo72⟩ := Kd.R_slice HO_3.out
                        subst eo72
                        have p399 : 0 ≤ (x15_2 : Int) := of_decide_eq_true (by first | (with_reducible assumption) | assumption)
                        have q399 : x15_2 < (t362.length : Int) := of_decide_eq_true (by first | (with_reducible assumption) | assumption)
                        obtain ⟨ad399, e399, hx399_0, hx399_1, hx399_2, hx399_3, hx399_4, hx399_5, hx399_6, hx399_7, hx399_8⟩ := at_T34 (Kd.R_reads' HO_3.out).2.2 x15_2 p399 q399
                        cases e399
                        replace p399 := eq_true p399
                        replace q399 := eq_true q399
                        have p400 : 0 ≤ (x15_2 : Int) := of_decide_eq_true (by first | (with_reducible assumption) | assumption)
                        have q400 : x15_2 < (l0.length : Int) := of_decide_eq_true (by first | (with_reducible assumption) | assumption)
                        obtain ⟨ad400, e400, hx400_0, hx400_1, hx400_2, hx400_3, hx400_4, hx400_5, hx400_6, hx400_7, hx400_8⟩ := at_T34 HR0.out x15_2 p400 q400
                        cases e400
                        replace hx400_0 := cb HB.out hx400_0
                        replace hx400_1 := cb HB.out hx400_1
                        replace hx400_2 := cb HB.out hx400_2
                        replace hx400_3 := cb HB.out hx400_3
                        replace hx400_4 := cb HB.out hx400_4
                        replace hx400_5 := cb HB.out hx400_5
                        replace hx400_6 := cb HB.out hx400_6
                        replace hx400_7 := cb HB.out hx400_7
                        replace hx400_8 := cb HB.out hx400_8
                        replace p400 := eq_true p400
                        replace q400 := eq_true q400
                        have p401 : 0 ≤ (x15_2 : Int) := of_decide_eq_true (by first | (with_reducible assumption) | assumption)
                        have q401 : x15_2 < (l0.length : Int) := of_decide_eq_true (by first | (with_reducible assumption) | assumption)
                        obtain ⟨ad401, e401, hx401_0, hx401_1, hx401_2, hx401_3, hx401_4, hx401_5, hx401_6, hx401_7, hx401_8⟩ := at_T34 HR0.out x15_2 p401 q401
                        obtain rfl : ad400 = ad401 := (by injection e401)
                        replace hx401_0 := cb HB.out hx401_0
                        replace hx401_1 := cb HB.out hx401_1
                        replace hx401_2 := cb HB.out hx401_2
                        replace hx401_3 := cb HB.out hx401_3
                        replace hx401_4 := cb HB.out hx401_4
                        replace hx401_5 := cb HB.out hx401_5
                        replace hx401_6 := cb HB.out hx401_6
                        replace hx401_7 := cb HB.out hx401_7
                        replace hx401_8 := cb HB.out hx401_8
                        replace p401 := eq_true p401
                        replace q401 := eq_true q401
                        have p402 : 0 ≤ (x15_2 : Int) := of_decide_eq_true (by first | (with_reducible assumption) | assumption)
                        have q402 : x15_2 < (t362.length : Int) := of_decide_eq_true (by first | (with_reducible assumption) | assumption)
                        obtain ⟨ad402, e402, hx402_0, hx402_1, hx402_2, hx402_3, hx402_4, hx402_5, hx402_6, hx402_7, hx402_8⟩ := at_T34 (Kd.R_reads' HO_3.out).2.2 x15_2 p402 q402
                        obtain rfl : ad399 = ad402 := (by injection e402)
                        replace p402 := eq_true p402
                        replace q402 := eq_true q402
                        have p403 : 0 ≤ (x15_2 : Int) := of_decide_eq_true (by first | (with_reducible assumption) | assumption)
                        have q403 : x15_2 < (t362.length : Int) := of_decide_eq_true (by first | (with_reducible assumption) | assumption)
                        obtain ⟨ad403, e403, hx403_0, hx403_1, hx403_2, hx403_3, hx403_4, hx403_5, hx403_6, hx403_7, hx403_8⟩ := at_T34 (Kd.R_reads' HO_3.out).2.2 x15_2 p403 q403
                        obtain rfl : ad399 = ad403 := (by injection e403)
                        replace p403 := eq_true p403
                        replace q403 := eq_true q403
                        have p404 : 0 ≤ (x15_2 : Int) := of_decide_eq_true (by first | (with_reducible assumption) | assumption)
                        have q404 : x15_2 < (l0.length : Int) := of_decide_eq_true (by first | (with_reducible assumption) | assumption)
                        obtain ⟨ad404, e404, hx404_0, hx404_1, hx404_2, hx404_3, hx404_4, hx404_5, hx404_6, hx404_7, hx404_8⟩ := at_T34 HR0.out x15_2 p404 q404
                        obtain rfl : ad400 = ad404 := (by injection e404)
                        replace hx404_0 := cb HB.out hx404_0
                        replace hx404_1 := cb HB.out hx404_1
                        replace hx404_2 := cb HB.out hx404_2
                        replace hx404_3 := cb HB.out hx404_3
                        replace hx404_4 := cb HB.out hx404_4
                        replace hx404_5 := cb HB.out hx404_5
                        replace hx404_6 := cb HB.out hx404_6
                        replace hx404_7 := cb HB.out hx404_7
                        replace hx404_8 := cb HB.out hx404_8
                        replace p404 := eq_true p404
                        replace q404 := eq_true q404
                        go_wp2
                        repeat (go_quiet (fail); try go_wp2)
                        go_ret
                        exact ⟨by first | rfl | (simp [errW_none, errW_some] <;> rfl) | (simp [*, errW_none, errW_some] <;> rfl), bl HB.out⟩
                     ·rw [if_neg c69] at H
                      have c69b0 : (((rd_T34 t362 x15_2).f0) == 14) = false := beq_eq_false_iff_ne.mpr c69
                      have c69b1 : (((rd_T34 t362 x15_2).f0) != 14) = true := bne_iff_ne.mpr c69
                      obtain rfl := Option.some.inj H
                      obtain ⟨Ao73, co73, eo73⟩ := Kd.R_slice HO_3.out
                      subst eo73
                      have p399 : 0 ≤ (x15_2 : Int) := of_decide_eq_true (by first | (with_reducible assumption) | assumption)
                      have q399 : x15_2 < (t362.length : Int) := of_decide_eq_true (by first | (with_reducible assumption) | assumption)
                      obtain ⟨ad399, e399, hx399_0, hx399_1, hx399_2, hx399_3, hx399_4, hx399_5, hx399_6, hx399_7, hx399_8⟩ := at_T34 (Kd.R_reads' HO_3.out).2.2 x15_2 p399 q399
                      cases e399
                      replace p399 := eq_true p399
                      replace q399 := eq_true q399
                      have p400 : 0 ≤ (x15_2 : Int) := of_decide_eq_true (by first | (with_reducible assumption) | assumption)
                      have q400 : x15_2 < (l0.length : Int) := of_decide_eq_true (by first | (with_reducible assumption) | assumption)
                      obtain ⟨ad400, e400, hx400_0, hx400_1, hx400_2, hx400_3, hx400_4, hx400_5, hx400_6, hx400_7, hx400_8⟩ := at_T34 HR0.out x15_2 p400 q400
                      cases e400
                      replace hx400_0 := cb HB.out hx400_0
                      replace hx400_1 := cb HB.out hx400_1
                      replace hx400_2 := cb HB.out hx400_2
                      replace hx400_3 := cb HB.out hx400_3
                      replace hx400_4 := cb HB.out hx400_4
                      replace hx400_5 := cb HB.out hx400_5
                      replace hx400_6 := cb HB.out hx400_6
                      replace hx400_7 := cb HB.out hx400_7
                      replace hx400_8 := cb HB.out hx400_8
                      replace p400 := eq_true p400
                      replace q400 := eq_true q400
                      have p401 : 0 ≤ (x15_2 : Int) := of_decide_eq_true (by first | (with_reducible assumption) | assumption)
                      have q401 : x15_2 < (l0.length : Int) := of_decide_eq_true (by first | (with_reducible assumption) | assumption)
                      obtain ⟨ad401, e401, hx401_0, hx401_1, hx401_2, hx401_3, hx401_4, hx401_5, hx401_6, hx401_7, hx401_8⟩ := at_T34 HR0.out x15_2 p401 q401
                      obtain rfl : ad400 = ad401 := (by injection e401)
                      replace hx401_0 := cb HB.out hx401_0
                      replace hx401_1 := cb HB.out hx401_1
                      replace hx401_2 := cb HB.out hx401_2
                      replace hx401_3 := cb HB.out hx401_3
                      replace hx401_4 := cb HB.out hx401_4
                      replace hx401_5 := cb HB.out hx401_5
                      replace hx401_6 := cb HB.out hx401_6
                      replace hx401_7 := cb HB.out hx401_7
                      replace hx401_8 := cb HB.out hx401_8
                      replace p401 := eq_true p401
                      replace q401 := eq_true q401
                      have p402 : 0 ≤ (x15_2 : Int) := of_decide_eq_true (by first | (with_reducible assumption) | assumption)
                      have q402 : x15_2 < (t362.length : Int) := of_decide_eq_true (by first | (with_reducible assumption) | assumption)
                      obtain ⟨ad402, e402, hx402_0, hx402_1, hx402_2, hx402_3, hx402_4, hx402_5, hx402_6, hx402_7, hx402_8⟩ := at_T34 (Kd.R_reads' HO_3.out).2.2 x15_2 p402 q402
                      obtain rfl : ad399 = ad402 := (by injection e402)
                      replace p402 := eq_true p402
                      replace q402 := eq_true q402
                      go_wp2
                      repeat (go_quiet (fail); try go_wp2)
                      go_ret
                      exact ⟨by first | rfl | (simp [errW_none, errW_some] <;> rfl) | (simp [*, errW_none, errW_some] <;> rfl), bl HB.out⟩
                    ·rw [if_neg c68] at H
                     have c68b0 : (((rd_T34 l0 x15_2).f0) == 15) = false := beq_eq_false_iff_ne.mpr c68
                     have c68b1 : (((rd_T34 l0 x15_2).f0) != 15) = true := bne_iff_ne.mpr c68
                     obtain rfl := Option.some.inj H
                     obtain ⟨Ao74, co74, eo74⟩ := Kd.R_slice HO_3.out
                     subst eo74
                     have p399 : 0 ≤ (x15_2 : Int) := of_decide_eq_true (by first | (with_reducible assumption) | assumption)
                     have q399 : x15_2 < (t362.length : Int) := of_decide_eq_true (by first | (with_reducible assumption) | assumption)
                     obtain ⟨ad399, e399, hx399_0, hx399_1, hx399_2, hx399_3, hx399_4, hx399_5, hx399_6, hx399_7, hx399_8⟩ := at_T34 (Kd.R_reads' HO_3.out).2.2 x15_2 p399 q399
                     cases e399
                     replace p399 := eq_true p399
                     replace q399 := eq_true q399
                     have p400 : 0 ≤ (x15_2 : Int) := of_decide_eq_true (by first | (with_reducible assumption) | assumption)
                     have q400 : x15_2 < (l0.length : Int) := of_decide_eq_true (by first | (with_reducible assumption) | assumption)
                     obtain ⟨ad400, e400, hx400_0, hx400_1, hx400_2, hx400_3, hx400_4, hx400_5, hx400_6, hx400_7, hx400_8⟩ := at_T34 HR0.out x15_2 p400 q400
                     cases e400
                     replace hx400_0 := cb HB.out hx400_0
                     replace hx400_1 := cb HB.out hx400_1
                     replace hx400_2 := cb HB.out hx400_2
                     replace hx400_3 := cb HB.out hx400_3
                     replace hx400_4 := cb HB.out hx400_4
                     replace hx400_5 := cb HB.out hx400_5
                     replace hx400_6 := cb HB.out hx400_6
                     replace hx400_7 := cb HB.out hx400_7
                     replace hx400_8 := cb HB.out hx400_8
                     replace p400 := eq_true p400
                     replace q400 := eq_true q400
                     have p401 : 0 ≤ (x15_2 : Int) := of_decide_eq_true (by first | (with_reducible assumption) | assumption)
                     have q401 : x15_2 < (l0.length : Int) := of_decide_eq_true (by first | (with_reducible assumption) | assumption)
                     obtain ⟨ad401, e401, hx401_0, hx401_1, hx401_2, hx401_3, hx401_4, hx401_5, hx401_6, hx401_7, hx401_8⟩ := at_T34 HR0.out x15_2 p401 q401
                     obtain rfl : ad400 = ad401 := (by injection e401)
                     replace hx401_0 := cb HB.out hx401_0
                     replace hx401_1 := cb HB.out hx401_1
                     replace hx401_2 := cb HB.out hx401_2
                     replace hx401_3 := cb HB.out hx401_3
                     replace hx401_4 := cb HB.out hx401_4
                     replace hx401_5 := cb HB.out hx401_5
                     replace hx401_6 := cb HB.out hx401_6
                     replace hx401_7 := cb HB.out hx401_7
                     replace hx401_8 := cb HB.out hx401_8
                     replace p401 := eq_true p401
                     replace q401 := eq_true q401
                     go_wp2
                     repeat (go_quiet (fail); try go_wp2)
                     go_ret
                     exact ⟨by first | rfl | (simp [errW_none, errW_some] <;> rfl) | (simp [*, errW_none, errW_some] <;> rfl), bl HB.out⟩
              ·replace c49 := Bool.eq_false_iff.mpr c49
               subst c49
               have H1 : (if 0 ≤ x15_2 then (if x15_2 < (t362.length : Int) then (if x15_2 < (l0.length : Int) then (if ((rd_T34 t362 x15_2).f0) = ((rd_T34 l0 x15_2).f0) then (harrowlaw20_PeepKinds.l0 kj44 l0 t362 t370 t374 t379 x13_29 x14_2 (wrap64 (x15_2 + 1))) else (if ((rd_T34 l0 x15_2).f0) = 15 then (if ((rd_T34 t362 x15_2).f0) = 14 then (if (((rd_T34 t362 x15_2).f1) = ((rd_T34 l0 x15_2).f1)) then (harrowlaw20_PeepKinds.l0 kj44 l0 t362 t370 t374 t379 x13_29 x14_2 (wrap64 (x15_2 + 1))) else (some false)) else (some false)) else (some false))) else (none)) else (none)) else (none)) = some r := by rw [if_neg (show ¬ (false = true) by decide)] at H; exact H
               clear H
               have H := H1
               clear H1
               replace H := iteP H; obtain ⟨c75, H⟩ := H
               have c75b0 : decide (0 ≤ x15_2) = true := decide_eq_true c75
               clear c75
               replace H := iteP H; obtain ⟨c76, H⟩ := H
               have c76b0 : decide (x15_2 < (t362.length : Int)) = true := decide_eq_true c76
               clear c76
               replace H := iteP H; obtain ⟨c77, H⟩ := H
               have c77b0 : decide (x15_2 < (l0.length : Int)) = true := decide_eq_true c77
               clear c77
               by_cases c78 : ((rd_T34 t362 x15_2).f0) = ((rd_T34 l0 x15_2).f0)
               ·rw [if_pos c78] at H
                have c78b0 : (((rd_T34 t362 x15_2).f0) == ((rd_T34 l0 x15_2).f0)) = true := beq_iff_eq.mpr c78
                have c78b1 : (((rd_T34 t362 x15_2).f0) != ((rd_T34 l0 x15_2).f0)) = false := bne_eq_false_iff_eq.mpr c78
                clear c78
                have H' := Aside0.mk H
                clear H
                obtain ⟨Ao79, co79, eo79⟩ := Kd.R_slice HO_3.out
                subst eo79
                have p405 : 0 ≤ (x15_2 : Int) := of_decide_eq_true (by first | (with_reducible assumption) | assumption)
                have q405 : x15_2 < (t362.length : Int) := of_decide_eq_true (by first | (with_reducible assumption) | assumption)
                obtain ⟨ad405, e405, hx405_0, hx405_1, hx405_2, hx405_3, hx405_4, hx405_5, hx405_6, hx405_7, hx405_8⟩ := at_T34 (Kd.R_reads' HO_3.out).2.2 x15_2 p405 q405
                cases e405
                replace p405 := eq_true p405
                replace q405 := eq_true q405
                have p406 : 0 ≤ (x15_2 : Int) := of_decide_eq_true (by first | (with_reducible assumption) | assumption)
                have q406 : x15_2 < (l0.length : Int) := of_decide_eq_true (by first | (with_reducible assumption) | assumption)
                obtain ⟨ad406, e406, hx406_0, hx406_1, hx406_2, hx406_3, hx406_4, hx406_5, hx406_6, hx406_7, hx406_8⟩ := at_T34 HR0.out x15_2 p406 q406
                cases e406
                replace hx406_0 := cb HB.out hx406_0
                replace hx406_1 := cb HB.out hx406_1
                replace hx406_2 := cb HB.out hx406_2
                replace hx406_3 := cb HB.out hx406_3
                replace hx406_4 := cb HB.out hx406_4
                replace hx406_5 := cb HB.out hx406_5
                replace hx406_6 := cb HB.out hx406_6
                replace hx406_7 := cb HB.out hx406_7
                replace hx406_8 := cb HB.out hx406_8
                replace p406 := eq_true p406
                replace q406 := eq_true q406
                go_wp2
                repeat (go_quiet (fail); try go_wp2)
                go_roundg kj44
                case measure => have := HJ7.out; have := HK2.out; have := HJ29.out; have := HJ44.out; omega
                case rel => exact ⟨(x13_29), (x14_2), (wrap64 (x15_2 + 1)), (by first | rfl | (simp; done) | (simp [*]; done)), (by first | rfl | (simp; done) | (simp [*]; done)), (by first | rfl | (simp; done) | (simp [*]; done)), H', ⟨by have := HJ7.out; have := HK2.out; have := HJ29.out; have := HJ44.out; omega⟩, ⟨Kd.rx HO_3.out⟩, ⟨Kd.rx HO_7.out⟩, ⟨Kd.rx HO_9.out⟩, ⟨Kd.rx HO_11.out⟩, ⟨bl HB.out⟩⟩
               ·rw [if_neg c78] at H
                have c78b0 : (((rd_T34 t362 x15_2).f0) == ((rd_T34 l0 x15_2).f0)) = false := beq_eq_false_iff_ne.mpr c78
                have c78b1 : (((rd_T34 t362 x15_2).f0) != ((rd_T34 l0 x15_2).f0)) = true := bne_iff_ne.mpr c78
                by_cases c80 : ((rd_T34 l0 x15_2).f0) = 15
                ·rw [if_pos c80] at H
                 have c80b0 : (((rd_T34 l0 x15_2).f0) == 15) = true := beq_iff_eq.mpr c80
                 have c80b1 : (((rd_T34 l0 x15_2).f0) != 15) = false := bne_eq_false_iff_eq.mpr c80
                 clear c80
                 by_cases c81 : ((rd_T34 t362 x15_2).f0) = 14
                 ·as_aux_lemma =>
                   rw [if_pos c81] at H
                   have c81b0 : (((rd_T34 t362 x15_2).f0) == 14) = true := beq_iff_eq.mpr c81
                   have c81b1 : (((rd_T34 t362 x15_2).f0) != 14) = false := bne_eq_false_iff_eq.mpr c81
                   clear c81
                   by_cases c82 : (((rd_T34 t362 x15_2).f1) = ((rd_T34 l0 x15_2).f1))
                   ·rw [if_pos c82] at H
                    have c82b0 : (((rd_T34 t362 x15_2).f1) == ((rd_T34 l0 x15_2).f1)) = true := beq_iff_eq.mpr c82
                    have c82b1 : (((rd_T34 t362 x15_2).f1) != ((rd_T34 l0 x15_2).f1)) = false := bne_eq_false_iff_eq.mpr c82
                    clear c82
                    have H' := Aside0.mk H
                    clear H
                    obtain ⟨Ao83, co83, eo83⟩ := Kd.R_slice HO_3.out
                    subst eo83
                    have p405 : 0 ≤ (x15_2 : Int) := of_decide_eq_true (by first | (with_reducible assumption) | assumption)
                    have q405 : x15_2 < (t362.length : Int) := of_decide_eq_true (by first | (with_reducible assumption) | assumption)
                    obtain ⟨ad405, e405, hx405_0, hx405_1, hx405_2, hx405_3, hx405_4, hx405_5, hx405_6, hx405_7, hx405_8⟩ := at_T34 (Kd.R_reads' HO_3.out).2.2 x15_2 p405 q405
                    cases e405
                    replace p405 := eq_true p405
                    replace q405 := eq_true q405
                    have p406 : 0 ≤ (x15_2 : Int) := of_decide_eq_true (by first | (with_reducible assumption) | assumption)
                    have q406 : x15_2 < (l0.length : Int) := of_decide_eq_true (by first | (with_reducible assumption) | assumption)
                    obtain ⟨ad406, e406, hx406_0, hx406_1, hx406_2, hx406_3, hx406_4, hx406_5, hx406_6, hx406_7, hx406_8⟩ := at_T34 HR0.out x15_2 p406 q406
                    cases e406
                    replace hx406_0 := cb HB.out hx406_0
                    replace hx406_1 := cb HB.out hx406_1
                    replace hx406_2 := cb HB.out hx406_2
                    replace hx406_3 := cb HB.out hx406_3
                    replace hx406_4 := cb HB.out hx406_4
                    replace hx406_5 := cb HB.out hx406_5
                    replace hx406_6 := cb HB.out hx406_6
                    replace hx406_7 := cb HB.out hx406_7
                    replace hx406_8 := cb HB.out hx406_8
                    replace p406 := eq_true p406
                    replace q406 := eq_true q406
                    have p407 : 0 ≤ (x15_2 : Int) := of_decide_eq_true (by first | (with_reducible assumption) | assumption)
                    have q407 : x15_2 < (l0.length : Int) := of_decide_eq_true (by first | (with_reducible assumption) | assumption)
                    obtain ⟨ad407, e407, hx407_0, hx407_1, hx407_2, hx407_3, hx407_4, hx407_5, hx407_6, hx407_7, hx407_8⟩ := at_T34 HR0.out x15_2 p407 q407
                    obtain rfl : ad406 = ad407 := (by injection e407)
                    replace hx407_0 := cb HB.out hx407_0
                    replace hx407_1 := cb HB.out hx407_1
                    replace hx407_2 := cb HB.out hx407_2
                    replace hx407_3 := cb HB.out hx407_3
                    replace hx407_4 := cb HB.out hx407_4
                    replace hx407_5 := cb HB.out hx407_5
                    replace hx407_6 := cb HB.out hx407_6
                    replace hx407_7 := cb HB.out hx407_7
                    replace hx407_8 := cb HB.out hx407_8
                    replace p407 := eq_true p407
                    replace q407 := eq_true q407
                    have p408 : 0 ≤ (x15_2 : Int) := of_decide_eq_true (by first | (with_reducible assumption) | assumption)
                    have q408 : x15_2 < (t362.length : Int) := of_decide_eq_true (by first | (with_reducible assumption) | assumption)
                    obtain ⟨ad408, e408, hx408_0, hx408_1, hx408_2, hx408_3, hx408_4, hx408_5, hx408_6, hx408_7, hx408_8⟩ := at_T34 (Kd.R_reads' HO_3.out).2.2 x15_2 p408 q408
                    obtain rfl : ad405 = ad408 := (by injection e408)
                    replace p408 := eq_true p408
                    replace q408 := eq_true q408
                    have p409 : 0 ≤ (x15_2 : Int) := of_decide_eq_true (by first | (with_reducible assumption) | assumption)
                    have q409 : x15_2 < (t362.length : Int) := of_decide_eq_true (by first | (with_reducible assumption) | assumption)
                    obtain ⟨ad409, e409, hx409_0, hx409_1, hx409_2, hx409_3, hx409_4, hx409_5, hx409_6, hx409_7, hx409_8⟩ := at_T34 (Kd.R_reads' HO_3.out).2.2 x15_2 p409 q409
                    obtain rfl : ad405 = ad409 := (by injection e409)
                    replace p409 := eq_true p409
                    replace q409 := eq_true q409
                    have p410 : 0 ≤ (x15_2 : Int) := of_decide_eq_true (by first | (with_reducible assumption) | assumption)
                    have q410 : x15_2 < (l0.length : Int) := of_decide_eq_true (by first | (with_reducible assumption) | assumption)
                    obtain ⟨ad410, e410, hx410_0, hx410_1, hx410_2, hx410_3, hx410_4, hx410_5, hx410_6, hx410_7, hx410_8⟩ := at_T34 HR0.out x15_2 p410 q410
                    obtain rfl : ad406 = ad410 := (by injection e410)
                    replace hx410_0 := cb HB.out hx410_0
                    replace hx410_1 := cb HB.out hx410_1
                    replace hx410_2 := cb HB.out hx410_2
                    replace hx410_3 := cb HB.out hx410_3
                    replace hx410_4 := cb HB.out hx410_4
                    replace hx410_5 := cb HB.out hx410_5
                    replace hx410_6 := cb HB.out hx410_6
                    replace hx410_7 := cb HB.out hx410_7
                    replace hx410_8 := cb HB.out hx410_8
                    replace p410 := eq_true p410
                    replace q410 := eq_true q410
                    go_wp2
                    repeat (go_quiet (fail); try go_wp2)
                    go_roundg kj44
                    case measure => have := HJ7.out; have := HK2.out; have := HJ29.out; have := HJ44.out; omega
                    case rel => exact ⟨(x13_29), (x14_2), (wrap64 (x15_2 + 1)), (by first | rfl | (simp; done) | (simp [*]; done)), (by first | rfl | (simp; done) | (simp [*]; done)), (by first | rfl | (simp; done) | (simp [*]; done)), H', ⟨by have := HJ7.out; have := HK2.out; have := HJ29.out; have := HJ44.out; omega⟩, ⟨Kd.rx HO_3.out⟩, ⟨Kd.rx HO_7.out⟩, ⟨Kd.rx HO_9.out⟩, ⟨Kd.rx HO_11.out⟩, ⟨bl HB.out⟩⟩
                   ·rw [if_neg c82] at H
                    have c82b0 : (((rd_T34 t362 x15_2).f1) == ((rd_T34 l0 x15_2).f1)) = false := beq_eq_false_iff_ne.mpr c82
                    have c82b1 : (((rd_T34 t362 x15_2).f1) != ((rd_T34 l0 x15_2).f1)) = true := bne_iff_ne.mpr c82
                    obtain rfl := Option.some.inj H
                    obtain ⟨Ao84, co84, eo84⟩ := Kd.R_slice HO_3.out
                    subst eo84
                    have p405 : 0 ≤ (x15_2 : Int) := of_decide_eq_true (by first | (with_reducible assumption) | assumption)
                    have q405 : x15_2 < (t362.length : Int) := of_decide_eq_true (by first | (with_reducible assumption) | assumption)
                    obtain ⟨ad405, e405, hx405_0, hx405_1, hx405_2, hx405_3, hx405_4, hx405_5, hx405_6, hx405_7, hx405_8⟩ := at_T34 (Kd.R_reads' HO_3.out).2.2 x15_2 p405 q405
                    cases e405
                    replace p405 := eq_true p405
                    replace q405 := eq_true q405
                    have p406 : 0 ≤ (x15_2 : Int) := of_decide_eq_true (by first | (with_reducible assumption) | assumption)
                    have q406 : x15_2 < (l0.length : Int) := of_decide_eq_true (by first | (with_reducible assumption) | assumption)
                    obtain ⟨ad406, e406, hx406_0, hx406_1, hx406_2, hx406_3, hx406_4, hx406_5, hx406_6, hx406_7, hx406_8⟩ := at_T34 HR0.out x15_2 p406 q406
                    cases e406
                    replace hx406_0 := cb HB.out hx406_0
                    replace hx406_1 := cb HB.out hx406_1
                    replace hx406_2 := cb HB.out hx406_2
                    replace hx406_3 := cb HB.out hx406_3
                    replace hx406_4 := cb HB.out hx406_4
                    replace hx406_5 := cb HB.out hx406_5
                    replace hx406_6 := cb HB.out hx406_6
                    replace hx406_7 := cb HB.out hx406_7
                    replace hx406_8 := cb HB.out hx406_8
                    replace p406 := eq_true p406
                    replace q406 := eq_true q406
                    have p407 : 0 ≤ (x15_2 : Int) := of_decide_eq_true (by first | (with_reducible assumption) | assumption)
                    have q407 : x15_2 < (l0.length : Int) := of_decide_eq_true (by first | (with_reducible assumption) | assumption)
                    obtain ⟨ad407, e407, hx407_0, hx407_1, hx407_2, hx407_3, hx407_4, hx407_5, hx407_6, hx407_7, hx407_8⟩ := at_T34 HR0.out x15_2 p407 q407
                    obtain rfl : ad406 = ad407 := (by injection e407)
                    replace hx407_0 := cb HB.out hx407_0
                    replace hx407_1 := cb HB.out hx407_1
                    replace hx407_2 := cb HB.out hx407_2
                    replace hx407_3 := cb HB.out hx407_3
                    replace hx407_4 := cb HB.out hx407_4
                    replace hx407_5 := cb HB.out hx407_5
                    replace hx407_6 := cb HB.out hx407_6
                    replace hx407_7 := cb HB.out hx407_7
                    replace hx407_8 := cb HB.out hx407_8
                    replace p407 := eq_true p407
                    replace q407 := eq_true q407
                    have p408 : 0 ≤ (x15_2 : Int) := of_decide_eq_true (by first | (with_reducible assumption) | assumption)
                    have q408 : x15_2 < (t362.length : Int) := of_decide_eq_true (by first | (with_reducible assumption) | assumption)
                    obtain ⟨ad408, e408, hx408_0, hx408_1, hx408_2, hx408_3, hx408_4, hx408_5, hx408_6, hx408_7, hx408_8⟩ := at_T34 (Kd.R_reads' HO_3.out).2.2 x15_2 p408 q408
                    obtain rfl : ad405 = ad408 := (by injection e408)
                    replace p408 := eq_true p408
                    replace q408 := eq_true q408
                    have p409 : 0 ≤ (x15_2 : Int) := of_decide_eq_true (by first | (with_reducible assumption) | assumption)
                    have q409 : x15_2 < (t362.length : Int) := of_decide_eq_true (by first | (with_reducible assumption) | assumption)
                    obtain ⟨ad409, e409, hx409_0, hx409_1, hx409_2, hx409_3, hx409_4, hx409_5, hx409_6, hx409_7, hx409_8⟩ := at_T34 (Kd.R_reads' HO_3.out).2.2 x15_2 p409 q409
                    obtain rfl : ad405 = ad409 := (by injection e409)
                    replace p409 := eq_true p409
                    replace q409 := eq_true q409
                    have p410 : 0 ≤ (x15_2 : Int) := of_decide_eq_true (by first | (with_reducible assumption) | assumption)
                    have q410 : x15_2 < (l0.length : Int) := of_decide_eq_true (by first | (with_reducible assumption) | assumption)
                    obtain ⟨ad410, e410, hx410_0, hx410_1, hx410_2, hx410_3, hx410_4, hx410_5, hx410_6, hx410_7, hx410_8⟩ := at_T34 HR0.out x15_2 p410 q410
                    obtain rfl : ad406 = ad410 := (by injection e410)
                    replace hx410_0 := cb HB.out hx410_0
                    replace hx410_1 := cb HB.out hx410_1
                    replace hx410_2 := cb HB.out hx410_2
                    replace hx410_3 := cb HB.out hx410_3
                    replace hx410_4 := cb HB.out hx410_4
                    replace hx410_5 := cb HB.out hx410_5
                    replace hx410_6 := cb HB.out hx410_6
                    replace hx410_7 := cb HB.out hx410_7
                    replace hx410_8 := cb HB.out hx410_8
                    replace p410 := eq_true p410
                    replace q410 := eq_true q410
                    go_wp2
                    repeat (go_quiet (fail); try go_wp2)
                    go_ret
                    exact ⟨by first | rfl | (simp [errW_none, errW_some] <;> rfl) | (simp [*, errW_none, errW_some] <;> rfl), bl HB.out⟩
                 ·rw [if_neg c81] at H
                  have c81b0 : (((rd_T34 t362 x15_2).f0) == 14) = false := beq_eq_false_iff_ne.mpr c81
                  have c81b1 : (((rd_T34 t362 x15_2).f0) != 14) = true := bne_iff_ne.mpr c81
                  obtain rfl := Option.some.inj H
                  obtain ⟨Ao85, co85, eo85⟩ := Kd.R_slice HO_3.out
                  subst eo85
                  have p405 : 0 ≤ (x15_2 : Int) := of_decide_eq_true (by first | (with_reducible assumption) | assumption)
                  have q405 : x15_2 < (t362.length : Int) := of_decide_eq_true (by first | (with_reducible assumption) | assumption)
                  obtain ⟨ad405, e405, hx405_0, hx405_1, hx405_2, hx405_3, hx405_4, hx405_5, hx405_6, hx405_7, hx405_8⟩ := at_T34 (Kd.R_reads' HO_3.out).2.2 x15_2 p405 q405
                  cases e405
                  replace p405 := eq_true p405
                  replace q405 := eq_true q405
                  have p406 : 0 ≤ (x15_2 : Int) := of_decide_eq_true (by first | (with_reducible assumption) | assumption)
                  have q406 : x15_2 < (l0.length : Int) := of_decide_eq_true (by first | (with_reducible assumption) | assumption)
                  obtain ⟨ad406, e406, hx406_0, hx406_1, hx406_2, hx406_3, hx406_4, hx406_5, hx406_6, hx406_7, hx406_8⟩ := at_T34 HR0.out x15_2 p406 q406
                  cases e406
                  replace hx406_0 := cb HB.out hx406_0
                  replace hx406_1 := cb HB.out hx406_1
                  replace hx406_2 := cb HB.out hx406_2
                  replace hx406_3 := cb HB.out hx406_3
                  replace hx406_4 := cb HB.out hx406_4
                  replace hx406_5 := cb HB.out hx406_5
                  replace hx406_6 := cb HB.out hx406_6
                  replace hx406_7 := cb HB.out hx406_7
                  replace hx406_8 := cb HB.out hx406_8
                  replace p406 := eq_true p406
                  replace q406 := eq_true q406
                  have p407 : 0 ≤ (x15_2 : Int) := of_decide_eq_true (by first | (with_reducible assumption) | assumption)
                  have q407 : x15_2 < (l0.length : Int) := of_decide_eq_true (by first | (with_reducible assumption) | assumption)
                  obtain ⟨ad407, e407, hx407_0, hx407_1, hx407_2, hx407_3, hx407_4, hx407_5, hx407_6, hx407_7, hx407_8⟩ := at_T34 HR0.out x15_2 p407 q407
                  obtain rfl : ad406 = ad407 := (by injection e407)
                  replace hx407_0 := cb HB.out hx407_0
                  replace hx407_1 := cb HB.out hx407_1
                  replace hx407_2 := cb HB.out hx407_2
                  replace hx407_3 := cb HB.out hx407_3
                  replace hx407_4 := cb HB.out hx407_4
                  replace hx407_5 := cb HB.out hx407_5
                  replace hx407_6 := cb HB.out hx407_6
                  replace hx407_7 := cb HB.out hx407_7
                  replace hx407_8 := cb HB.out hx407_8
                  replace p407 := eq_true p407
                  replace q407 := eq_true q407
                  have p408 : 0 ≤ (x15_2 : Int) := of_decide_eq_true (by first | (with_reducible assumption) | assumption)
                  have q408 : x15_2 < (t362.length : Int) := of_decide_eq_true (by first | (with_reducible assumption) | assumption)
                  obtain ⟨ad408, e408, hx408_0, hx408_1, hx408_2, hx408_3, hx408_4, hx408_5, hx408_6, hx408_7, hx408_8⟩ := at_T34 (Kd.R_reads' HO_3.out).2.2 x15_2 p408 q408
                  obtain rfl : ad405 = ad408 := (by injection e408)
                  replace p408 := eq_true p408
                  replace q408 := eq_true q408
                  go_wp2
                  repeat (go_quiet (fail); try go_wp2)
                  go_ret
                  exact ⟨by first | rfl | (simp [errW_none, errW_some] <;> rfl) | (simp [*, errW_none, errW_some] <;> rfl), bl HB.out⟩
                ·rw [if_neg c80] at H
                 have c80b0 : (((rd_T34 l0 x15_2).f0) == 15) = false := beq_eq_false_iff_ne.mpr c80
                 have c80b1 : (((rd_T34 l0 x15_2).f0) != 15) = true := bne_iff_ne.mpr c80
                 obtain rfl := Option.some.inj H
                 obtain ⟨Ao86, co86, eo86⟩ := Kd.R_slice HO_3.out
                 subst eo86
                 have p405 : 0 ≤ (x15_2 : Int) := of_decide_eq_true (by first | (with_reducible assumption) | assumption)
                 have q405 : x15_2 < (t362.length : Int) := of_decide_eq_true (by first | (with_reducible assumption) | assumption)
                 obtain ⟨ad405, e405, hx405_0, hx405_1, hx405_2, hx405_3, hx405_4, hx405_5, hx405_6, hx405_7, hx405_8⟩ := at_T34 (Kd.R_reads' HO_3.out).2.2 x15_2 p405 q405
                 cases e405
                 replace p405 := eq_true p405
                 replace q405 := eq_true q405
                 have p406 : 0 ≤ (x15_2 : Int) := of_decide_eq_true (by first | (with_reducible assumption) | assumption)
                 have q406 : x15_2 < (l0.length : Int) := of_decide_eq_true (by first | (with_reducible assumption) | assumption)
                 obtain ⟨ad406, e406, hx406_0, hx406_1, hx406_2, hx406_3, hx406_4, hx406_5, hx406_6, hx406_7, hx406_8⟩ := at_T34 HR0.out x15_2 p406 q406
                 cases e406
                 replace hx406_0 := cb HB.out hx406_0
                 replace hx406_1 := cb HB.out hx406_1
                 replace hx406_2 := cb HB.out hx406_2
                 replace hx406_3 := cb HB.out hx406_3
                 replace hx406_4 := cb HB.out hx406_4
                 replace hx406_5 := cb HB.out hx406_5
                 replace hx406_6 := cb HB.out hx406_6
                 replace hx406_7 := cb HB.out hx406_7
                 replace hx406_8 := cb HB.out hx406_8
                 replace p406 := eq_true p406
                 replace q406 := eq_true q406
                 have p407 : 0 ≤ (x15_2 : Int) := of_decide_eq_true (by first | (with_reducible assumption) | assumption)
                 have q407 : x15_2 < (l0.length : Int) := of_decide_eq_true (by first | (with_reducible assumption) | assumption)
                 obtain ⟨ad407, e407, hx407_0, hx407_1, hx407_2, hx407_3, hx407_4, hx407_5, hx407_6, hx407_7, hx407_8⟩ := at_T34 HR0.out x15_2 p407 q407
                 obtain rfl : ad406 = ad407 := (by injection e407)
                 replace hx407_0 := cb HB.out hx407_0
                 replace hx407_1 := cb HB.out hx407_1
                 replace hx407_2 := cb HB.out hx407_2
                 replace hx407_3 := cb HB.out hx407_3
                 replace hx407_4 := cb HB.out hx407_4
                 replace hx407_5 := cb HB.out hx407_5
                 replace hx407_6 := cb HB.out hx407_6
                 replace hx407_7 := cb HB.out hx407_7
                 replace hx407_8 := cb HB.out hx407_8
                 replace p407 := eq_true p407
                 replace q407 := eq_true q407
                 go_wp2
                 repeat (go_quiet (fail); try go_wp2)
                 go_ret
                 exact ⟨by first | rfl | (simp [errW_none, errW_some] <;> rfl) | (simp [*, errW_none, errW_some] <;> rfl), bl HB.out⟩
       ·rw [if_neg c27] at H
        have c27b0 : decide (x15_2 < (l0.length : Int)) = false := decide_eq_false c27
        clear c27
        by_cases c87 : x13_2 = (t370.length : Int)
        ·rw [if_pos c87] at H
         have c87b0 : (x13_2 == (t370.length : Int)) = true := beq_iff_eq.mpr c87
         have c87b1 : (x13_2 != (t370.length : Int)) = false := bne_eq_false_iff_eq.mpr c87
         clear c87
         by_cases c88 : x14_2 = (t374.length : Int)
         ·rw [if_pos c88] at H
          have c88b0 : (x14_2 == (t374.length : Int)) = true := beq_iff_eq.mpr c88
          have c88b1 : (x14_2 != (t374.length : Int)) = false := bne_eq_false_iff_eq.mpr c88
          clear c88
          replace H := bindA H; obtain ⟨t383, A89, H⟩ := H; try dsimp only at H
          obtain rfl := Option.some.inj H
          obtain ⟨Ao90, co90, eo90⟩ := Kd.R_slice HO_7.out
          subst eo90
          obtain ⟨Ao91, co91, eo91⟩ := Kd.R_slice HO_9.out
          subst eo91
          go_wp2_with (first | (go_at_call 11; (with_reducible refine (harrowlaw20_lives.calls k2  t383 _ ?side1 A89.out).mono ?_); (case side1 => exact GW.below HG.out (bl HB.out)); rintro e w92 ⟨rfl, hb⟩; replace HO_3 := Aside0.mk (Kd.R_below (Kd.rx HO_3.out) hb); replace HO_7 := Aside0.mk (Kd.R_below (Kd.rx HO_7.out) hb); replace HO_9 := Aside0.mk (Kd.R_below (Kd.rx HO_9.out) hb); replace HO_11 := Aside0.mk (Kd.R_below (Kd.rx HO_11.out) hb); replace HB := Aside0.mk (below_step (bl HB.out) hb); (try clear hb)))
          repeat (go_quiet (first | (go_at_call 11; (with_reducible refine (harrowlaw20_lives.calls k2  t383 _ ?side1 A89.out).mono ?_); (case side1 => exact GW.below HG.out (bl HB.out)); rintro e w92 ⟨rfl, hb⟩; replace HO_3 := Aside0.mk (Kd.R_below (Kd.rx HO_3.out) hb); replace HO_7 := Aside0.mk (Kd.R_below (Kd.rx HO_7.out) hb); replace HO_9 := Aside0.mk (Kd.R_below (Kd.rx HO_9.out) hb); replace HO_11 := Aside0.mk (Kd.R_below (Kd.rx HO_11.out) hb); replace HB := Aside0.mk (below_step (bl HB.out) hb); (try clear hb))); try go_wp2_with (first | (go_at_call 11; (with_reducible refine (harrowlaw20_lives.calls k2  t383 _ ?side1 A89.out).mono ?_); (case side1 => exact GW.below HG.out (bl HB.out)); rintro e w92 ⟨rfl, hb⟩; replace HO_3 := Aside0.mk (Kd.R_below (Kd.rx HO_3.out) hb); replace HO_7 := Aside0.mk (Kd.R_below (Kd.rx HO_7.out) hb); replace HO_9 := Aside0.mk (Kd.R_below (Kd.rx HO_9.out) hb); replace HO_11 := Aside0.mk (Kd.R_below (Kd.rx HO_11.out) hb); replace HB := Aside0.mk (below_step (bl HB.out) hb); (try clear hb))))
          go_ret
          exact ⟨by first | rfl | (simp [errW_none, errW_some] <;> rfl) | (simp [*, errW_none, errW_some] <;> rfl), bl HB.out⟩
         ·rw [if_neg c88] at H
          have c88b0 : (x14_2 == (t374.length : Int)) = false := beq_eq_false_iff_ne.mpr c88
          have c88b1 : (x14_2 != (t374.length : Int)) = true := bne_iff_ne.mpr c88
          obtain rfl := Option.some.inj H
          obtain ⟨Ao93, co93, eo93⟩ := Kd.R_slice HO_7.out
          subst eo93
          obtain ⟨Ao94, co94, eo94⟩ := Kd.R_slice HO_9.out
          subst eo94
          go_wp2
          repeat (go_quiet (fail); try go_wp2)
          go_ret
          exact ⟨by first | rfl | (simp [errW_none, errW_some] <;> rfl) | (simp [*, errW_none, errW_some] <;> rfl), bl HB.out⟩
        ·rw [if_neg c87] at H
         have c87b0 : (x13_2 == (t370.length : Int)) = false := beq_eq_false_iff_ne.mpr c87
         have c87b1 : (x13_2 != (t370.length : Int)) = true := bne_iff_ne.mpr c87
         obtain rfl := Option.some.inj H
         obtain ⟨Ao95, co95, eo95⟩ := Kd.R_slice HO_7.out
         subst eo95
         go_wp2
         repeat (go_quiet (fail); try go_wp2)
         go_ret
         exact ⟨by first | rfl | (simp [errW_none, errW_some] <;> rfl) | (simp [*, errW_none, errW_some] <;> rfl), bl HB.out⟩
 ·rw [if_neg c6] at H
  have c6b0 : (t363 == 0) = false := beq_eq_false_iff_ne.mpr c6
  have c6b1 : (t363 != 0) = true := bne_iff_ne.mpr c6
  replace H := bindA H; obtain ⟨t378, A96, H⟩ := H; try dsimp only at H
  by_cases c97 : t378 = true
  ·subst c97
   have H1 : (if t367 = t363 then (if t371 = t363 then (if t375 = t363 then (some ((wrap64 ((wrap64 ((wrap64 ((t362.length : Int) + (t366.length : Int))) + (t370.length : Int))) + (t374.length : Int))) == 0)) else (some false)) else (some false)) else (some false)) = some r := by rw [if_pos rfl] at H; exact H
   clear H
   have H := H1
   clear H1
   by_cases c98 : t367 = t363
   ·rw [if_pos c98] at H
    have c98b0 : (t367 == t363) = true := beq_iff_eq.mpr c98
    have c98b1 : (t367 != t363) = false := bne_eq_false_iff_eq.mpr c98
    clear c98
    by_cases c99 : t371 = t363
    ·rw [if_pos c99] at H
     have c99b0 : (t371 == t363) = true := beq_iff_eq.mpr c99
     have c99b1 : (t371 != t363) = false := bne_eq_false_iff_eq.mpr c99
     clear c99
     by_cases c100 : t375 = t363
     ·rw [if_pos c100] at H
      have c100b0 : (t375 == t363) = true := beq_iff_eq.mpr c100
      have c100b1 : (t375 != t363) = false := bne_eq_false_iff_eq.mpr c100
      clear c100
      obtain rfl := Option.some.inj H
      go_enter Tryd.func3, Tryd.ntmps3
      go_wp2_with (first | (go_at_call 7; (with_reducible refine (peep_Tails.calls k _ _ l0 t362 t363 _ ?side3 ?side1 ?side2 A2.out).mono ?_); (case side1 => exact Kd.cx HR0.out); (case side2 => exact HC0.out); (case side3 => exact GW.below HG.out (bl HB.out)); rintro e w101 ⟨v364, rfl, ho0, hb⟩; have HO365 := Aside0.mk (Kd.R_lower ho0 (below_size (bl HB.out))); replace HB := Aside0.mk (below_step (bl HB.out) hb); (try clear hb); (try clear ho0)) | (go_at_call 8; (with_reducible refine (peep_Threads.calls k _ _ l0 t366 t367 _ ?side3 ?side1 ?side2 A3.out).mono ?_); (case side1 => exact Kd.cx (Kd.C_below HR0.out HB.out)); (case side2 => exact HC0.out); (case side3 => exact GW.below HG.out (bl HB.out)); rintro e w102 ⟨v368, rfl, ho0, hb⟩; have HO369 := Aside0.mk (Kd.R_lower (Kd.R_new' ho0 (Kd.R_lt (Kd.rx HO365.out))) (below_size (bl HB.out))); replace HO365 := Aside0.mk (Kd.R_elder' (Kd.rx HO365.out) (Kd.R_base ho0) hb); replace HB := Aside0.mk (below_step (bl HB.out) hb); (try clear hb); (try clear ho0)) | (go_at_call 9; (with_reducible refine (peep_Dead.calls k _ _ l0 t370 t371 _ ?side3 ?side1 ?side2 A4.out).mono ?_); (case side1 => exact Kd.cx (Kd.C_below HR0.out HB.out)); (case side2 => exact HC0.out); (case side3 => exact GW.below HG.out (bl HB.out)); rintro e w103 ⟨v372, rfl, ho0, hb⟩; have HO373 := Aside0.mk (Kd.R_lower (Kd.R_new' (Kd.R_new' ho0 (Kd.R_lt (Kd.rx HO365.out))) (Kd.R_lt (Kd.rx HO369.out))) (below_size (bl HB.out))); replace HO365 := Aside0.mk (Kd.R_elder' (Kd.rx HO365.out) (Kd.R_base ho0) hb); replace HO369 := Aside0.mk (Kd.R_elder' (Kd.rx HO369.out) (Kd.R_base ho0) hb); replace HB := Aside0.mk (below_step (bl HB.out) hb); (try clear hb); (try clear ho0)) | (go_at_call 10; (with_reducible refine (peep_Hops.calls k _ _ l0 t374 t375 _ ?side3 ?side1 ?side2 A5.out).mono ?_); (case side1 => exact Kd.cx (Kd.C_below HR0.out HB.out)); (case side2 => exact HC0.out); (case side3 => exact GW.below HG.out (bl HB.out)); rintro e w104 ⟨v376, rfl, ho0, hb⟩; have HO377 := Aside0.mk (Kd.R_lower (Kd.R_new' (Kd.R_new' (Kd.R_new' ho0 (Kd.R_lt (Kd.rx HO365.out))) (Kd.R_lt (Kd.rx HO369.out))) (Kd.R_lt (Kd.rx HO373.out))) (below_size (bl HB.out))); replace HO365 := Aside0.mk (Kd.R_elder' (Kd.rx HO365.out) (Kd.R_base ho0) hb); replace HO369 := Aside0.mk (Kd.R_elder' (Kd.rx HO369.out) (Kd.R_base ho0) hb); replace HO373 := Aside0.mk (Kd.R_elder' (Kd.rx HO373.out) (Kd.R_base ho0) hb); replace HB := Aside0.mk (below_step (bl HB.out) hb); (try clear hb); (try clear ho0)) | (go_at_call 11; (with_reducible refine (harrowlaw20_lives.calls k  true _ ?side1 A96.out).mono ?_); (case side1 => exact GW.below HG.out (bl HB.out)); rintro e w105 ⟨rfl, hb⟩; replace HO365 := Aside0.mk (Kd.R_below (Kd.rx HO365.out) hb); replace HO369 := Aside0.mk (Kd.R_below (Kd.rx HO369.out) hb); replace HO373 := Aside0.mk (Kd.R_below (Kd.rx HO373.out) hb); replace HO377 := Aside0.mk (Kd.R_below (Kd.rx HO377.out) hb); replace HB := Aside0.mk (below_step (bl HB.out) hb); (try clear hb); obtain ⟨Ao106, co106, eo106⟩ := Kd.R_slice HO365.out; subst eo106; obtain ⟨Ao107, co107, eo107⟩ := Kd.R_slice HO369.out; subst eo107; obtain ⟨Ao108, co108, eo108⟩ := Kd.R_slice HO373.out; subst eo108; obtain ⟨Ao109, co109, eo109⟩ := Kd.R_slice HO377.out; subst eo109))
      repeat (go_quiet (first | (go_at_call 7; (with_reducible refine (peep_Tails.calls k _ _ l0 t362 t363 _ ?side3 ?side1 ?side2 A2.out).mono ?_); (case side1 => exact Kd.cx HR0.out); (case side2 => exact HC0.out); (case side3 => exact GW.below HG.out (bl HB.out)); rintro e w101 ⟨v364, rfl, ho0, hb⟩; have HO365 := Aside0.mk (Kd.R_lower ho0 (below_size (bl HB.out))); replace HB := Aside0.mk (below_step (bl HB.out) hb); (try clear hb); (try clear ho0)) | (go_at_call 8; (with_reducible refine (peep_Threads.calls k _ _ l0 t366 t367 _ ?side3 ?side1 ?side2 A3.out).mono ?_); (case side1 => exact Kd.cx (Kd.C_below HR0.out HB.out)); (case side2 => exact HC0.out); (case side3 => exact GW.below HG.out (bl HB.out)); rintro e w102 ⟨v368, rfl, ho0, hb⟩; have HO369 := Aside0.mk (Kd.R_lower (Kd.R_new' ho0 (Kd.R_lt (Kd.rx HO365.out))) (below_size (bl HB.out))); replace HO365 := Aside0.mk (Kd.R_elder' (Kd.rx HO365.out) (Kd.R_base ho0) hb); replace HB := Aside0.mk (below_step (bl HB.out) hb); (try clear hb); (try clear ho0)) | (go_at_call 9; (with_reducible refine (peep_Dead.calls k _ _ l0 t370 t371 _ ?side3 ?side1 ?side2 A4.out).mono ?_); (case side1 => exact Kd.cx (Kd.C_below HR0.out HB.out)); (case side2 => exact HC0.out); (case side3 => exact GW.below HG.out (bl HB.out)); rintro e w103 ⟨v372, rfl, ho0, hb⟩; have HO373 := Aside0.mk (Kd.R_lower (Kd.R_new' (Kd.R_new' ho0 (Kd.R_lt (Kd.rx HO365.out))) (Kd.R_lt (Kd.rx HO369.out))) (below_size (bl HB.out))); replace HO365 := Aside0.mk (Kd.R_elder' (Kd.rx HO365.out) (Kd.R_base ho0) hb); replace HO369 := Aside0.mk (Kd.R_elder' (Kd.rx HO369.out) (Kd.R_base ho0) hb); replace HB := Aside0.mk (below_step (bl HB.out) hb); (try clear hb); (try clear ho0)) | (go_at_call 10; (with_reducible refine (peep_Hops.calls k _ _ l0 t374 t375 _ ?side3 ?side1 ?side2 A5.out).mono ?_); (case side1 => exact Kd.cx (Kd.C_below HR0.out HB.out)); (case side2 => exact HC0.out); (case side3 => exact GW.below HG.out (bl HB.out)); rintro e w104 ⟨v376, rfl, ho0, hb⟩; have HO377 := Aside0.mk (Kd.R_lower (Kd.R_new' (Kd.R_new' (Kd.R_new' ho0 (Kd.R_lt (Kd.rx HO365.out))) (Kd.R_lt (Kd.rx HO369.out))) (Kd.R_lt (Kd.rx HO373.out))) (below_size (bl HB.out))); replace HO365 := Aside0.mk (Kd.R_elder' (Kd.rx HO365.out) (Kd.R_base ho0) hb); replace HO369 := Aside0.mk (Kd.R_elder' (Kd.rx HO369.out) (Kd.R_base ho0) hb); replace HO373 := Aside0.mk (Kd.R_elder' (Kd.rx HO373.out) (Kd.R_base ho0) hb); replace HB := Aside0.mk (below_step (bl HB.out) hb); (try clear hb); (try clear ho0)) | (go_at_call 11; (with_reducible refine (harrowlaw20_lives.calls k  true _ ?side1 A96.out).mono ?_); (case side1 => exact GW.below HG.out (bl HB.out)); rintro e w105 ⟨rfl, hb⟩; replace HO365 := Aside0.mk (Kd.R_below (Kd.rx HO365.out) hb); replace HO369 := Aside0.mk (Kd.R_below (Kd.rx HO369.out) hb); replace HO373 := Aside0.mk (Kd.R_below (Kd.rx HO373.out) hb); replace HO377 := Aside0.mk (Kd.R_below (Kd.rx HO377.out) hb); replace HB := Aside0.mk (below_step (bl HB.out) hb); (try clear hb); obtain ⟨Ao106, co106, eo106⟩ := Kd.R_slice HO365.out; subst eo106; obtain ⟨Ao107, co107, eo107⟩ := Kd.R_slice HO369.out; subst eo107; obtain ⟨Ao108, co108, eo108⟩ := Kd.R_slice HO373.out; subst eo108; obtain ⟨Ao109, co109, eo109⟩ := Kd.R_slice HO377.out; subst eo109)); try go_wp2_with (first | (go_at_call 7; (with_reducible refine (peep_Tails.calls k _ _ l0 t362 t363 _ ?side3 ?side1 ?side2 A2.out).mono ?_); (case side1 => exact Kd.cx HR0.out); (case side2 => exact HC0.out); (case side3 => exact GW.below HG.out (bl HB.out)); rintro e w101 ⟨v364, rfl, ho0, hb⟩; have HO365 := Aside0.mk (Kd.R_lower ho0 (below_size (bl HB.out))); replace HB := Aside0.mk (below_step (bl HB.out) hb); (try clear hb); (try clear ho0)) | (go_at_call 8; (with_reducible refine (peep_Threads.calls k _ _ l0 t366 t367 _ ?side3 ?side1 ?side2 A3.out).mono ?_); (case side1 => exact Kd.cx (Kd.C_below HR0.out HB.out)); (case side2 => exact HC0.out); (case side3 => exact GW.below HG.out (bl HB.out)); rintro e w102 ⟨v368, rfl, ho0, hb⟩; have HO369 := Aside0.mk (Kd.R_lower (Kd.R_new' ho0 (Kd.R_lt (Kd.rx HO365.out))) (below_size (bl HB.out))); replace HO365 := Aside0.mk (Kd.R_elder' (Kd.rx HO365.out) (Kd.R_base ho0) hb); replace HB := Aside0.mk (below_step (bl HB.out) hb); (try clear hb); (try clear ho0)) | (go_at_call 9; (with_reducible refine (peep_Dead.calls k _ _ l0 t370 t371 _ ?side3 ?side1 ?side2 A4.out).mono ?_); (case side1 => exact Kd.cx (Kd.C_below HR0.out HB.out)); (case side2 => exact HC0.out); (case side3 => exact GW.below HG.out (bl HB.out)); rintro e w103 ⟨v372, rfl, ho0, hb⟩; have HO373 := Aside0.mk (Kd.R_lower (Kd.R_new' (Kd.R_new' ho0 (Kd.R_lt (Kd.rx HO365.out))) (Kd.R_lt (Kd.rx HO369.out))) (below_size (bl HB.out))); replace HO365 := Aside0.mk (Kd.R_elder' (Kd.rx HO365.out) (Kd.R_base ho0) hb); replace HO369 := Aside0.mk (Kd.R_elder' (Kd.rx HO369.out) (Kd.R_base ho0) hb); replace HB := Aside0.mk (below_step (bl HB.out) hb); (try clear hb); (try clear ho0)) | (go_at_call 10; (with_reducible refine (peep_Hops.calls k _ _ l0 t374 t375 _ ?side3 ?side1 ?side2 A5.out).mono ?_); (case side1 => exact Kd.cx (Kd.C_below HR0.out HB.out)); (case side2 => exact HC0.out); (case side3 => exact GW.below HG.out (bl HB.out)); rintro e w104 ⟨v376, rfl, ho0, hb⟩; have HO377 := Aside0.mk (Kd.R_lower (Kd.R_new' (Kd.R_new' (Kd.R_new' ho0 (Kd.R_lt (Kd.rx HO365.out))) (Kd.R_lt (Kd.rx HO369.out))) (Kd.R_lt (Kd.rx HO373.out))) (below_size (bl HB.out))); replace HO365 := Aside0.mk (Kd.R_elder' (Kd.rx HO365.out) (Kd.R_base ho0) hb); replace HO369 := Aside0.mk (Kd.R_elder' (Kd.rx HO369.out) (Kd.R_base ho0) hb); replace HO373 := Aside0.mk (Kd.R_elder' (Kd.rx HO373.out) (Kd.R_base ho0) hb); replace HB := Aside0.mk (below_step (bl HB.out) hb); (try clear hb); (try clear ho0)) | (go_at_call 11; (with_reducible refine (harrowlaw20_lives.calls k  true _ ?side1 A96.out).mono ?_); (case side1 => exact GW.below HG.out (bl HB.out)); rintro e w105 ⟨rfl, hb⟩; replace HO365 := Aside0.mk (Kd.R_below (Kd.rx HO365.out) hb); replace HO369 := Aside0.mk (Kd.R_below (Kd.rx HO369.out) hb); replace HO373 := Aside0.mk (Kd.R_below (Kd.rx HO373.out) hb); replace HO377 := Aside0.mk (Kd.R_below (Kd.rx HO377.out) hb); replace HB := Aside0.mk (below_step (bl HB.out) hb); (try clear hb); obtain ⟨Ao106, co106, eo106⟩ := Kd.R_slice HO365.out; subst eo106; obtain ⟨Ao107, co107, eo107⟩ := Kd.R_slice HO369.out; subst eo107; obtain ⟨Ao108, co108, eo108⟩ := Kd.R_slice HO373.out; subst eo108; obtain ⟨Ao109, co109, eo109⟩ := Kd.R_slice HO377.out; subst eo109)))
      go_ret
      exact ⟨by first | rfl | (simp [errW_none, errW_some] <;> rfl) | (simp [*, errW_none, errW_some] <;> rfl), bl HB.out⟩
     ·rw [if_neg c100] at H
      have c100b0 : (t375 == t363) = false := beq_eq_false_iff_ne.mpr c100
      have c100b1 : (t375 != t363) = true := bne_iff_ne.mpr c100
      obtain rfl := Option.some.inj H
      go_enter Tryd.func3, Tryd.ntmps3
      go_wp2_with (first | (go_at_call 7; (with_reducible refine (peep_Tails.calls k _ _ l0 t362 t363 _ ?side3 ?side1 ?side2 A2.out).mono ?_); (case side1 => exact Kd.cx HR0.out); (case side2 => exact HC0.out); (case side3 => exact GW.below HG.out (bl HB.out)); rintro e w110 ⟨v364, rfl, ho0, hb⟩; have HO365 := Aside0.mk (Kd.R_lower ho0 (below_size (bl HB.out))); replace HB := Aside0.mk (below_step (bl HB.out) hb); (try clear hb); (try clear ho0)) | (go_at_call 8; (with_reducible refine (peep_Threads.calls k _ _ l0 t366 t367 _ ?side3 ?side1 ?side2 A3.out).mono ?_); (case side1 => exact Kd.cx (Kd.C_below HR0.out HB.out)); (case side2 => exact HC0.out); (case side3 => exact GW.below HG.out (bl HB.out)); rintro e w111 ⟨v368, rfl, ho0, hb⟩; have HO369 := Aside0.mk (Kd.R_lower (Kd.R_new' ho0 (Kd.R_lt (Kd.rx HO365.out))) (below_size (bl HB.out))); replace HO365 := Aside0.mk (Kd.R_elder' (Kd.rx HO365.out) (Kd.R_base ho0) hb); replace HB := Aside0.mk (below_step (bl HB.out) hb); (try clear hb); (try clear ho0)) | (go_at_call 9; (with_reducible refine (peep_Dead.calls k _ _ l0 t370 t371 _ ?side3 ?side1 ?side2 A4.out).mono ?_); (case side1 => exact Kd.cx (Kd.C_below HR0.out HB.out)); (case side2 => exact HC0.out); (case side3 => exact GW.below HG.out (bl HB.out)); rintro e w112 ⟨v372, rfl, ho0, hb⟩; have HO373 := Aside0.mk (Kd.R_lower (Kd.R_new' (Kd.R_new' ho0 (Kd.R_lt (Kd.rx HO365.out))) (Kd.R_lt (Kd.rx HO369.out))) (below_size (bl HB.out))); replace HO365 := Aside0.mk (Kd.R_elder' (Kd.rx HO365.out) (Kd.R_base ho0) hb); replace HO369 := Aside0.mk (Kd.R_elder' (Kd.rx HO369.out) (Kd.R_base ho0) hb); replace HB := Aside0.mk (below_step (bl HB.out) hb); (try clear hb); (try clear ho0)) | (go_at_call 10; (with_reducible refine (peep_Hops.calls k _ _ l0 t374 t375 _ ?side3 ?side1 ?side2 A5.out).mono ?_); (case side1 => exact Kd.cx (Kd.C_below HR0.out HB.out)); (case side2 => exact HC0.out); (case side3 => exact GW.below HG.out (bl HB.out)); rintro e w113 ⟨v376, rfl, ho0, hb⟩; have HO377 := Aside0.mk (Kd.R_lower (Kd.R_new' (Kd.R_new' (Kd.R_new' ho0 (Kd.R_lt (Kd.rx HO365.out))) (Kd.R_lt (Kd.rx HO369.out))) (Kd.R_lt (Kd.rx HO373.out))) (below_size (bl HB.out))); replace HO365 := Aside0.mk (Kd.R_elder' (Kd.rx HO365.out) (Kd.R_base ho0) hb); replace HO369 := Aside0.mk (Kd.R_elder' (Kd.rx HO369.out) (Kd.R_base ho0) hb); replace HO373 := Aside0.mk (Kd.R_elder' (Kd.rx HO373.out) (Kd.R_base ho0) hb); replace HB := Aside0.mk (below_step (bl HB.out) hb); (try clear hb); (try clear ho0)) | (go_at_call 11; (with_reducible refine (harrowlaw20_lives.calls k  true _ ?side1 A96.out).mono ?_); (case side1 => exact GW.below HG.out (bl HB.out)); rintro e w114 ⟨rfl, hb⟩; replace HO365 := Aside0.mk (Kd.R_below (Kd.rx HO365.out) hb); replace HO369 := Aside0.mk (Kd.R_below (Kd.rx HO369.out) hb); replace HO373 := Aside0.mk (Kd.R_below (Kd.rx HO373.out) hb); replace HO377 := Aside0.mk (Kd.R_below (Kd.rx HO377.out) hb); replace HB := Aside0.mk (below_step (bl HB.out) hb); (try clear hb)))
      repeat (go_quiet (first | (go_at_call 7; (with_reducible refine (peep_Tails.calls k _ _ l0 t362 t363 _ ?side3 ?side1 ?side2 A2.out).mono ?_); (case side1 => exact Kd.cx HR0.out); (case side2 => exact HC0.out); (case side3 => exact GW.below HG.out (bl HB.out)); rintro e w110 ⟨v364, rfl, ho0, hb⟩; have HO365 := Aside0.mk (Kd.R_lower ho0 (below_size (bl HB.out))); replace HB := Aside0.mk (below_step (bl HB.out) hb); (try clear hb); (try clear ho0)) | (go_at_call 8; (with_reducible refine (peep_Threads.calls k _ _ l0 t366 t367 _ ?side3 ?side1 ?side2 A3.out).mono ?_); (case side1 => exact Kd.cx (Kd.C_below HR0.out HB.out)); (case side2 => exact HC0.out); (case side3 => exact GW.below HG.out (bl HB.out)); rintro e w111 ⟨v368, rfl, ho0, hb⟩; have HO369 := Aside0.mk (Kd.R_lower (Kd.R_new' ho0 (Kd.R_lt (Kd.rx HO365.out))) (below_size (bl HB.out))); replace HO365 := Aside0.mk (Kd.R_elder' (Kd.rx HO365.out) (Kd.R_base ho0) hb); replace HB := Aside0.mk (below_step (bl HB.out) hb); (try clear hb); (try clear ho0)) | (go_at_call 9; (with_reducible refine (peep_Dead.calls k _ _ l0 t370 t371 _ ?side3 ?side1 ?side2 A4.out).mono ?_); (case side1 => exact Kd.cx (Kd.C_below HR0.out HB.out)); (case side2 => exact HC0.out); (case side3 => exact GW.below HG.out (bl HB.out)); rintro e w112 ⟨v372, rfl, ho0, hb⟩; have HO373 := Aside0.mk (Kd.R_lower (Kd.R_new' (Kd.R_new' ho0 (Kd.R_lt (Kd.rx HO365.out))) (Kd.R_lt (Kd.rx HO369.out))) (below_size (bl HB.out))); replace HO365 := Aside0.mk (Kd.R_elder' (Kd.rx HO365.out) (Kd.R_base ho0) hb); replace HO369 := Aside0.mk (Kd.R_elder' (Kd.rx HO369.out) (Kd.R_base ho0) hb); replace HB := Aside0.mk (below_step (bl HB.out) hb); (try clear hb); (try clear ho0)) | (go_at_call 10; (with_reducible refine (peep_Hops.calls k _ _ l0 t374 t375 _ ?side3 ?side1 ?side2 A5.out).mono ?_); (case side1 => exact Kd.cx (Kd.C_below HR0.out HB.out)); (case side2 => exact HC0.out); (case side3 => exact GW.below HG.out (bl HB.out)); rintro e w113 ⟨v376, rfl, ho0, hb⟩; have HO377 := Aside0.mk (Kd.R_lower (Kd.R_new' (Kd.R_new' (Kd.R_new' ho0 (Kd.R_lt (Kd.rx HO365.out))) (Kd.R_lt (Kd.rx HO369.out))) (Kd.R_lt (Kd.rx HO373.out))) (below_size (bl HB.out))); replace HO365 := Aside0.mk (Kd.R_elder' (Kd.rx HO365.out) (Kd.R_base ho0) hb); replace HO369 := Aside0.mk (Kd.R_elder' (Kd.rx HO369.out) (Kd.R_base ho0) hb); replace HO373 := Aside0.mk (Kd.R_elder' (Kd.rx HO373.out) (Kd.R_base ho0) hb); replace HB := Aside0.mk (below_step (bl HB.out) hb); (try clear hb); (try clear ho0)) | (go_at_call 11; (with_reducible refine (harrowlaw20_lives.calls k  true _ ?side1 A96.out).mono ?_); (case side1 => exact GW.below HG.out (bl HB.out)); rintro e w114 ⟨rfl, hb⟩; replace HO365 := Aside0.mk (Kd.R_below (Kd.rx HO365.out) hb); replace HO369 := Aside0.mk (Kd.R_below (Kd.rx HO369.out) hb); replace HO373 := Aside0.mk (Kd.R_below (Kd.rx HO373.out) hb); replace HO377 := Aside0.mk (Kd.R_below (Kd.rx HO377.out) hb); replace HB := Aside0.mk (below_step (bl HB.out) hb); (try clear hb))); try go_wp2_with (first | (go_at_call 7; (with_reducible refine (peep_Tails.calls k _ _ l0 t362 t363 _ ?side3 ?side1 ?side2 A2.out).mono ?_); (case side1 => exact Kd.cx HR0.out); (case side2 => exact HC0.out); (case side3 => exact GW.below HG.out (bl HB.out)); rintro e w110 ⟨v364, rfl, ho0, hb⟩; have HO365 := Aside0.mk (Kd.R_lower ho0 (below_size (bl HB.out))); replace HB := Aside0.mk (below_step (bl HB.out) hb); (try clear hb); (try clear ho0)) | (go_at_call 8; (with_reducible refine (peep_Threads.calls k _ _ l0 t366 t367 _ ?side3 ?side1 ?side2 A3.out).mono ?_); (case side1 => exact Kd.cx (Kd.C_below HR0.out HB.out)); (case side2 => exact HC0.out); (case side3 => exact GW.below HG.out (bl HB.out)); rintro e w111 ⟨v368, rfl, ho0, hb⟩; have HO369 := Aside0.mk (Kd.R_lower (Kd.R_new' ho0 (Kd.R_lt (Kd.rx HO365.out))) (below_size (bl HB.out))); replace HO365 := Aside0.mk (Kd.R_elder' (Kd.rx HO365.out) (Kd.R_base ho0) hb); replace HB := Aside0.mk (below_step (bl HB.out) hb); (try clear hb); (try clear ho0)) | (go_at_call 9; (with_reducible refine (peep_Dead.calls k _ _ l0 t370 t371 _ ?side3 ?side1 ?side2 A4.out).mono ?_); (case side1 => exact Kd.cx (Kd.C_below HR0.out HB.out)); (case side2 => exact HC0.out); (case side3 => exact GW.below HG.out (bl HB.out)); rintro e w112 ⟨v372, rfl, ho0, hb⟩; have HO373 := Aside0.mk (Kd.R_lower (Kd.R_new' (Kd.R_new' ho0 (Kd.R_lt (Kd.rx HO365.out))) (Kd.R_lt (Kd.rx HO369.out))) (below_size (bl HB.out))); replace HO365 := Aside0.mk (Kd.R_elder' (Kd.rx HO365.out) (Kd.R_base ho0) hb); replace HO369 := Aside0.mk (Kd.R_elder' (Kd.rx HO369.out) (Kd.R_base ho0) hb); replace HB := Aside0.mk (below_step (bl HB.out) hb); (try clear hb); (try clear ho0)) | (go_at_call 10; (with_reducible refine (peep_Hops.calls k _ _ l0 t374 t375 _ ?side3 ?side1 ?side2 A5.out).mono ?_); (case side1 => exact Kd.cx (Kd.C_below HR0.out HB.out)); (case side2 => exact HC0.out); (case side3 => exact GW.below HG.out (bl HB.out)); rintro e w113 ⟨v376, rfl, ho0, hb⟩; have HO377 := Aside0.mk (Kd.R_lower (Kd.R_new' (Kd.R_new' (Kd.R_new' ho0 (Kd.R_lt (Kd.rx HO365.out))) (Kd.R_lt (Kd.rx HO369.out))) (Kd.R_lt (Kd.rx HO373.out))) (below_size (bl HB.out))); replace HO365 := Aside0.mk (Kd.R_elder' (Kd.rx HO365.out) (Kd.R_base ho0) hb); replace HO369 := Aside0.mk (Kd.R_elder' (Kd.rx HO369.out) (Kd.R_base ho0) hb); replace HO373 := Aside0.mk (Kd.R_elder' (Kd.rx HO373.out) (Kd.R_base ho0) hb); replace HB := Aside0.mk (below_step (bl HB.out) hb); (try clear hb); (try clear ho0)) | (go_at_call 11; (with_reducible refine (harrowlaw20_lives.calls k  true _ ?side1 A96.out).mono ?_); (case side1 => exact GW.below HG.out (bl HB.out)); rintro e w114 ⟨rfl, hb⟩; replace HO365 := Aside0.mk (Kd.R_below (Kd.rx HO365.out) hb); replace HO369 := Aside0.mk (Kd.R_below (Kd.rx HO369.out) hb); replace HO373 := Aside0.mk (Kd.R_below (Kd.rx HO373.out) hb); replace HO377 := Aside0.mk (Kd.R_below (Kd.rx HO377.out) hb); replace HB := Aside0.mk (below_step (bl HB.out) hb); (try clear hb))))
      go_ret
      exact ⟨by first | rfl | (simp [errW_none, errW_some] <;> rfl) | (simp [*, errW_none, errW_some] <;> rfl), bl HB.out⟩
    ·rw [if_neg c99] at H
     have c99b0 : (t371 == t363) = false := beq_eq_false_iff_ne.mpr c99
     have c99b1 : (t371 != t363) = true := bne_iff_ne.mpr c99
     obtain rfl := Option.some.inj H
     go_enter Tryd.func3, Tryd.ntmps3
     go_wp2_with (first | (go_at_call 7; (with_reducible refine (peep_Tails.calls k _ _ l0 t362 t363 _ ?side3 ?side1 ?side2 A2.out).mono ?_); (case side1 => exact Kd.cx HR0.out); (case side2 => exact HC0.out); (case side3 => exact GW.below HG.out (bl HB.out)); rintro e w115 ⟨v364, rfl, ho0, hb⟩; have HO365 := Aside0.mk (Kd.R_lower ho0 (below_size (bl HB.out))); replace HB := Aside0.mk (below_step (bl HB.out) hb); (try clear hb); (try clear ho0)) | (go_at_call 8; (with_reducible refine (peep_Threads.calls k _ _ l0 t366 t367 _ ?side3 ?side1 ?side2 A3.out).mono ?_); (case side1 => exact Kd.cx (Kd.C_below HR0.out HB.out)); (case side2 => exact HC0.out); (case side3 => exact GW.below HG.out (bl HB.out)); rintro e w116 ⟨v368, rfl, ho0, hb⟩; have HO369 := Aside0.mk (Kd.R_lower (Kd.R_new' ho0 (Kd.R_lt (Kd.rx HO365.out))) (below_size (bl HB.out))); replace HO365 := Aside0.mk (Kd.R_elder' (Kd.rx HO365.out) (Kd.R_base ho0) hb); replace HB := Aside0.mk (below_step (bl HB.out) hb); (try clear hb); (try clear ho0)) | (go_at_call 9; (with_reducible refine (peep_Dead.calls k _ _ l0 t370 t371 _ ?side3 ?side1 ?side2 A4.out).mono ?_); (case side1 => exact Kd.cx (Kd.C_below HR0.out HB.out)); (case side2 => exact HC0.out); (case side3 => exact GW.below HG.out (bl HB.out)); rintro e w117 ⟨v372, rfl, ho0, hb⟩; have HO373 := Aside0.mk (Kd.R_lower (Kd.R_new' (Kd.R_new' ho0 (Kd.R_lt (Kd.rx HO365.out))) (Kd.R_lt (Kd.rx HO369.out))) (below_size (bl HB.out))); replace HO365 := Aside0.mk (Kd.R_elder' (Kd.rx HO365.out) (Kd.R_base ho0) hb); replace HO369 := Aside0.mk (Kd.R_elder' (Kd.rx HO369.out) (Kd.R_base ho0) hb); replace HB := Aside0.mk (below_step (bl HB.out) hb); (try clear hb); (try clear ho0)) | (go_at_call 10; (with_reducible refine (peep_Hops.calls k _ _ l0 t374 t375 _ ?side3 ?side1 ?side2 A5.out).mono ?_); (case side1 => exact Kd.cx (Kd.C_below HR0.out HB.out)); (case side2 => exact HC0.out); (case side3 => exact GW.below HG.out (bl HB.out)); rintro e w118 ⟨v376, rfl, ho0, hb⟩; have HO377 := Aside0.mk (Kd.R_lower (Kd.R_new' (Kd.R_new' (Kd.R_new' ho0 (Kd.R_lt (Kd.rx HO365.out))) (Kd.R_lt (Kd.rx HO369.out))) (Kd.R_lt (Kd.rx HO373.out))) (below_size (bl HB.out))); replace HO365 := Aside0.mk (Kd.R_elder' (Kd.rx HO365.out) (Kd.R_base ho0) hb); replace HO369 := Aside0.mk (Kd.R_elder' (Kd.rx HO369.out) (Kd.R_base ho0) hb); replace HO373 := Aside0.mk (Kd.R_elder' (Kd.rx HO373.out) (Kd.R_base ho0) hb); replace HB := Aside0.mk (below_step (bl HB.out) hb); (try clear hb); (try clear ho0)) | (go_at_call 11; (with_reducible refine (harrowlaw20_lives.calls k  true _ ?side1 A96.out).mono ?_); (case side1 => exact GW.below HG.out (bl HB.out)); rintro e w119 ⟨rfl, hb⟩; replace HO365 := Aside0.mk (Kd.R_below (Kd.rx HO365.out) hb); replace HO369 := Aside0.mk (Kd.R_below (Kd.rx HO369.out) hb); replace HO373 := Aside0.mk (Kd.R_below (Kd.rx HO373.out) hb); replace HO377 := Aside0.mk (Kd.R_below (Kd.rx HO377.out) hb); replace HB := Aside0.mk (below_step (bl HB.out) hb); (try clear hb)))
     repeat (go_quiet (first | (go_at_call 7; (with_reducible refine (peep_Tails.calls k _ _ l0 t362 t363 _ ?side3 ?side1 ?side2 A2.out).mono ?_); (case side1 => exact Kd.cx HR0.out); (case side2 => exact HC0.out); (case side3 => exact GW.below HG.out (bl HB.out)); rintro e w115 ⟨v364, rfl, ho0, hb⟩; have HO365 := Aside0.mk (Kd.R_lower ho0 (below_size (bl HB.out))); replace HB := Aside0.mk (below_step (bl HB.out) hb); (try clear hb); (try clear ho0)) | (go_at_call 8; (with_reducible refine (peep_Threads.calls k _ _ l0 t366 t367 _ ?side3 ?side1 ?side2 A3.out).mono ?_); (case side1 => exact Kd.cx (Kd.C_below HR0.out HB.out)); (case side2 => exact HC0.out); (case side3 => exact GW.below HG.out (bl HB.out)); rintro e w116 ⟨v368, rfl, ho0, hb⟩; have HO369 := Aside0.mk (Kd.R_lower (Kd.R_new' ho0 (Kd.R_lt (Kd.rx HO365.out))) (below_size (bl HB.out))); replace HO365 := Aside0.mk (Kd.R_elder' (Kd.rx HO365.out) (Kd.R_base ho0) hb); replace HB := Aside0.mk (below_step (bl HB.out) hb); (try clear hb); (try clear ho0)) | (go_at_call 9; (with_reducible refine (peep_Dead.calls k _ _ l0 t370 t371 _ ?side3 ?side1 ?side2 A4.out).mono ?_); (case side1 => exact Kd.cx (Kd.C_below HR0.out HB.out)); (case side2 => exact HC0.out); (case side3 => exact GW.below HG.out (bl HB.out)); rintro e w117 ⟨v372, rfl, ho0, hb⟩; have HO373 := Aside0.mk (Kd.R_lower (Kd.R_new' (Kd.R_new' ho0 (Kd.R_lt (Kd.rx HO365.out))) (Kd.R_lt (Kd.rx HO369.out))) (below_size (bl HB.out))); replace HO365 := Aside0.mk (Kd.R_elder' (Kd.rx HO365.out) (Kd.R_base ho0) hb); replace HO369 := Aside0.mk (Kd.R_elder' (Kd.rx HO369.out) (Kd.R_base ho0) hb); replace HB := Aside0.mk (below_step (bl HB.out) hb); (try clear hb); (try clear ho0)) | (go_at_call 10; (with_reducible refine (peep_Hops.calls k _ _ l0 t374 t375 _ ?side3 ?side1 ?side2 A5.out).mono ?_); (case side1 => exact Kd.cx (Kd.C_below HR0.out HB.out)); (case side2 => exact HC0.out); (case side3 => exact GW.below HG.out (bl HB.out)); rintro e w118 ⟨v376, rfl, ho0, hb⟩; have HO377 := Aside0.mk (Kd.R_lower (Kd.R_new' (Kd.R_new' (Kd.R_new' ho0 (Kd.R_lt (Kd.rx HO365.out))) (Kd.R_lt (Kd.rx HO369.out))) (Kd.R_lt (Kd.rx HO373.out))) (below_size (bl HB.out))); replace HO365 := Aside0.mk (Kd.R_elder' (Kd.rx HO365.out) (Kd.R_base ho0) hb); replace HO369 := Aside0.mk (Kd.R_elder' (Kd.rx HO369.out) (Kd.R_base ho0) hb); replace HO373 := Aside0.mk (Kd.R_elder' (Kd.rx HO373.out) (Kd.R_base ho0) hb); replace HB := Aside0.mk (below_step (bl HB.out) hb); (try clear hb); (try clear ho0)) | (go_at_call 11; (with_reducible refine (harrowlaw20_lives.calls k  true _ ?side1 A96.out).mono ?_); (case side1 => exact GW.below HG.out (bl HB.out)); rintro e w119 ⟨rfl, hb⟩; replace HO365 := Aside0.mk (Kd.R_below (Kd.rx HO365.out) hb); replace HO369 := Aside0.mk (Kd.R_below (Kd.rx HO369.out) hb); replace HO373 := Aside0.mk (Kd.R_below (Kd.rx HO373.out) hb); replace HO377 := Aside0.mk (Kd.R_below (Kd.rx HO377.out) hb); replace HB := Aside0.mk (below_step (bl HB.out) hb); (try clear hb))); try go_wp2_with (first | (go_at_call 7; (with_reducible refine (peep_Tails.calls k _ _ l0 t362 t363 _ ?side3 ?side1 ?side2 A2.out).mono ?_); (case side1 => exact Kd.cx HR0.out); (case side2 => exact HC0.out); (case side3 => exact GW.below HG.out (bl HB.out)); rintro e w115 ⟨v364, rfl, ho0, hb⟩; have HO365 := Aside0.mk (Kd.R_lower ho0 (below_size (bl HB.out))); replace HB := Aside0.mk (below_step (bl HB.out) hb); (try clear hb); (try clear ho0)) | (go_at_call 8; (with_reducible refine (peep_Threads.calls k _ _ l0 t366 t367 _ ?side3 ?side1 ?side2 A3.out).mono ?_); (case side1 => exact Kd.cx (Kd.C_below HR0.out HB.out)); (case side2 => exact HC0.out); (case side3 => exact GW.below HG.out (bl HB.out)); rintro e w116 ⟨v368, rfl, ho0, hb⟩; have HO369 := Aside0.mk (Kd.R_lower (Kd.R_new' ho0 (Kd.R_lt (Kd.rx HO365.out))) (below_size (bl HB.out))); replace HO365 := Aside0.mk (Kd.R_elder' (Kd.rx HO365.out) (Kd.R_base ho0) hb); replace HB := Aside0.mk (below_step (bl HB.out) hb); (try clear hb); (try clear ho0)) | (go_at_call 9; (with_reducible refine (peep_Dead.calls k _ _ l0 t370 t371 _ ?side3 ?side1 ?side2 A4.out).mono ?_); (case side1 => exact Kd.cx (Kd.C_below HR0.out HB.out)); (case side2 => exact HC0.out); (case side3 => exact GW.below HG.out (bl HB.out)); rintro e w117 ⟨v372, rfl, ho0, hb⟩; have HO373 := Aside0.mk (Kd.R_lower (Kd.R_new' (Kd.R_new' ho0 (Kd.R_lt (Kd.rx HO365.out))) (Kd.R_lt (Kd.rx HO369.out))) (below_size (bl HB.out))); replace HO365 := Aside0.mk (Kd.R_elder' (Kd.rx HO365.out) (Kd.R_base ho0) hb); replace HO369 := Aside0.mk (Kd.R_elder' (Kd.rx HO369.out) (Kd.R_base ho0) hb); replace HB := Aside0.mk (below_step (bl HB.out) hb); (try clear hb); (try clear ho0)) | (go_at_call 10; (with_reducible refine (peep_Hops.calls k _ _ l0 t374 t375 _ ?side3 ?side1 ?side2 A5.out).mono ?_); (case side1 => exact Kd.cx (Kd.C_below HR0.out HB.out)); (case side2 => exact HC0.out); (case side3 => exact GW.below HG.out (bl HB.out)); rintro e w118 ⟨v376, rfl, ho0, hb⟩; have HO377 := Aside0.mk (Kd.R_lower (Kd.R_new' (Kd.R_new' (Kd.R_new' ho0 (Kd.R_lt (Kd.rx HO365.out))) (Kd.R_lt (Kd.rx HO369.out))) (Kd.R_lt (Kd.rx HO373.out))) (below_size (bl HB.out))); replace HO365 := Aside0.mk (Kd.R_elder' (Kd.rx HO365.out) (Kd.R_base ho0) hb); replace HO369 := Aside0.mk (Kd.R_elder' (Kd.rx HO369.out) (Kd.R_base ho0) hb); replace HO373 := Aside0.mk (Kd.R_elder' (Kd.rx HO373.out) (Kd.R_base ho0) hb); replace HB := Aside0.mk (below_step (bl HB.out) hb); (try clear hb); (try clear ho0)) | (go_at_call 11; (with_reducible refine (harrowlaw20_lives.calls k  true _ ?side1 A96.out).mono ?_); (case side1 => exact GW.below HG.out (bl HB.out)); rintro e w119 ⟨rfl, hb⟩; replace HO365 := Aside0.mk (Kd.R_below (Kd.rx HO365.out) hb); replace HO369 := Aside0.mk (Kd.R_below (Kd.rx HO369.out) hb); replace HO373 := Aside0.mk (Kd.R_below (Kd.rx HO373.out) hb); replace HO377 := Aside0.mk (Kd.R_below (Kd.rx HO377.out) hb); replace HB := Aside0.mk (below_step (bl HB.out) hb); (try clear hb))))
     go_ret
     exact ⟨by first | rfl | (simp [errW_none, errW_some] <;> rfl) | (simp [*, errW_none, errW_some] <;> rfl), bl HB.out⟩
   ·rw [if_neg c98] at H
    have c98b0 : (t367 == t363) = false := beq_eq_false_iff_ne.mpr c98
    have c98b1 : (t367 != t363) = true := bne_iff_ne.mpr c98
    obtain rfl := Option.some.inj H
    go_enter Tryd.func3, Tryd.ntmps3
    go_wp2_with (first | (go_at_call 7; (with_reducible refine (peep_Tails.calls k _ _ l0 t362 t363 _ ?side3 ?side1 ?side2 A2.out).mono ?_); (case side1 => exact Kd.cx HR0.out); (case side2 => exact HC0.out); (case side3 => exact GW.below HG.out (bl HB.out)); rintro e w120 ⟨v364, rfl, ho0, hb⟩; have HO365 := Aside0.mk (Kd.R_lower ho0 (below_size (bl HB.out))); replace HB := Aside0.mk (below_step (bl HB.out) hb); (try clear hb); (try clear ho0)) | (go_at_call 8; (with_reducible refine (peep_Threads.calls k _ _ l0 t366 t367 _ ?side3 ?side1 ?side2 A3.out).mono ?_); (case side1 => exact Kd.cx (Kd.C_below HR0.out HB.out)); (case side2 => exact HC0.out); (case side3 => exact GW.below HG.out (bl HB.out)); rintro e w121 ⟨v368, rfl, ho0, hb⟩; have HO369 := Aside0.mk (Kd.R_lower (Kd.R_new' ho0 (Kd.R_lt (Kd.rx HO365.out))) (below_size (bl HB.out))); replace HO365 := Aside0.mk (Kd.R_elder' (Kd.rx HO365.out) (Kd.R_base ho0) hb); replace HB := Aside0.mk (below_step (bl HB.out) hb); (try clear hb); (try clear ho0)) | (go_at_call 9; (with_reducible refine (peep_Dead.calls k _ _ l0 t370 t371 _ ?side3 ?side1 ?side2 A4.out).mono ?_); (case side1 => exact Kd.cx (Kd.C_below HR0.out HB.out)); (case side2 => exact HC0.out); (case side3 => exact GW.below HG.out (bl HB.out)); rintro e w122 ⟨v372, rfl, ho0, hb⟩; have HO373 := Aside0.mk (Kd.R_lower (Kd.R_new' (Kd.R_new' ho0 (Kd.R_lt (Kd.rx HO365.out))) (Kd.R_lt (Kd.rx HO369.out))) (below_size (bl HB.out))); replace HO365 := Aside0.mk (Kd.R_elder' (Kd.rx HO365.out) (Kd.R_base ho0) hb); replace HO369 := Aside0.mk (Kd.R_elder' (Kd.rx HO369.out) (Kd.R_base ho0) hb); replace HB := Aside0.mk (below_step (bl HB.out) hb); (try clear hb); (try clear ho0)) | (go_at_call 10; (with_reducible refine (peep_Hops.calls k _ _ l0 t374 t375 _ ?side3 ?side1 ?side2 A5.out).mono ?_); (case side1 => exact Kd.cx (Kd.C_below HR0.out HB.out)); (case side2 => exact HC0.out); (case side3 => exact GW.below HG.out (bl HB.out)); rintro e w123 ⟨v376, rfl, ho0, hb⟩; have HO377 := Aside0.mk (Kd.R_lower (Kd.R_new' (Kd.R_new' (Kd.R_new' ho0 (Kd.R_lt (Kd.rx HO365.out))) (Kd.R_lt (Kd.rx HO369.out))) (Kd.R_lt (Kd.rx HO373.out))) (below_size (bl HB.out))); replace HO365 := Aside0.mk (Kd.R_elder' (Kd.rx HO365.out) (Kd.R_base ho0) hb); replace HO369 := Aside0.mk (Kd.R_elder' (Kd.rx HO369.out) (Kd.R_base ho0) hb); replace HO373 := Aside0.mk (Kd.R_elder' (Kd.rx HO373.out) (Kd.R_base ho0) hb); replace HB := Aside0.mk (below_step (bl HB.out) hb); (try clear hb); (try clear ho0)) | (go_at_call 11; (with_reducible refine (harrowlaw20_lives.calls k  true _ ?side1 A96.out).mono ?_); (case side1 => exact GW.below HG.out (bl HB.out)); rintro e w124 ⟨rfl, hb⟩; replace HO365 := Aside0.mk (Kd.R_below (Kd.rx HO365.out) hb); replace HO369 := Aside0.mk (Kd.R_below (Kd.rx HO369.out) hb); replace HO373 := Aside0.mk (Kd.R_below (Kd.rx HO373.out) hb); replace HO377 := Aside0.mk (Kd.R_below (Kd.rx HO377.out) hb); replace HB := Aside0.mk (below_step (bl HB.out) hb); (try clear hb)))
    repeat (go_quiet (first | (go_at_call 7; (with_reducible refine (peep_Tails.calls k _ _ l0 t362 t363 _ ?side3 ?side1 ?side2 A2.out).mono ?_); (case side1 => exact Kd.cx HR0.out); (case side2 => exact HC0.out); (case side3 => exact GW.below HG.out (bl HB.out)); rintro e w120 ⟨v364, rfl, ho0, hb⟩; have HO365 := Aside0.mk (Kd.R_lower ho0 (below_size (bl HB.out))); replace HB := Aside0.mk (below_step (bl HB.out) hb); (try clear hb); (try clear ho0)) | (go_at_call 8; (with_reducible refine (peep_Threads.calls k _ _ l0 t366 t367 _ ?side3 ?side1 ?side2 A3.out).mono ?_); (case side1 => exact Kd.cx (Kd.C_below HR0.out HB.out)); (case side2 => exact HC0.out); (case side3 => exact GW.below HG.out (bl HB.out)); rintro e w121 ⟨v368, rfl, ho0, hb⟩; have HO369 := Aside0.mk (Kd.R_lower (Kd.R_new' ho0 (Kd.R_lt (Kd.rx HO365.out))) (below_size (bl HB.out))); replace HO365 := Aside0.mk (Kd.R_elder' (Kd.rx HO365.out) (Kd.R_base ho0) hb); replace HB := Aside0.mk (below_step (bl HB.out) hb); (try clear hb); (try clear ho0)) | (go_at_call 9; (with_reducible refine (peep_Dead.calls k _ _ l0 t370 t371 _ ?side3 ?side1 ?side2 A4.out).mono ?_); (case side1 => exact Kd.cx (Kd.C_below HR0.out HB.out)); (case side2 => exact HC0.out); (case side3 => exact GW.below HG.out (bl HB.out)); rintro e w122 ⟨v372, rfl, ho0, hb⟩; have HO373 := Aside0.mk (Kd.R_lower (Kd.R_new' (Kd.R_new' ho0 (Kd.R_lt (Kd.rx HO365.out))) (Kd.R_lt (Kd.rx HO369.out))) (below_size (bl HB.out))); replace HO365 := Aside0.mk (Kd.R_elder' (Kd.rx HO365.out) (Kd.R_base ho0) hb); replace HO369 := Aside0.mk (Kd.R_elder' (Kd.rx HO369.out) (Kd.R_base ho0) hb); replace HB := Aside0.mk (below_step (bl HB.out) hb); (try clear hb); (try clear ho0)) | (go_at_call 10; (with_reducible refine (peep_Hops.calls k _ _ l0 t374 t375 _ ?side3 ?side1 ?side2 A5.out).mono ?_); (case side1 => exact Kd.cx (Kd.C_below HR0.out HB.out)); (case side2 => exact HC0.out); (case side3 => exact GW.below HG.out (bl HB.out)); rintro e w123 ⟨v376, rfl, ho0, hb⟩; have HO377 := Aside0.mk (Kd.R_lower (Kd.R_new' (Kd.R_new' (Kd.R_new' ho0 (Kd.R_lt (Kd.rx HO365.out))) (Kd.R_lt (Kd.rx HO369.out))) (Kd.R_lt (Kd.rx HO373.out))) (below_size (bl HB.out))); replace HO365 := Aside0.mk (Kd.R_elder' (Kd.rx HO365.out) (Kd.R_base ho0) hb); replace HO369 := Aside0.mk (Kd.R_elder' (Kd.rx HO369.out) (Kd.R_base ho0) hb); replace HO373 := Aside0.mk (Kd.R_elder' (Kd.rx HO373.out) (Kd.R_base ho0) hb); replace HB := Aside0.mk (below_step (bl HB.out) hb); (try clear hb); (try clear ho0)) | (go_at_call 11; (with_reducible refine (harrowlaw20_lives.calls k  true _ ?side1 A96.out).mono ?_); (case side1 => exact GW.below HG.out (bl HB.out)); rintro e w124 ⟨rfl, hb⟩; replace HO365 := Aside0.mk (Kd.R_below (Kd.rx HO365.out) hb); replace HO369 := Aside0.mk (Kd.R_below (Kd.rx HO369.out) hb); replace HO373 := Aside0.mk (Kd.R_below (Kd.rx HO373.out) hb); replace HO377 := Aside0.mk (Kd.R_below (Kd.rx HO377.out) hb); replace HB := Aside0.mk (below_step (bl HB.out) hb); (try clear hb))); try go_wp2_with (first | (go_at_call 7; (with_reducible refine (peep_Tails.calls k _ _ l0 t362 t363 _ ?side3 ?side1 ?side2 A2.out).mono ?_); (case side1 => exact Kd.cx HR0.out); (case side2 => exact HC0.out); (case side3 => exact GW.below HG.out (bl HB.out)); rintro e w120 ⟨v364, rfl, ho0, hb⟩; have HO365 := Aside0.mk (Kd.R_lower ho0 (below_size (bl HB.out))); replace HB := Aside0.mk (below_step (bl HB.out) hb); (try clear hb); (try clear ho0)) | (go_at_call 8; (with_reducible refine (peep_Threads.calls k _ _ l0 t366 t367 _ ?side3 ?side1 ?side2 A3.out).mono ?_); (case side1 => exact Kd.cx (Kd.C_below HR0.out HB.out)); (case side2 => exact HC0.out); (case side3 => exact GW.below HG.out (bl HB.out)); rintro e w121 ⟨v368, rfl, ho0, hb⟩; have HO369 := Aside0.mk (Kd.R_lower (Kd.R_new' ho0 (Kd.R_lt (Kd.rx HO365.out))) (below_size (bl HB.out))); replace HO365 := Aside0.mk (Kd.R_elder' (Kd.rx HO365.out) (Kd.R_base ho0) hb); replace HB := Aside0.mk (below_step (bl HB.out) hb); (try clear hb); (try clear ho0)) | (go_at_call 9; (with_reducible refine (peep_Dead.calls k _ _ l0 t370 t371 _ ?side3 ?side1 ?side2 A4.out).mono ?_); (case side1 => exact Kd.cx (Kd.C_below HR0.out HB.out)); (case side2 => exact HC0.out); (case side3 => exact GW.below HG.out (bl HB.out)); rintro e w122 ⟨v372, rfl, ho0, hb⟩; have HO373 := Aside0.mk (Kd.R_lower (Kd.R_new' (Kd.R_new' ho0 (Kd.R_lt (Kd.rx HO365.out))) (Kd.R_lt (Kd.rx HO369.out))) (below_size (bl HB.out))); replace HO365 := Aside0.mk (Kd.R_elder' (Kd.rx HO365.out) (Kd.R_base ho0) hb); replace HO369 := Aside0.mk (Kd.R_elder' (Kd.rx HO369.out) (Kd.R_base ho0) hb); replace HB := Aside0.mk (below_step (bl HB.out) hb); (try clear hb); (try clear ho0)) | (go_at_call 10; (with_reducible refine (peep_Hops.calls k _ _ l0 t374 t375 _ ?side3 ?side1 ?side2 A5.out).mono ?_); (case side1 => exact Kd.cx (Kd.C_below HR0.out HB.out)); (case side2 => exact HC0.out); (case side3 => exact GW.below HG.out (bl HB.out)); rintro e w123 ⟨v376, rfl, ho0, hb⟩; have HO377 := Aside0.mk (Kd.R_lower (Kd.R_new' (Kd.R_new' (Kd.R_new' ho0 (Kd.R_lt (Kd.rx HO365.out))) (Kd.R_lt (Kd.rx HO369.out))) (Kd.R_lt (Kd.rx HO373.out))) (below_size (bl HB.out))); replace HO365 := Aside0.mk (Kd.R_elder' (Kd.rx HO365.out) (Kd.R_base ho0) hb); replace HO369 := Aside0.mk (Kd.R_elder' (Kd.rx HO369.out) (Kd.R_base ho0) hb); replace HO373 := Aside0.mk (Kd.R_elder' (Kd.rx HO373.out) (Kd.R_base ho0) hb); replace HB := Aside0.mk (below_step (bl HB.out) hb); (try clear hb); (try clear ho0)) | (go_at_call 11; (with_reducible refine (harrowlaw20_lives.calls k  true _ ?side1 A96.out).mono ?_); (case side1 => exact GW.below HG.out (bl HB.out)); rintro e w124 ⟨rfl, hb⟩; replace HO365 := Aside0.mk (Kd.R_below (Kd.rx HO365.out) hb); replace HO369 := Aside0.mk (Kd.R_below (Kd.rx HO369.out) hb); replace HO373 := Aside0.mk (Kd.R_below (Kd.rx HO373.out) hb); replace HO377 := Aside0.mk (Kd.R_below (Kd.rx HO377.out) hb); replace HB := Aside0.mk (below_step (bl HB.out) hb); (try clear hb))))
    go_ret
    exact ⟨by first | rfl | (simp [errW_none, errW_some] <;> rfl) | (simp [*, errW_none, errW_some] <;> rfl), bl HB.out⟩
  ·replace c97 := Bool.eq_false_iff.mpr c97
   subst c97
   have H1 : (some false) = some r := by rw [if_neg (show ¬ (false = true) by decide)] at H; exact H
   clear H
   have H := H1
   clear H1
   obtain rfl := Option.some.inj H
   go_enter Tryd.func3, Tryd.ntmps3
   go_wp2_with (first | (go_at_call 7; (with_reducible refine (peep_Tails.calls k _ _ l0 t362 t363 _ ?side3 ?side1 ?side2 A2.out).mono ?_); (case side1 => exact Kd.cx HR0.out); (case side2 => exact HC0.out); (case side3 => exact GW.below HG.out (bl HB.out)); rintro e w125 ⟨v364, rfl, ho0, hb⟩; have HO365 := Aside0.mk (Kd.R_lower ho0 (below_size (bl HB.out))); replace HB := Aside0.mk (below_step (bl HB.out) hb); (try clear hb); (try clear ho0)) | (go_at_call 8; (with_reducible refine (peep_Threads.calls k _ _ l0 t366 t367 _ ?side3 ?side1 ?side2 A3.out).mono ?_); (case side1 => exact Kd.cx (Kd.C_below HR0.out HB.out)); (case side2 => exact HC0.out); (case side3 => exact GW.below HG.out (bl HB.out)); rintro e w126 ⟨v368, rfl, ho0, hb⟩; have HO369 := Aside0.mk (Kd.R_lower (Kd.R_new' ho0 (Kd.R_lt (Kd.rx HO365.out))) (below_size (bl HB.out))); replace HO365 := Aside0.mk (Kd.R_elder' (Kd.rx HO365.out) (Kd.R_base ho0) hb); replace HB := Aside0.mk (below_step (bl HB.out) hb); (try clear hb); (try clear ho0)) | (go_at_call 9; (with_reducible refine (peep_Dead.calls k _ _ l0 t370 t371 _ ?side3 ?side1 ?side2 A4.out).mono ?_); (case side1 => exact Kd.cx (Kd.C_below HR0.out HB.out)); (case side2 => exact HC0.out); (case side3 => exact GW.below HG.out (bl HB.out)); rintro e w127 ⟨v372, rfl, ho0, hb⟩; have HO373 := Aside0.mk (Kd.R_lower (Kd.R_new' (Kd.R_new' ho0 (Kd.R_lt (Kd.rx HO365.out))) (Kd.R_lt (Kd.rx HO369.out))) (below_size (bl HB.out))); replace HO365 := Aside0.mk (Kd.R_elder' (Kd.rx HO365.out) (Kd.R_base ho0) hb); replace HO369 := Aside0.mk (Kd.R_elder' (Kd.rx HO369.out) (Kd.R_base ho0) hb); replace HB := Aside0.mk (below_step (bl HB.out) hb); (try clear hb); (try clear ho0)) | (go_at_call 10; (with_reducible refine (peep_Hops.calls k _ _ l0 t374 t375 _ ?side3 ?side1 ?side2 A5.out).mono ?_); (case side1 => exact Kd.cx (Kd.C_below HR0.out HB.out)); (case side2 => exact HC0.out); (case side3 => exact GW.below HG.out (bl HB.out)); rintro e w128 ⟨v376, rfl, ho0, hb⟩; have HO377 := Aside0.mk (Kd.R_lower (Kd.R_new' (Kd.R_new' (Kd.R_new' ho0 (Kd.R_lt (Kd.rx HO365.out))) (Kd.R_lt (Kd.rx HO369.out))) (Kd.R_lt (Kd.rx HO373.out))) (below_size (bl HB.out))); replace HO365 := Aside0.mk (Kd.R_elder' (Kd.rx HO365.out) (Kd.R_base ho0) hb); replace HO369 := Aside0.mk (Kd.R_elder' (Kd.rx HO369.out) (Kd.R_base ho0) hb); replace HO373 := Aside0.mk (Kd.R_elder' (Kd.rx HO373.out) (Kd.R_base ho0) hb); replace HB := Aside0.mk (below_step (bl HB.out) hb); (try clear hb); (try clear ho0)) | (go_at_call 11; (with_reducible refine (harrowlaw20_lives.calls k  false _ ?side1 A96.out).mono ?_); (case side1 => exact GW.below HG.out (bl HB.out)); rintro e w129 ⟨rfl, hb⟩; replace HO365 := Aside0.mk (Kd.R_below (Kd.rx HO365.out) hb); replace HO369 := Aside0.mk (Kd.R_below (Kd.rx HO369.out) hb); replace HO373 := Aside0.mk (Kd.R_below (Kd.rx HO373.out) hb); replace HO377 := Aside0.mk (Kd.R_below (Kd.rx HO377.out) hb); replace HB := Aside0.mk (below_step (bl HB.out) hb); (try clear hb)))
   repeat (go_quiet (first | (go_at_call 7; (with_reducible refine (peep_Tails.calls k _ _ l0 t362 t363 _ ?side3 ?side1 ?side2 A2.out).mono ?_); (case side1 => exact Kd.cx HR0.out); (case side2 => exact HC0.out); (case side3 => exact GW.below HG.out (bl HB.out)); rintro e w125 ⟨v364, rfl, ho0, hb⟩; have HO365 := Aside0.mk (Kd.R_lower ho0 (below_size (bl HB.out))); replace HB := Aside0.mk (below_step (bl HB.out) hb); (try clear hb); (try clear ho0)) | (go_at_call 8; (with_reducible refine (peep_Threads.calls k _ _ l0 t366 t367 _ ?side3 ?side1 ?side2 A3.out).mono ?_); (case side1 => exact Kd.cx (Kd.C_below HR0.out HB.out)); (case side2 => exact HC0.out); (case side3 => exact GW.below HG.out (bl HB.out)); rintro e w126 ⟨v368, rfl, ho0, hb⟩; have HO369 := Aside0.mk (Kd.R_lower (Kd.R_new' ho0 (Kd.R_lt (Kd.rx HO365.out))) (below_size (bl HB.out))); replace HO365 := Aside0.mk (Kd.R_elder' (Kd.rx HO365.out) (Kd.R_base ho0) hb); replace HB := Aside0.mk (below_step (bl HB.out) hb); (try clear hb); (try clear ho0)) | (go_at_call 9; (with_reducible refine (peep_Dead.calls k _ _ l0 t370 t371 _ ?side3 ?side1 ?side2 A4.out).mono ?_); (case side1 => exact Kd.cx (Kd.C_below HR0.out HB.out)); (case side2 => exact HC0.out); (case side3 => exact GW.below HG.out (bl HB.out)); rintro e w127 ⟨v372, rfl, ho0, hb⟩; have HO373 := Aside0.mk (Kd.R_lower (Kd.R_new' (Kd.R_new' ho0 (Kd.R_lt (Kd.rx HO365.out))) (Kd.R_lt (Kd.rx HO369.out))) (below_size (bl HB.out))); replace HO365 := Aside0.mk (Kd.R_elder' (Kd.rx HO365.out) (Kd.R_base ho0) hb); replace HO369 := Aside0.mk (Kd.R_elder' (Kd.rx HO369.out) (Kd.R_base ho0) hb); replace HB := Aside0.mk (below_step (bl HB.out) hb); (try clear hb); (try clear ho0)) | (go_at_call 10; (with_reducible refine (peep_Hops.calls k _ _ l0 t374 t375 _ ?side3 ?side1 ?side2 A5.out).mono ?_); (case side1 => exact Kd.cx (Kd.C_below HR0.out HB.out)); (case side2 => exact HC0.out); (case side3 => exact GW.below HG.out (bl HB.out)); rintro e w128 ⟨v376, rfl, ho0, hb⟩; have HO377 := Aside0.mk (Kd.R_lower (Kd.R_new' (Kd.R_new' (Kd.R_new' ho0 (Kd.R_lt (Kd.rx HO365.out))) (Kd.R_lt (Kd.rx HO369.out))) (Kd.R_lt (Kd.rx HO373.out))) (below_size (bl HB.out))); replace HO365 := Aside0.mk (Kd.R_elder' (Kd.rx HO365.out) (Kd.R_base ho0) hb); replace HO369 := Aside0.mk (Kd.R_elder' (Kd.rx HO369.out) (Kd.R_base ho0) hb); replace HO373 := Aside0.mk (Kd.R_elder' (Kd.rx HO373.out) (Kd.R_base ho0) hb); replace HB := Aside0.mk (below_step (bl HB.out) hb); (try clear hb); (try clear ho0)) | (go_at_call 11; (with_reducible refine (harrowlaw20_lives.calls k  false _ ?side1 A96.out).mono ?_); (case side1 => exact GW.below HG.out (bl HB.out)); rintro e w129 ⟨rfl, hb⟩; replace HO365 := Aside0.mk (Kd.R_below (Kd.rx HO365.out) hb); replace HO369 := Aside0.mk (Kd.R_below (Kd.rx HO369.out) hb); replace HO373 := Aside0.mk (Kd.R_below (Kd.rx HO373.out) hb); replace HO377 := Aside0.mk (Kd.R_below (Kd.rx HO377.out) hb); replace HB := Aside0.mk (below_step (bl HB.out) hb); (try clear hb))); try go_wp2_with (first | (go_at_call 7; (with_reducible refine (peep_Tails.calls k _ _ l0 t362 t363 _ ?side3 ?side1 ?side2 A2.out).mono ?_); (case side1 => exact Kd.cx HR0.out); (case side2 => exact HC0.out); (case side3 => exact GW.below HG.out (bl HB.out)); rintro e w125 ⟨v364, rfl, ho0, hb⟩; have HO365 := Aside0.mk (Kd.R_lower ho0 (below_size (bl HB.out))); replace HB := Aside0.mk (below_step (bl HB.out) hb); (try clear hb); (try clear ho0)) | (go_at_call 8; (with_reducible refine (peep_Threads.calls k _ _ l0 t366 t367 _ ?side3 ?side1 ?side2 A3.out).mono ?_); (case side1 => exact Kd.cx (Kd.C_below HR0.out HB.out)); (case side2 => exact HC0.out); (case side3 => exact GW.below HG.out (bl HB.out)); rintro e w126 ⟨v368, rfl, ho0, hb⟩; have HO369 := Aside0.mk (Kd.R_lower (Kd.R_new' ho0 (Kd.R_lt (Kd.rx HO365.out))) (below_size (bl HB.out))); replace HO365 := Aside0.mk (Kd.R_elder' (Kd.rx HO365.out) (Kd.R_base ho0) hb); replace HB := Aside0.mk (below_step (bl HB.out) hb); (try clear hb); (try clear ho0)) | (go_at_call 9; (with_reducible refine (peep_Dead.calls k _ _ l0 t370 t371 _ ?side3 ?side1 ?side2 A4.out).mono ?_); (case side1 => exact Kd.cx (Kd.C_below HR0.out HB.out)); (case side2 => exact HC0.out); (case side3 => exact GW.below HG.out (bl HB.out)); rintro e w127 ⟨v372, rfl, ho0, hb⟩; have HO373 := Aside0.mk (Kd.R_lower (Kd.R_new' (Kd.R_new' ho0 (Kd.R_lt (Kd.rx HO365.out))) (Kd.R_lt (Kd.rx HO369.out))) (below_size (bl HB.out))); replace HO365 := Aside0.mk (Kd.R_elder' (Kd.rx HO365.out) (Kd.R_base ho0) hb); replace HO369 := Aside0.mk (Kd.R_elder' (Kd.rx HO369.out) (Kd.R_base ho0) hb); replace HB := Aside0.mk (below_step (bl HB.out) hb); (try clear hb); (try clear ho0)) | (go_at_call 10; (with_reducible refine (peep_Hops.calls k _ _ l0 t374 t375 _ ?side3 ?side1 ?side2 A5.out).mono ?_); (case side1 => exact Kd.cx (Kd.C_below HR0.out HB.out)); (case side2 => exact HC0.out); (case side3 => exact GW.below HG.out (bl HB.out)); rintro e w128 ⟨v376, rfl, ho0, hb⟩; have HO377 := Aside0.mk (Kd.R_lower (Kd.R_new' (Kd.R_new' (Kd.R_new' ho0 (Kd.R_lt (Kd.rx HO365.out))) (Kd.R_lt (Kd.rx HO369.out))) (Kd.R_lt (Kd.rx HO373.out))) (below_size (bl HB.out))); replace HO365 := Aside0.mk (Kd.R_elder' (Kd.rx HO365.out) (Kd.R_base ho0) hb); replace HO369 := Aside0.mk (Kd.R_elder' (Kd.rx HO369.out) (Kd.R_base ho0) hb); replace HO373 := Aside0.mk (Kd.R_elder' (Kd.rx HO373.out) (Kd.R_base ho0) hb); replace HB := Aside0.mk (below_step (bl HB.out) hb); (try clear hb); (try clear ho0)) | (go_at_call 11; (with_reducible refine (harrowlaw20_lives.calls k  false _ ?side1 A96.out).mono ?_); (case side1 => exact GW.below HG.out (bl HB.out)); rintro e w129 ⟨rfl, hb⟩; replace HO365 := Aside0.mk (Kd.R_below (Kd.rx HO365.out) hb); replace HO369 := Aside0.mk (Kd.R_below (Kd.rx HO369.out) hb); replace HO373 := Aside0.mk (Kd.R_below (Kd.rx HO373.out) hb); replace HO377 := Aside0.mk (Kd.R_below (Kd.rx HO377.out) hb); replace HB := Aside0.mk (below_step (bl HB.out) hb); (try clear hb))))
   go_ret
   exact ⟨by first | rfl | (simp [errW_none, errW_some] <;> rfl) | (simp [*, errW_none, errW_some] <;> rfl), bl HB.out⟩
end Go.Proofs.YtnpeabmlcakegaaDoor.PPeepKinds
namespace Go.Proofs.YtnpeabmlcakegaaDoor.PPeepKinds
open Go.RowKit Go.Proofs.YtnpeabmlcakegaaDoorW.PrintWords Go.Proofs.YtnpeabmlcakegaaDoorW.PrintLast Go.Proofs.YtnpeabmlcakegaaDoorW.PrintMore
attribute [local go_sem] cell_drewN_set cell_drew_set cell_set_set max2_int min2_int max_two min_two max_three min_three max_four min_four   -- for this text's walks alone
set_option linter.unusedVariables false
set_option linter.unusedSimpArgs false
mutual
def slices_siftDownOrdered_int.l0 : Nat → List Int → Int → Int → Int → Option (List Int)
 | 0, _, _, _, _ => none
 | k + 1, x0, x2, x3, x8 => if (wrap64 ((wrap64 (2 * x8)) + 1)) ≥ x2 then (some x0) else (if (wrap64 ((wrap64 ((wrap64 (2 * x8)) + 1)) + 1)) < x2 then (if 0 ≤ (wrap64 (x3 + (wrap64 ((wrap64 (2 * x8)) + 1)))) then (if (wrap64 (x3 + (wrap64 ((wrap64 (2 * x8)) + 1)))) < (x0.length : Int) then (if 0 ≤ (wrap64 ((wrap64 (x3 + (wrap64 ((wrap64 (2 * x8)) + 1)))) + 1)) then (if (wrap64 ((wrap64 (x3 + (wrap64 ((wrap64 (2 * x8)) + 1)))) + 1)) < (x0.length : Int) then ((cmp_Less_int.f (rd x0 (wrap64 (x3 + (wrap64 ((wrap64 (2 * x8)) + 1))))) (rd x0 (wrap64 ((wrap64 (x3 + (wrap64 ((wrap64 (2 * x8)) + 1)))) + 1)))).bind fun t232 => (slices_siftDownOrdered_int.j1 k x0 x2 x3 x8 (wrap64 ((wrap64 (2 * x8)) + 1)) t232)) else (none)) else (none)) else (none)) else (none)) else (slices_siftDownOrdered_int.j1 k x0 x2 x3 x8 (wrap64 ((wrap64 (2 * x8)) + 1)) false))
def slices_siftDownOrdered_int.j1 : Nat → List Int → Int → Int → Int → Int → Bool → Option (List Int)
 | 0, _, _, _, _, _, _ => none
 | k + 1, x0, x2, x3, x8, x9, x36 => if x36 = true then (if 0 ≤ (wrap64 (x3 + x8)) then (if (wrap64 (x3 + x8)) < (x0.length : Int) then (if 0 ≤ (wrap64 (x3 + (wrap64 (x9 + 1)))) then (if (wrap64 (x3 + (wrap64 (x9 + 1)))) < (x0.length : Int) then ((cmp_Less_int.f (rd x0 (wrap64 (x3 + x8))) (rd x0 (wrap64 (x3 + (wrap64 (x9 + 1)))))).bind fun t235 => (if t235 = true then (slices_siftDownOrdered_int.l0 k ((x0.set ((wrap64 (x3 + x8)) : Int).toNat (rd x0 (wrap64 (x3 + (wrap64 (x9 + 1)))))).set ((wrap64 (x3 + (wrap64 (x9 + 1)))) : Int).toNat (rd x0 (wrap64 (x3 + x8)))) x2 x3 (wrap64 (x9 + 1))) else (some x0))) else (none)) else (none)) else (none)) else (none)) else (if 0 ≤ (wrap64 (x3 + x8)) then (if (wrap64 (x3 + x8)) < (x0.length : Int) then (if 0 ≤ (wrap64 (x3 + x9)) then (if (wrap64 (x3 + x9)) < (x0.length : Int) then ((cmp_Less_int.f (rd x0 (wrap64 (x3 + x8))) (rd x0 (wrap64 (x3 + x9)))).bind fun t242 => (if t242 = true then (slices_siftDownOrdered_int.l0 k ((x0.set ((wrap64 (x3 + x8)) : Int).toNat (rd x0 (wrap64 (x3 + x9)))).set ((wrap64 (x3 + x9)) : Int).toNat (rd x0 (wrap64 (x3 + x8)))) x2 x3 x9) else (some x0))) else (none)) else (none)) else (none)) else (none))
end
def slices_siftDownOrdered_int.f (k : Nat) (l0 : List Int) (a1 : Int) (a2 : Int) (a3 : Int) : Option (List Int) := slices_siftDownOrdered_int.l0 k l0 a2 a3 a1
theorem slices_siftDownOrdered_int.mono_l : ∀ k, (∀ y0 y1 y2 y3, LeO (slices_siftDownOrdered_int.l0 k y0 y1 y2 y3) (slices_siftDownOrdered_int.l0 (k + 1) y0 y1 y2 y3)) ∧ (∀ y0 y1 y2 y3 y4 y5, LeO (slices_siftDownOrdered_int.j1 k y0 y1 y2 y3 y4 y5) (slices_siftDownOrdered_int.j1 (k + 1) y0 y1 y2 y3 y4 y5))
 | 0 => ⟨fun _ _ _ _ r h => by simp [slices_siftDownOrdered_int.l0] at h, fun _ _ _ _ _ _ r h => by simp [slices_siftDownOrdered_int.j1] at h⟩
 | k + 1 => by
  obtain ⟨ih0, ih1⟩ := slices_siftDownOrdered_int.mono_l k
  refine ⟨?_, ?_⟩
  ·intro y0 y1 y2 y3
   unfold slices_siftDownOrdered_int.l0
   repeat' first
   | (with_reducible exact ih0 _ _ _ _)
   | (with_reducible exact ih1 _ _ _ _ _ _)
   | (with_reducible exact LeO.refl _)
   | (with_reducible exact LeO.none _)
   | (with_reducible refine LeO.ite ?_ ?_)
   | (with_reducible refine LeO.bind ?_ (fun _ => ?_))
   | exact ih0 _ _ _ _
   | exact ih1 _ _ _ _ _ _
   | exact LeO.none _
   | refine LeO.ite ?_ ?_
   | refine LeO.bind ?_ (fun _ => ?_)
  ·intro y0 y1 y2 y3 y4 y5
   unfold slices_siftDownOrdered_int.j1
   repeat' first
   | (with_reducible exact ih0 _ _ _ _)
   | (with_reducible exact ih1 _ _ _ _ _ _)
   | (with_reducible exact LeO.refl _)
   | (with_reducible exact LeO.none _)
   | (with_reducible refine LeO.ite ?_ ?_)
   | (with_reducible refine LeO.bind ?_ (fun _ => ?_))
   | exact ih0 _ _ _ _
   | exact ih1 _ _ _ _ _ _
   | exact LeO.none _
   | refine LeO.ite ?_ ?_
   | refine LeO.bind ?_ (fun _ => ?_)
theorem slices_siftDownOrdered_int.mono : ∀ a0 a1 a2 a3 k, LeO (slices_siftDownOrdered_int.f k a0 a1 a2 a3) (slices_siftDownOrdered_int.f (k + 1) a0 a1 a2 a3) := by
 intro a0 a1 a2 a3 k
 obtain ⟨ih0, ih1⟩ := slices_siftDownOrdered_int.mono_l k
 unfold slices_siftDownOrdered_int.f
 repeat' first
   | (with_reducible exact ih0 _ _ _ _)
   | (with_reducible exact ih1 _ _ _ _ _ _)
   | (with_reducible exact LeO.refl _)
   | (with_reducible exact LeO.none _)
   | (with_reducible refine LeO.ite ?_ ?_)
   | (with_reducible refine LeO.bind ?_ (fun _ => ?_))
   | exact ih0 _ _ _ _
   | exact ih1 _ _ _ _ _ _
   | exact LeO.none _
   | refine LeO.ite ?_ ?_
   | refine LeO.bind ?_ (fun _ => ?_)
def slices_siftDownOrdered_int.T6 : Bool × List (List Nat × List Nat) := (true, [([], []), ([], []), ([], []), ([1, 2], [1, 2]), ([], []), ([], []), ([], []), ([5, 6], [5, 6]), ([], []), ([], []), ([], []), ([9, 10], [9, 10]), ([8, 11], [8, 11]), ([12], [12]), ([], []), ([], []), ([], []), ([15, 16], [15, 16]), ([14, 17], [14, 17]), ([18], [18]), ([0, 3, 0, 1, 2, 3, 8, 9, 10, 11, 12, 13, 19], [0, 3]), ([20, 13, 0, 1, 2, 3, 8, 9, 10, 11, 12, 13, 19], [13, 20]), ([4, 7, 0, 1, 2, 3, 4, 5, 6, 7, 8, 9, 10, 11, 12, 13, 14, 15, 16, 17, 18, 19, 20, 21], [4, 7]), ([22, 19, 21, 0, 1, 2, 3, 4, 5, 6, 7, 8, 9, 10, 11, 12, 13, 14, 15, 16, 17, 18, 19, 20, 21], [19, 22])])
def slices_siftDownOrdered_int.B6 : List Nat := [0, 0, 0, 6, 0, 0, 0, 96, 0, 0, 0, 1536, 3840, 7936, 0, 0, 0, 98304, 245760, 507904, 1048335, 2096911, 4194303, 8388607]
theorem slices_siftDownOrdered_int.tab6 : rtab .any (opsOf Tryd.f81 6) = slices_siftDownOrdered_int.T6 := by kernel_rfl
theorem slices_siftDownOrdered_int.bits6 : waitsOk slices_siftDownOrdered_int.T6.2 slices_siftDownOrdered_int.B6 = true := by kernel_rfl
end Go.Proofs.YtnpeabmlcakegaaDoor.PPeepKinds
namespace Go.Proofs.YtnpeabmlcakegaaDoor.PPeepKinds
open Go.RowKit Go.Proofs.YtnpeabmlcakegaaDoorW.PrintWords
set_option linter.unusedVariables false
set_option linter.unusedSimpArgs false
section
variable {α β : Type} {c : Prop} [Decidable c] {a b : Nat → Option α} {r : α}
theorem ev_pos (h : c) (k : Ev a r) : Ev (fun n => if c then a n else b n) r := by simpa only [if_pos h] using k
theorem ev_neg (h : ¬ c) (k : Ev b r) : Ev (fun n => if c then a n else b n) r := by simpa only [if_neg h] using k
theorem ev_now : Ev (fun _ => some r) r := Ev.now r
theorem ev_bind {g : Nat → Option β} {f : Nat → β → Option α} {y : β} (h : Ev g y) (k : Ev (fun n => f n y) r) : Ev (fun n => (g n).bind (f n)) r := Ev.bind h k
theorem ev_bindc {g : Option β} {f : Nat → β → Option α} {y : β} (h : g = some y) (k : Ev (fun n => f n y) r) : Ev (fun n => g.bind (f n)) r := Ev.bind ⟨0, fun _ _ => h⟩ k
theorem ev_step {g f : Nat → Option α} (h : ∀ k, g (k + 1) = f k) (k : Ev f r) : Ev g r := Ev.step h k
end
theorem wrap_id {x : Int} (h0 : -9223372036854775808 ≤ x) (h1 : x ≤ 9223372036854775807) : wrap64 x = x := by unfold wrap64; omega
theorem wrap_succ {i : Nat} (h : i < 9223372036854775807) : wrap64 ((i : Int) + 1) = ((i + 1 : Nat) : Int) := by rw [wrap_id (by omega) (by omega)]; omega
/-- What arity a kind of node has. -/
def arF (op : Int) : Int := if op = 7 ∨ op = 8 then 2 else if (1 ≤ op ∧ op ≤ 6) ∨ op = 17 then 0 else if 8 < op ∧ op ≤ 23 then 1 else -1
theorem arity_j1 (op : Int) (b : Bool) : Ev (fun k => tree_Arity.j1 k op b) (if b = true then 0 else if 8 < op ∧ op ≤ 23 then 1 else -1) := by
  refine ev_step (fun k => tree_Arity.j1.eq_2 _ _ _) ?_
  cases b with
  | true => refine ev_pos rfl ?_; exact ev_now
  | false =>
    refine ev_neg (by decide) ?_
    by_cases h1 : op > 8
    · refine ev_pos h1 ?_
      by_cases h2 : op ≤ 23
      · refine ev_pos h2 ?_
        simp only [Bool.false_eq_true, if_false]
        rw [if_pos ⟨by omega, h2⟩]
        exact ev_now
      · refine ev_neg h2 ?_
        simp only [Bool.false_eq_true, if_false]
        rw [if_neg (by omega)]
        exact ev_now
    · refine ev_neg h1 ?_
      simp only [Bool.false_eq_true, if_false]
      rw [if_neg (by omega)]
      exact ev_now
theorem arity_j0 (op : Int) (b : Bool) : Ev (fun k => tree_Arity.j0 k op b) (if b = true then 2 else if (1 ≤ op ∧ op ≤ 6) ∨ op = 17 then 0 else if 8 < op ∧ op ≤ 23 then 1 else -1) := by
  refine ev_step (fun k => tree_Arity.j0.eq_2 _ _ _) ?_
  cases b with
  | true => refine ev_pos rfl ?_; exact ev_now
  | false =>
    refine ev_neg (by decide) ?_
    simp only [Bool.false_eq_true, if_false]
    by_cases h1 : op ≥ 1
    · refine ev_pos h1 ?_
      by_cases h2 : op ≤ 6
      · refine ev_pos h2 ?_
        rw [if_pos (Or.inl ⟨h1, h2⟩)]
        exact arity_j1 op true
      · refine ev_neg h2 ?_
        by_cases h3 : op = 17
        · rw [if_pos (Or.inr h3), show (op == 17) = true by simpa using h3]
          exact arity_j1 op true
        · rw [if_neg (by omega), show (op == 17) = false by simpa using h3]
          exact arity_j1 op false
    · refine ev_neg h1 ?_
      rw [if_neg (by omega), show (op == 17) = false by simp; omega]
      exact arity_j1 op false
theorem arity_ev (op : Int) : Ev (fun k => tree_Arity.f k op) (arF op) := by
  unfold tree_Arity.f arF
  by_cases h : op = 7
  · refine ev_pos h ?_
    rw [if_pos (Or.inl h)]
    exact arity_j0 op true
  · refine ev_neg h ?_
    by_cases h8 : op = 8
    · rw [if_pos (Or.inr h8), show (op == 8) = true by simpa using h8]
      exact arity_j0 op true
    · rw [if_neg (by omega), show (op == 8) = false by simpa using h8]
      exact arity_j0 op false
theorem head_some (c : Int) : ∃ b, tree_isHead.f c = some b := by
  unfold tree_isHead.f
  repeat' split
  all_goals exact ⟨_, rfl⟩
theorem counted_some (c : Int) : ∃ b, tree_counted.f c = some b := by
  unfold tree_counted.f
  repeat' split
  all_goals exact ⟨_, rfl⟩
theorem name_loop (s : ByteArray) (hs : s.size ≤ 140737488351232) (d : Nat) : ∀ i : Nat, i + d = s.size → ∃ b, Ev (fun k => tree_isName.l0 k s (s.size : Int) (i : Int)) b := by
  induction d with
  | zero =>
    intro i hi
    refine ⟨true, ev_step (fun k => tree_isName.l0.eq_2 _ _ _ _) ?_⟩
    refine ev_neg (by omega) ?_
    exact ev_now
  | succ d ih =>
    intro i hi
    obtain ⟨b, hb⟩ := head_some (bt s (i : Int))
    obtain ⟨q, hq⟩ := ih (i + 1) (by omega)
    have hw := wrap_succ (i := i) (by omega)
    have pre : ∀ r, Ev (fun k => if b = true then tree_isName.l0 k s (s.size : Int) (wrap64 ((i : Int) + 1)) else if bt s (i : Int) < 48 then some false else if bt s (i : Int) > 57 then some false else tree_isName.l0 k s (s.size : Int) (wrap64 ((i : Int) + 1))) r → Ev (fun k => tree_isName.l0 k s (s.size : Int) (i : Int)) r := by
      intro r h
      refine ev_step (fun k => tree_isName.l0.eq_2 _ _ _ _) ?_
      refine ev_pos (by omega) ?_
      refine ev_pos (by omega) ?_
      refine ev_pos (by omega) ?_
      exact ev_bindc hb h
    cases b with
    | true =>
      refine ⟨q, pre _ ?_⟩
      refine ev_pos rfl ?_
      rw [hw]; exact hq
    | false =>
      by_cases h1 : bt s (i : Int) < 48
      · refine ⟨false, pre _ ?_⟩
        refine ev_neg (by decide) ?_
        refine ev_pos h1 ?_
        exact ev_now
      · by_cases h2 : bt s (i : Int) > 57
        · refine ⟨false, pre _ ?_⟩
          refine ev_neg (by decide) ?_
          refine ev_neg h1 ?_
          refine ev_pos h2 ?_
          exact ev_now
        · refine ⟨q, pre _ ?_⟩
          refine ev_neg (by decide) ?_
          refine ev_neg h1 ?_
          refine ev_neg h2 ?_
          rw [hw]; exact hq
theorem name_j0 (s : ByteArray) (hs : s.size ≤ 140737488351232) (b : Bool) : ∃ r, Ev (fun k => tree_isName.j0 k s b) r := by
  cases b with
  | true =>
    refine ⟨false, ev_step (fun k => tree_isName.j0.eq_2 _ _ _) ?_⟩
    refine ev_pos rfl ?_
    exact ev_now
  | false =>
    obtain ⟨q, hq⟩ := name_loop s hs s.size 0 (by omega)
    refine ⟨q, ev_step (fun k => tree_isName.j0.eq_2 _ _ _) ?_⟩
    refine ev_neg (by decide) ?_
    exact hq
theorem name_total (s : ByteArray) (hs : s.size ≤ 140737488351232) : ∃ r, Ev (fun k => tree_isName.f k s) r := by
  unfold tree_isName.f
  by_cases h : s.toList = ([] : List UInt8)
  · obtain ⟨r, hr⟩ := name_j0 s hs true
    exact ⟨r, ev_pos h hr⟩
  · by_cases h1 : (s.size : Int) > 32
    · obtain ⟨r, hr⟩ := name_j0 s hs true
      exact ⟨r, ev_neg h (ev_pos h1 hr)⟩
    · have h2 : 0 < (s.size : Int) := by
        rcases Nat.eq_zero_or_pos s.size with h0 | h0
        · exfalso
          apply h
          have : s.toList.length = 0 := by rw [ByteArray.toList_eq]; simpa using h0
          exact List.eq_nil_of_length_eq_zero this
        · omega
      obtain ⟨b, hb⟩ := head_some (bt s 0)
      obtain ⟨r, hr⟩ := name_j0 s hs (!b)
      exact ⟨r, ev_neg h (ev_neg h1 (ev_pos h2 (ev_bindc hb hr)))⟩
theorem template_loop (s : ByteArray) (hs : s.size ≤ 140737488351232) (d : Nat) : ∀ i : Nat, s.size ≤ i + d → i ≤ s.size + 1 → ∃ b, Ev (fun k => tree_isTemplate.l0 k s (i : Int)) b := by
  induction d with
  | zero =>
    intro i hi _
    refine ⟨true, ev_step (fun k => tree_isTemplate.l0.eq_2 _ _ _) ?_⟩
    refine ev_neg (by omega) ?_
    exact ev_now
  | succ d ih =>
    intro i hi hi2
    by_cases h0 : (i : Int) < (s.size : Int)
    · have hw := wrap_succ (i := i) (by omega)
      have hw2 := wrap_succ (i := i + 1) (by omega)
      have pre : ∀ r, Ev (fun k => if bt s (i : Int) = 37 then (if (((i + 1 : Nat) : Int)) = (s.size : Int) then some false else if 0 ≤ ((i + 1 : Nat) : Int) then if ((i + 1 : Nat) : Int) < (s.size : Int) then if bt s ((i + 1 : Nat) : Int) = 37 then tree_isTemplate.l0 k s (((i + 1 + 1 : Nat) : Int)) else if bt s ((i + 1 : Nat) : Int) < 48 then some false else if bt s ((i + 1 : Nat) : Int) > 57 then some false else tree_isTemplate.l0 k s (((i + 1 + 1 : Nat) : Int)) else none else none) else tree_isTemplate.l0 k s ((i + 1 : Nat) : Int)) r → Ev (fun k => tree_isTemplate.l0 k s (i : Int)) r := by
        intro r h
        refine ev_step (fun k => tree_isTemplate.l0.eq_2 _ _ _) ?_
        refine ev_pos h0 ?_
        refine ev_pos (by omega) ?_
        rw [hw, hw2]
        exact h
      obtain ⟨q, hq⟩ := ih (i + 1) (by omega) (by omega)
      by_cases h1 : bt s (i : Int) = 37
      · by_cases h2 : (((i + 1 : Nat) : Int)) = (s.size : Int)
        · exact ⟨false, pre _ (ev_pos h1 (ev_pos h2 ev_now))⟩
        · obtain ⟨q2, hq2⟩ := ih (i + 1 + 1) (by omega) (by omega)
          by_cases h3 : bt s ((i + 1 : Nat) : Int) = 37
          · exact ⟨q2, pre _ (ev_pos h1 (ev_neg h2 (ev_pos (by omega) (ev_pos (by omega) (ev_pos h3 hq2)))))⟩
          · by_cases h4 : bt s ((i + 1 : Nat) : Int) < 48
            · exact ⟨false, pre _ (ev_pos h1 (ev_neg h2 (ev_pos (by omega) (ev_pos (by omega) (ev_neg h3 (ev_pos h4 ev_now))))))⟩
            · by_cases h5 : bt s ((i + 1 : Nat) : Int) > 57
              · exact ⟨false, pre _ (ev_pos h1 (ev_neg h2 (ev_pos (by omega) (ev_pos (by omega) (ev_neg h3 (ev_neg h4 (ev_pos h5 ev_now)))))))⟩
              · exact ⟨q2, pre _ (ev_pos h1 (ev_neg h2 (ev_pos (by omega) (ev_pos (by omega) (ev_neg h3 (ev_neg h4 (ev_neg h5 hq2)))))))⟩
      · exact ⟨q, pre _ (ev_neg h1 hq)⟩
    · refine ⟨true, ev_step (fun k => tree_isTemplate.l0.eq_2 _ _ _) ?_⟩
      exact ev_neg h0 ev_now
theorem template_total (s : ByteArray) (hs : s.size ≤ 140737488351232) : ∃ r, Ev (fun k => tree_isTemplate.f k s) r := by
  unfold tree_isTemplate.f
  by_cases h : (s.size : Int) > 255
  · exact ⟨false, ev_pos h ev_now⟩
  · obtain ⟨q, hq⟩ := template_loop s hs s.size 0 (by omega) (by omega)
    exact ⟨q, ev_neg h hq⟩
theorem fields_j1 (x : Bool) (op n : Int) (s : ByteArray) (hs : s.size ≤ 140737488351232) (w0 w1 w2 w3 : Int) : ∃ r, Ev (fun k => tree_fields.j1 k x op n s w0 w1 w2 w3) r := by
  have pre : ∀ r, Ev (fun k => if x = true then some false else if op = 4 then (if s.toList = ([] : List UInt8) then some false else some (decide ((s.size : Int) ≤ 255))) else if op = 6 then (tree_isName.f k s).bind fun t => some t else if op = 19 then (if s.toList = ([] : List UInt8) then some true else (tree_isName.f k s).bind fun t => some t) else if op = 22 then (tree_isTemplate.f k s).bind fun t => some t else some (s.toList == ([] : List UInt8))) r → Ev (fun k => tree_fields.j1 k x op n s w0 w1 w2 w3) r :=
    fun r h => ev_step (fun k => tree_fields.j1.eq_2 _ _ _ _ _ _ _ _ _) h
  obtain ⟨a, ha⟩ := name_total s hs
  obtain ⟨b, hb⟩ := template_total s hs
  cases x with
  | true => exact ⟨_, pre _ (ev_pos rfl ev_now)⟩
  | false =>
    by_cases h4 : op = 4
    · by_cases he : s.toList = ([] : List UInt8)
      · exact ⟨_, pre _ (ev_neg (by decide) (ev_pos h4 (ev_pos he ev_now)))⟩
      · exact ⟨_, pre _ (ev_neg (by decide) (ev_pos h4 (ev_neg he ev_now)))⟩
    · by_cases h6 : op = 6
      · exact ⟨_, pre _ (ev_neg (by decide) (ev_neg h4 (ev_pos h6 (ev_bind ha ev_now))))⟩
      · by_cases h19 : op = 19
        · by_cases he : s.toList = ([] : List UInt8)
          · exact ⟨_, pre _ (ev_neg (by decide) (ev_neg h4 (ev_neg h6 (ev_pos h19 (ev_pos he ev_now)))))⟩
          · exact ⟨_, pre _ (ev_neg (by decide) (ev_neg h4 (ev_neg h6 (ev_pos h19 (ev_neg he (ev_bind ha ev_now))))))⟩
        · by_cases h22 : op = 22
          · exact ⟨_, pre _ (ev_neg (by decide) (ev_neg h4 (ev_neg h6 (ev_neg h19 (ev_pos h22 (ev_bind hb ev_now))))))⟩
          · exact ⟨_, pre _ (ev_neg (by decide) (ev_neg h4 (ev_neg h6 (ev_neg h19 (ev_neg h22 ev_now)))))⟩
theorem fields_j0 (x : Bool) (op n : Int) (s : ByteArray) (hs : s.size ≤ 140737488351232) (w0 w1 w2 w3 : Int) : ∃ r, Ev (fun k => tree_fields.j0 k x op n s w0 w1 w2 w3) r := by
  have pre : ∀ r, Ev (fun k => if x = true then some false else if n < 0 then tree_fields.j1 k true op n s w0 w1 w2 w3 else if n > 50 then tree_fields.j1 k true op n s w0 w1 w2 w3 else if n > 0 then (tree_counted.f op).bind fun t => tree_fields.j1 k (!t) op n s w0 w1 w2 w3 else tree_fields.j1 k false op n s w0 w1 w2 w3) r → Ev (fun k => tree_fields.j0 k x op n s w0 w1 w2 w3) r :=
    fun r h => ev_step (fun k => tree_fields.j0.eq_2 _ _ _ _ _ _ _ _ _) h
  cases x with
  | true => exact ⟨_, pre _ (ev_pos rfl ev_now)⟩
  | false =>
    obtain ⟨a, ha⟩ := fields_j1 true op n s hs w0 w1 w2 w3
    obtain ⟨b, hb⟩ := fields_j1 false op n s hs w0 w1 w2 w3
    by_cases h1 : n < 0
    · exact ⟨_, pre _ (ev_neg (by decide) (ev_pos h1 ha))⟩
    · by_cases h2 : n > 50
      · exact ⟨_, pre _ (ev_neg (by decide) (ev_neg h1 (ev_pos h2 ha)))⟩
      · by_cases h3 : n > 0
        · obtain ⟨c, hc⟩ := counted_some op
          obtain ⟨d, hd⟩ := fields_j1 (!c) op n s hs w0 w1 w2 w3
          exact ⟨_, pre _ (ev_neg (by decide) (ev_neg h1 (ev_neg h2 (ev_pos h3 (ev_bindc hc hd)))))⟩
        · exact ⟨_, pre _ (ev_neg (by decide) (ev_neg h1 (ev_neg h2 (ev_neg h3 hb))))⟩
theorem fields_total (op n : Int) (s : ByteArray) (hs : s.size ≤ 140737488351232) (w0 w1 w2 w3 : Int) : ∃ r, Ev (fun k => tree_fields.f k op n s w0 w1 w2 w3) r := by
  unfold tree_fields.f
  by_cases h : op = 5
  · obtain ⟨r, hr⟩ := fields_j0 false op n s hs w0 w1 w2 w3
    exact ⟨r, ev_pos h hr⟩
  · obtain ⟨r, hr⟩ := fields_j0 _ op n s hs w0 w1 w2 w3
    exact ⟨r, ev_neg h hr⟩
end Go.Proofs.YtnpeabmlcakegaaDoor.PPeepKinds
namespace Go.Proofs.YtnpeabmlcakegaaDoor.PPeepKinds
open Go.RowKit Go.Proofs.YtnpeabmlcakegaaDoorW.PrintWords
set_option linter.unusedVariables false
set_option linter.unusedSimpArgs false
def pany : S63 := ⟨3, 0, ⟨#[]⟩, ⟨0, 0, 0, 0⟩⟩
theorem any_fields : Ev (fun k => tree_fields.f k 3 0 ⟨#[]⟩ 0 0 0 0) true := by
  unfold tree_fields.f
  refine ev_neg (by decide) ?_
  refine ev_step (fun k => tree_fields.j0.eq_2 _ _ _ _ _ _ _ _ _) ?_
  refine ev_neg (by decide) (ev_neg (by decide) (ev_neg (by decide) (ev_neg (by decide) ?_)))
  refine ev_step (fun k => tree_fields.j1.eq_2 _ _ _ _ _ _ _ _ _) ?_
  refine ev_neg (by decide) (ev_neg (by decide) (ev_neg (by decide) (ev_neg (by decide) (ev_neg (by decide) ?_))))
  have h : ((⟨#[]⟩ : ByteArray).toList == ([] : List UInt8)) = true := by decide +kernel
  rw [h]
  exact ev_now
theorem w01 : wrap64 (0 + 1) = 1 := wrap_id (by decide) (by decide)
theorem w11 : wrap64 (1 + 1) = 2 := wrap_id (by decide) (by decide)
theorem w1m : wrap64 (1 - 1) = 0 := wrap_id (by decide) (by decide)
theorem w2m : wrap64 (2 - 1) = 1 := wrap_id (by decide) (by decide)
/-- PAny, first of a pattern: its shape is laid down. -/
theorem each_any (rest : List S63) (r : Int × Int)
    (h : Ev (fun k => tree_each_1.l0 k (pany :: rest) [⟨0, 1⟩] (pany :: rest) (((pany :: rest).length : Nat) : Int) 1) r) :
    Ev (fun k => tree_each_1.l0 k (pany :: rest) [] (pany :: rest) (((pany :: rest).length : Nat) : Int) 0) r := by
  have hl : (((pany :: rest).length : Nat) : Int) = (rest.length : Int) + 1 := by simp
  have hr : rd_T63 (pany :: rest) 0 = pany := rfl
  refine ev_step (fun k => tree_each_1.l0.eq_2 _ _ _ _ _ _) ?_
  refine ev_pos (by omega) (ev_pos (by omega) (ev_pos (by omega) ?_))
  rw [hr]
  refine ev_bind (y := 0) (arity_ev 3) ?_
  refine ev_neg (by decide) ?_
  refine ev_bind (y := true) any_fields ?_
  refine ev_pos rfl ?_
  refine ev_step (fun k => tree_each_1.l1.eq_2 _ _ _ _ _ _ _ _ _ _ _ _ _ _ _ _ _ _) ?_
  refine ev_neg (by decide) ?_
  rw [w01]
  refine ev_neg (by decide) (ev_pos (by decide) ?_)
  exact ev_bindc (y := ()) rfl h
theorem check_any : Ev (fun k => tree_Check.f k [pany]) (0, 0) := by
  unfold tree_Check.f
  refine ev_neg (by decide) ?_
  refine ev_bind (y := (0, 0)) ?_ ev_now
  unfold tree_each_1.f
  refine ev_pos (by decide) (ev_pos (by decide) ?_)
  refine each_any [] _ ?_
  refine ev_step (fun k => tree_each_1.l0.eq_2 _ _ _ _ _ _) ?_
  have hl : (([pany].length : Nat) : Int) = 1 := rfl
  rw [hl, w1m]
  refine ev_neg (by decide) (ev_neg (by decide) ?_)
  refine ev_pos (by decide) (ev_pos (by decide) (ev_pos (by decide) ?_))
  exact ev_now
/-- PAny and a node of one part behind it: right just if the node's fields are. -/
theorem check_pair (op n : Int) (s : ByteArray) (w0 w1 w2 w3 : Int) (har : arF op = 1) (b : Bool) (hb : Ev (fun k => tree_fields.f k op n s w0 w1 w2 w3) b) :
    Ev (fun k => tree_Check.f k [pany, ⟨op, n, s, ⟨w0, w1, w2, w3⟩⟩]) (if b = true then (0, 0) else (1, 41)) := by
  unfold tree_Check.f
  refine ev_neg (by simp) ?_
  refine ev_bind (y := (if b = true then (0, 0) else (1, 41))) ?_ ev_now
  unfold tree_each_1.f
  refine ev_pos (by simp) (ev_pos (by simp) ?_)
  refine each_any [⟨op, n, s, ⟨w0, w1, w2, w3⟩⟩] _ ?_
  have hr : rd_T63 [pany, ⟨op, n, s, ⟨w0, w1, w2, w3⟩⟩] 1 = ⟨op, n, s, ⟨w0, w1, w2, w3⟩⟩ := rfl
  refine ev_step (fun k => tree_each_1.l0.eq_2 _ _ _ _ _ _) ?_
  refine ev_pos (by simp) (ev_pos (by decide) (ev_pos (by simp) ?_))
  rw [hr]
  refine ev_bind (y := 1) (har ▸ arity_ev op) ?_
  refine ev_neg (by decide) ?_
  refine ev_bind hb ?_
  cases b with
  | false => exact ev_neg (by decide) ev_now
  | true =>
    refine ev_pos rfl ?_
    simp only [if_true]
    refine ev_step (fun k => tree_each_1.l1.eq_2 _ _ _ _ _ _ _ _ _ _ _ _ _ _ _ _ _ _) ?_
    rw [w1m, w01]
    refine ev_pos (by decide) (ev_neg (by decide) (ev_pos (by decide) (ev_pos (by decide) (ev_neg (by decide) ?_))))
    refine ev_step (fun k => tree_each_1.l1.eq_2 _ _ _ _ _ _ _ _ _ _ _ _ _ _ _ _ _ _) ?_
    have hm : mx 0 ((rd_T91 [⟨0, 1⟩] 0).f1) = 1 := by decide
    rw [hm, w11]
    refine ev_neg (by decide) (ev_neg (by decide) (ev_pos (by decide) ?_))
    refine ev_bindc (y := ()) rfl ?_
    refine ev_step (fun k => tree_each_1.l0.eq_2 _ _ _ _ _ _) ?_
    have hl : (([pany, ⟨op, n, s, ⟨w0, w1, w2, w3⟩⟩].length : Nat) : Int) = 2 := rfl
    rw [hl, w2m]
    refine ev_neg (by decide) (ev_neg (by decide) (ev_pos (by decide) (ev_pos (by decide) (ev_pos (by decide) ?_))))
    exact ev_now
theorem join_ev (op n : Int) (s : ByteArray) (w0 w1 w2 w3 : Int) (har : arF op = 1) (b : Bool) (hb : Ev (fun k => tree_fields.f k op n s w0 w1 w2 w3) b) :
    ∃ l, Ev (fun k => tree_Join.f k op n s w0 w1 w2 w3 [[pany]]) (l, if b = true then 0 else 41) := by
  unfold tree_Join.f
  cases b with
  | false =>
    refine ⟨[], ?_⟩
    refine ev_bind (y := 1) (har ▸ arity_ev op) ?_
    refine ev_neg (by decide) (ev_bind hb ?_)
    exact ev_neg (by decide) ev_now
  | true =>
    refine ⟨[pany, ⟨op, n, s, ⟨w0, w1, w2, w3⟩⟩], ?_⟩
    refine ev_bind (y := 1) (har ▸ arity_ev op) ?_
    refine ev_neg (by decide) (ev_bind hb ?_)
    refine ev_pos rfl (ev_pos (by decide) ?_)
    refine ev_step (fun k => tree_Join.l0.eq_2 _ _ _ _ _ _ _ _ _ _ _ _) ?_
    refine ev_pos (by decide) (ev_pos (by decide) (ev_pos (by decide) ?_))
    have hr : rd_L6 [[pany]] 0 = [pany] := rfl
    rw [hr]
    refine ev_bind check_any ?_
    refine ev_pos rfl (ev_pos (by decide) ?_)
    rw [w01]
    refine ev_step (fun k => tree_Join.l0.eq_2 _ _ _ _ _ _ _ _ _ _ _ _) ?_
    refine ev_neg (by decide) (ev_pos (by decide) ?_)
    refine ev_bind (y := ([pany, ⟨op, n, s, ⟨w0, w1, w2, w3⟩⟩], 0)) ?_ ev_now
    unfold tree_checked.f
    refine ev_bind (check_pair op n s w0 w1 w2 w3 har true hb) ?_
    exact ev_pos rfl ev_now
/-- A capture may be so just where its node's fields may. -/
theorem capture_ev (c n : Int) (s : ByteArray) (h2 : 2 ≤ c) (h7 : c ≤ 7) (b : Bool) (hb : Ev (fun k => tree_fields.f k (c + 16) n s 0 0 0 0) b) : Ev (fun k => instr_capture.f k c n s) b := by
  unfold instr_capture.f
  refine ev_neg (by omega) ?_
  have hw : wrap64 (wrap64 (c - 2) + 18) = c + 16 := by rw [wrap_id (x := c - 2) (by omega) (by omega), wrap_id (by omega) (by omega)]; omega
  rw [hw]
  have har : arF (c + 16) = 1 := by
    unfold arF
    rw [if_neg (by omega), if_neg (by omega), if_pos (by omega)]
  obtain ⟨l, hl⟩ := join_ev (c + 16) n s 0 0 0 0 har b hb
  refine ev_bind hl ?_
  cases b with
  | true => exact ev_now
  | false => exact ev_now
theorem capture_total (c n : Int) (s : ByteArray) (hs : s.size ≤ 140737488351232) (h1 : 1 ≤ c) (h7 : c ≤ 7) : ∃ b, Ev (fun k => instr_capture.f k c n s) b := by
  by_cases hc : c = 1
  · subst hc
    unfold instr_capture.f
    by_cases hn : n = 0
    · exact ⟨_, ev_pos rfl (ev_pos hn ev_now)⟩
    · exact ⟨_, ev_pos rfl (ev_neg hn ev_now)⟩
  · obtain ⟨b, hb⟩ := fields_total (c + 16) n s hs 0 0 0 0
    exact ⟨b, capture_ev c n s (by omega) h7 b hb⟩
theorem fits_j0 (op : Int) (x9 : Bool) (a0 a1 a2 a3 : Int) (a4 : ByteArray) (a5 a6 a7 a8 : Int) (hs : a4.size ≤ 140737488351232) : ∃ b, Ev (fun k => instr_fits.j0 k op x9 a0 a1 a2 a3 a4 a5 a6 a7 a8) b := by
  have pre : ∀ r, Ev (fun k => if x9 = true then (if a2 ≥ 0 then some (decide (a2 ≤ 255)) else some false) else if op = 18 then (if a2 ≥ 2 then (if a2 ≤ 7 then (instr_capture.f k a2 a3 a4).bind fun t => some t else some false) else some false) else if op = 20 then (if a2 < 1 then some false else if a2 > 7 then some false else if a1 < 0 then some false else if a1 > 255 then some false else if a2 = 1 then (if a1 > 0 then some false else (instr_capture.f k a2 a3 a4).bind fun t => some t) else (instr_capture.f k a2 a3 a4).bind fun t => some t) else some true) r → Ev (fun k => instr_fits.j0 k op x9 a0 a1 a2 a3 a4 a5 a6 a7 a8) r :=
    fun r h => ev_step (fun k => instr_fits.j0.eq_2 _ _ _ _ _ _ _ _ _ _ _ _) h
  cases x9 with
  | true =>
    by_cases h : a2 ≥ 0
    · exact ⟨_, pre _ (ev_pos rfl (ev_pos h ev_now))⟩
    · exact ⟨_, pre _ (ev_pos rfl (ev_neg h ev_now))⟩
  | false =>
    by_cases h18 : op = 18
    · by_cases h2 : a2 ≥ 2
      · by_cases h7 : a2 ≤ 7
        · obtain ⟨b, hb⟩ := capture_total a2 a3 a4 hs (by omega) h7
          exact ⟨_, pre _ (ev_neg (by decide) (ev_pos h18 (ev_pos h2 (ev_pos h7 (ev_bind hb ev_now)))))⟩
        · exact ⟨_, pre _ (ev_neg (by decide) (ev_pos h18 (ev_pos h2 (ev_neg h7 ev_now))))⟩
      · exact ⟨_, pre _ (ev_neg (by decide) (ev_pos h18 (ev_neg h2 ev_now)))⟩
    · by_cases h20 : op = 20
      · by_cases c1 : a2 < 1
        · exact ⟨_, pre _ (ev_neg (by decide) (ev_neg h18 (ev_pos h20 (ev_pos c1 ev_now))))⟩
        · by_cases c2 : a2 > 7
          · exact ⟨_, pre _ (ev_neg (by decide) (ev_neg h18 (ev_pos h20 (ev_neg c1 (ev_pos c2 ev_now)))))⟩
          · by_cases c3 : a1 < 0
            · exact ⟨_, pre _ (ev_neg (by decide) (ev_neg h18 (ev_pos h20 (ev_neg c1 (ev_neg c2 (ev_pos c3 ev_now))))))⟩
            · by_cases c4 : a1 > 255
              · exact ⟨_, pre _ (ev_neg (by decide) (ev_neg h18 (ev_pos h20 (ev_neg c1 (ev_neg c2 (ev_neg c3 (ev_pos c4 ev_now)))))))⟩
              · obtain ⟨b, hb⟩ := capture_total a2 a3 a4 hs (by omega) (by omega)
                by_cases c5 : a2 = 1
                · by_cases c6 : a1 > 0
                  · exact ⟨_, pre _ (ev_neg (by decide) (ev_neg h18 (ev_pos h20 (ev_neg c1 (ev_neg c2 (ev_neg c3 (ev_neg c4 (ev_pos c5 (ev_pos c6 ev_now)))))))))⟩
                  · exact ⟨_, pre _ (ev_neg (by decide) (ev_neg h18 (ev_pos h20 (ev_neg c1 (ev_neg c2 (ev_neg c3 (ev_neg c4 (ev_pos c5 (ev_neg c6 (ev_bind hb ev_now))))))))))⟩
                · exact ⟨_, pre _ (ev_neg (by decide) (ev_neg h18 (ev_pos h20 (ev_neg c1 (ev_neg c2 (ev_neg c3 (ev_neg c4 (ev_neg c5 (ev_bind hb ev_now)))))))))⟩
      · exact ⟨_, pre _ (ev_neg (by decide) (ev_neg h18 (ev_neg h20 ev_now)))⟩
theorem fits_total (x : S34) (h0 : 1 ≤ x.f0) (h1 : x.f0 ≤ 20) (hs : x.f4.size ≤ 140737488351232) : ∃ b, Ev (fun k => instr_fits.f k x.f0 x.f1 x.f2 x.f3 x.f4 x.f5.f0 x.f5.f1 x.f5.f2 x.f5.f3) b := by
  unfold instr_fits.f
  have hp : ∃ t, instr_plain.f x.f0 x.f1 x.f2 x.f3 x.f4 x.f5.f0 x.f5.f1 x.f5.f2 x.f5.f3 = some t := by
    unfold instr_plain.f
    rw [if_pos (by omega), if_pos (by omega)]
    exact ⟨_, rfl⟩
  obtain ⟨t, ht⟩ := hp
  have key : ∀ c : Bool, ∃ b, Ev (fun k => if c = true then some false else if x.f0 = 2 then instr_fits.j0 k x.f0 (x.f0 == 2) x.f0 x.f1 x.f2 x.f3 x.f4 x.f5.f0 x.f5.f1 x.f5.f2 x.f5.f3 else instr_fits.j0 k x.f0 (x.f0 == 5) x.f0 x.f1 x.f2 x.f3 x.f4 x.f5.f0 x.f5.f1 x.f5.f2 x.f5.f3) b := by
    intro c
    cases c with
    | true => exact ⟨_, ev_pos rfl ev_now⟩
    | false =>
      by_cases h2 : x.f0 = 2
      · obtain ⟨b, hb⟩ := fits_j0 x.f0 (x.f0 == 2) x.f0 x.f1 x.f2 x.f3 x.f4 x.f5.f0 x.f5.f1 x.f5.f2 x.f5.f3 hs
        exact ⟨b, ev_neg (by decide) (ev_pos h2 hb)⟩
      · obtain ⟨b, hb⟩ := fits_j0 x.f0 (x.f0 == 5) x.f0 x.f1 x.f2 x.f3 x.f4 x.f5.f0 x.f5.f1 x.f5.f2 x.f5.f3 hs
        exact ⟨b, ev_neg (by decide) (ev_neg h2 hb)⟩
  obtain ⟨b, hb⟩ := key _
  exact ⟨b, ev_bindc ht hb⟩
theorem has_ev (op bit : Int) (h0 : 0 ≤ op) (h1 : op < 21) : instr_has.f op bit = some (hasB op bit) := by
  unfold instr_has.f
  rw [if_pos h0, if_pos h1]
  rfl
/-- What right code has. -/
structure Right (l : List S34) : Prop where
  pos : 0 < l.length
  len : l.length ≤ 8192
  op : ∀ (i : Nat) (h : i < l.length), 1 ≤ l[i].f0 ∧ l[i].f0 ≤ 20
  goes : ∀ (i : Nat) (h : i < l.length), hasB l[i].f0 32 = true → 0 ≤ (i : Int) + l[i].f1 ∧ (i : Int) + l[i].f1 < l.length
  last : ∀ (h : l.length - 1 < l.length), hasB l[l.length - 1].f0 64 = false
theorem rd34 (l : List S34) (i : Nat) (h : i < l.length) : rd_T34 l (i : Int) = l[i] := by simp [rd_T34, List.getD_eq_getElem?_getD, List.getElem?_eq_getElem h]
theorem check_loop (l : List S34) (hl : l.length ≤ 8192) (hp : 0 < l.length) (hs : ∀ x ∈ l, x.f4.size ≤ 140737488351232) (d : Nat) : ∀ i : Nat, i + d = l.length →
    (∀ (j : Nat) (h : j < l.length), j < i → (1 ≤ l[j].f0 ∧ l[j].f0 ≤ 20) ∧ (hasB l[j].f0 32 = true → 0 ≤ (j : Int) + l[j].f1 ∧ (j : Int) + l[j].f1 < l.length)) →
    ∃ r : Int × Int, Ev (fun k => instr_Check.l0 k l l (l.length : Int) (i : Int)) r ∧ (r.2 = 0 → r = (0, 0) ∧ Right l) := by
  induction d with
  | zero =>
    intro i hi hj
    have hw : wrap64 ((l.length : Int) - 1) = ((l.length - 1 : Nat) : Int) := by rw [wrap_id (by omega) (by omega)]; omega
    have hlast := (hj (l.length - 1) (by omega) (by omega)).1
    have hh := has_ev (l[l.length - 1].f0) 64 (by omega) (by omega)
    have pre : ∀ r, Ev (fun k => if hasB l[l.length - 1].f0 64 = true then some (((l.length - 1 : Nat) : Int), (163 : Int)) else some (0, 0)) r → Ev (fun k => instr_Check.l0 k l l (l.length : Int) (i : Int)) r := by
      intro r h
      refine ev_step (fun k => instr_Check.l0.eq_2 _ _ _ _ _) ?_
      refine ev_neg (by omega) ?_
      rw [hw, rd34 l (l.length - 1) (by omega)]
      refine ev_pos (by omega) (ev_pos (by omega) ?_)
      exact ev_bindc hh h
    cases hb : hasB l[l.length - 1].f0 64 with
    | true =>
      exact ⟨(((l.length - 1 : Nat) : Int), (163 : Int)), pre _ (ev_pos hb ev_now), fun h => absurd h (by simp)⟩
    | false =>
      exact ⟨(0, 0), pre _ (ev_neg (by rw [hb]; decide) ev_now), fun _ => ⟨rfl, hp, hl, fun j h => (hj j h (by omega)).1, fun j h => (hj j h (by omega)).2, fun _ => hb⟩⟩
  | succ d ih =>
    intro i hi hj
    have hil : i < l.length := by omega
    have hw := wrap_succ (i := i) (by omega)
    have hrd := rd34 l i hil
    have hn : wrap64 (-(i : Int)) = -(i : Int) := wrap_id (by omega) (by omega)
    have hn2 : wrap64 ((l.length : Int) - (i : Int)) = (l.length : Int) - (i : Int) := wrap_id (by omega) (by omega)
    have pre : ∀ r, Ev (fun k => (instr_is.f l[i].f0).bind fun t => if t = true then ((instr_fits.f k l[i].f0 l[i].f1 l[i].f2 l[i].f3 l[i].f4 l[i].f5.f0 l[i].f5.f1 l[i].f5.f2 l[i].f5.f3).bind fun t => if t = true then ((instr_has.f l[i].f0 32).bind fun t => if t = true then (if l[i].f1 < -(i : Int) then some ((i : Int), (162 : Int)) else if l[i].f1 ≥ (l.length : Int) - (i : Int) then some ((i : Int), 162) else instr_Check.l0 k l l (l.length : Int) ((i + 1 : Nat) : Int)) else instr_Check.l0 k l l (l.length : Int) ((i + 1 : Nat) : Int)) else some ((i : Int), 161)) else some ((i : Int), 160)) r → Ev (fun k => instr_Check.l0 k l l (l.length : Int) (i : Int)) r := by
      intro r h
      refine ev_step (fun k => instr_Check.l0.eq_2 _ _ _ _ _) ?_
      refine ev_pos (by omega) (ev_pos (by omega) (ev_pos (by omega) ?_))
      rw [hrd, hw, hn, hn2]
      exact h
    have his : instr_is.f l[i].f0 = some (decide (1 ≤ l[i].f0 ∧ l[i].f0 ≤ 20)) := by
      unfold instr_is.f
      by_cases h1 : l[i].f0 ≥ 1
      · rw [if_pos h1]; congr 1; simp; omega
      · rw [if_neg h1]; congr 1; simp; omega
    by_cases hop : 1 ≤ l[i].f0 ∧ l[i].f0 ≤ 20
    · rw [decide_eq_true hop] at his
      obtain ⟨b, hb⟩ := fits_total l[i] hop.1 hop.2 (hs _ (List.getElem_mem hil))
      have hh := has_ev l[i].f0 32 (by omega) (by omega)
      cases b with
      | false => exact ⟨_, pre _ (ev_bindc his (ev_pos rfl (ev_bind hb (ev_neg (by decide) ev_now)))), fun h => absurd h (by simp)⟩
      | true =>
        cases hg : hasB l[i].f0 32 with
        | false =>
          obtain ⟨r, hr, hr2⟩ := ih (i + 1) (by omega) (fun j h hj1 => by
            by_cases hji : j < i
            · exact hj j h hji
            · obtain rfl : j = i := by omega
              exact ⟨hop, fun h => by rw [hg] at h; cases h⟩)
          rw [hg] at hh
          exact ⟨r, pre _ (ev_bindc his (ev_pos rfl (ev_bind hb (ev_pos rfl (ev_bindc hh (ev_neg (by decide) hr)))))), hr2⟩
        | true =>
          rw [hg] at hh
          by_cases c1 : l[i].f1 < -(i : Int)
          · exact ⟨_, pre _ (ev_bindc his (ev_pos rfl (ev_bind hb (ev_pos rfl (ev_bindc hh (ev_pos rfl (ev_pos c1 ev_now))))))), fun h => absurd h (by simp)⟩
          · by_cases c2 : l[i].f1 ≥ (l.length : Int) - (i : Int)
            · exact ⟨_, pre _ (ev_bindc his (ev_pos rfl (ev_bind hb (ev_pos rfl (ev_bindc hh (ev_pos rfl (ev_neg c1 (ev_pos c2 ev_now)))))))), fun h => absurd h (by simp)⟩
            · obtain ⟨r, hr, hr2⟩ := ih (i + 1) (by omega) (fun j h hj1 => by
                by_cases hji : j < i
                · exact hj j h hji
                · obtain rfl : j = i := by omega
                  exact ⟨hop, fun _ => by omega⟩)
              exact ⟨r, pre _ (ev_bindc his (ev_pos rfl (ev_bind hb (ev_pos rfl (ev_bindc hh (ev_pos rfl (ev_neg c1 (ev_neg c2 hr)))))))), hr2⟩
    · rw [decide_eq_false hop] at his
      exact ⟨_, pre _ (ev_bindc his (ev_neg (by decide) ev_now)), fun h => absurd h (by simp)⟩
/-- Check answers; where it answers OK, the code is right. -/
theorem check_total (l : List S34) (hs : ∀ x ∈ l, x.f4.size ≤ 140737488351232) : ∃ r : Int × Int, Ev (fun k => instr_Check.f k l) r ∧ (r.2 = 0 → r = (0, 0) ∧ Right l) := by
  unfold instr_Check.f
  by_cases h1 : (l.length : Int) > 8192
  · exact ⟨_, ev_pos h1 ev_now, fun h => absurd h (by simp)⟩
  · by_cases h2 : (l.length : Int) = 0
    · exact ⟨_, ev_neg h1 (ev_pos h2 ev_now), fun h => absurd h (by simp)⟩
    · obtain ⟨r, hr, hr2⟩ := check_loop l (by omega) (by omega) hs l.length 0 (by omega) (fun j h hj => absurd hj (by omega))
      exact ⟨r, ev_neg h1 (ev_neg h2 hr), hr2⟩
end Go.Proofs.YtnpeabmlcakegaaDoor.PPeepKinds
namespace Go.Proofs.YtnpeabmlcakegaaDoor.PPeepKinds
open Go.RowKit Go.Proofs.YtnpeabmlcakegaaDoorW.PrintWords
set_option linter.unusedVariables false
set_option linter.unusedSimpArgs false
def mix {α : Type} (T l : List α) (i : Nat) : List α := T.take i ++ l.drop i
section
variable {α : Type} {T l : List α} {i : Nat}
theorem mix_zero : mix T l 0 = l := by simp [mix]
theorem mix_full (h : T.length = l.length) : mix T l l.length = T := by unfold mix; rw [List.drop_length, List.append_nil, ← h, List.take_length]
theorem mix_length (h : T.length = l.length) (hi : i ≤ l.length) : (mix T l i).length = l.length := by simp [mix]; omega
theorem mix_get (h : T.length = l.length) (hi : i < l.length) (hm : i < (mix T l i).length) : (mix T l i)[i] = l[i] := by
  have e : (mix T l i)[i]? = some l[i] := by
    unfold mix
    rw [List.getElem?_append_right (by simp; omega)]
    simp [h, Nat.min_eq_left (Nat.le_of_lt hi), List.getElem?_eq_getElem hi]
  exact (List.getElem?_eq_some_iff.1 e).2
theorem mix_set (h : T.length = l.length) (hi : i < l.length) (v : α) (hv : T[i]? = some v) : (mix T l i).set i v = mix T l (i + 1) := by
  unfold mix
  have hiT : i < T.length := by omega
  have e : v = T[i] := by rw [List.getElem?_eq_getElem hiT] at hv; exact (Option.some.inj hv).symm
  subst e
  rw [List.set_append_right _ _ (by simp; omega), List.take_succ_eq_append_getElem hiT, List.append_assoc]
  congr 1
  rw [List.length_take, Nat.min_eq_left (Nat.le_of_lt hiT), Nat.sub_self, List.drop_eq_getElem_cons hi]
  rfl
theorem mix_same (h : T.length = l.length) (hi : i < l.length) (hv : T[i]? = some l[i]) : mix T l i = mix T l (i + 1) := by
  rw [← mix_set h hi _ hv]
  have hm : i < (mix T l i).length := by rw [mix_length h (Nat.le_of_lt hi)]; exact hi
  rw [← mix_get h hi hm, List.set_getElem_self]
end
theorem eta34 (x : S34) : (⟨x.f0, x.f1, x.f2, x.f3, x.f4, ⟨x.f5.f0, x.f5.f1, x.f5.f2, x.f5.f3⟩⟩ : S34) = x := rfl
theorem clone_ev (l : List S34) (h : l.length ≤ 8192) : api_Instr.f l = some l := by
  unfold api_Instr.f
  simp only [Option.bind_some, List.length_nil, List.nil_append]
  rw [if_pos (by omega)]
theorem rdm (T l : List S34) (i : Nat) (h : T.length = l.length) (hi : i < l.length) : rd_T34 (mix T l i) (i : Int) = l[i] := by
  have hm : i < (mix T l i).length := by rw [mix_length h (Nat.le_of_lt hi)]; exact hi
  rw [rd34 _ _ hm, mix_get h hi hm]
def tailAt (l : List S34) (i : Nat) (x : S34) : S34 := if x.f0 = 15 ∧ (l.getD (i + 1) z34).f0 = 16 then { x with f0 := 14 } else x
def tailF (l : List S34) : List S34 := l.mapIdx (tailAt l)
theorem tailF_length (l : List S34) : (tailF l).length = l.length := by simp [tailF]
theorem tailF_get (l : List S34) (i : Nat) (h : i < l.length) : (tailF l)[i]? = some (tailAt l i l[i]) := by simp [tailF, List.getElem?_eq_getElem h]
theorem on15 : hasB 15 64 = true := by decide +kernel
theorem tails_loop (l : List S34) (R : Right l) (d : Nat) : ∀ i : Nat, i + d = l.length → Ev (fun k => peep_tails.l0 k l (mix (tailF l) l i) l (l.length : Int) (i : Int)) (tailF l) := by
  have hl := R.len
  induction d with
  | zero =>
    intro i hi
    refine ev_step (fun k => peep_tails.l0.eq_2 _ _ _ _ _ _) ?_
    refine ev_neg (by omega) ?_
    obtain rfl : i = l.length := by omega
    rw [mix_full (tailF_length l)]
    exact ev_now
  | succ d ih =>
    intro i hi
    have hil : i < l.length := by omega
    have hw := wrap_succ (i := i) (by omega)
    have hrd := rd34 l i hil
    have hT := tailF_get l i hil
    have hn := ih (i + 1) (by omega)
    refine ev_step (fun k => peep_tails.l0.eq_2 _ _ _ _ _ _) ?_
    refine ev_pos (by omega) (ev_pos (by omega) (ev_pos (by omega) ?_))
    rw [hrd, hw, rdm _ _ _ (tailF_length l) hil]
    by_cases h15 : l[i].f0 = 15
    · have hi1 : i + 1 < l.length := by
        rcases Nat.lt_or_ge (i + 1) l.length with h | h
        · exact h
        · exfalso
          have := R.last (by omega)
          have hq : l.length - 1 = i := by omega
          simp only [hq, h15, on15] at this
          cases this
      have hrd1 := rd34 l (i + 1) hi1
      refine ev_pos h15 (ev_pos (by omega) (ev_pos (by omega) ?_))
      rw [hrd1]
      have hg : l.getD (i + 1) z34 = l[i + 1] := by simp [List.getD_eq_getElem?_getD, List.getElem?_eq_getElem hi1]
      by_cases h16 : l[i + 1].f0 = 16
      · refine ev_pos h16 (ev_pos (by rw [mix_length (tailF_length l) (by omega)]; omega) ?_)
        have ht : (tailF l)[i]? = some (⟨14, l[i].f1, l[i].f2, l[i].f3, l[i].f4, ⟨l[i].f5.f0, l[i].f5.f1, l[i].f5.f2, l[i].f5.f3⟩⟩ : S34) := by
          rw [hT]; unfold tailAt; rw [if_pos ⟨h15, by rw [hg]; exact h16⟩]
        rw [Int.toNat_natCast, mix_set (tailF_length l) hil _ ht]
        exact hn
      · refine ev_neg h16 ?_
        rw [mix_same (tailF_length l) hil (by rw [hT]; unfold tailAt; rw [if_neg (by rw [hg]; exact fun h => h16 h.2)])]
        exact hn
    · refine ev_neg h15 ?_
      rw [mix_same (tailF_length l) hil (by rw [hT]; unfold tailAt; rw [if_neg (fun h => h15 h.1)])]
      exact hn
theorem tails_ev (l : List S34) (R : Right l) : Ev (fun k => peep_tails.f k l) (tailF l) := by
  unfold peep_tails.f
  refine ev_bindc (clone_ev l R.len) ?_
  have := tails_loop l R l.length 0 (by omega)
  rwa [mix_zero] at this
theorem goes_ev (op : Int) (h0 : 1 ≤ op) (h1 : op ≤ 20) : peep_goes.f op = some (hasB op 32) := by
  have h : ∀ i : Fin 21, 1 ≤ i.val → peep_goes.f (i.val : Int) = some (hasB (i.val : Int) 32) := by decide +kernel
  have := h ⟨op.toNat, by omega⟩ (by simp; omega)
  rwa [Int.toNat_of_nonneg (by omega)] at this
theorem jump14 : hasB 14 32 = true := by decide +kernel
def tgt (l : List S34) (i : Nat) : Nat := ((i : Int) + (l.getD i z34).f1).toNat
def chain (l : List S34) : Nat → Nat → Option Nat
  | 0, i => if (l.getD i z34).f0 = 14 then none else some i
  | m + 1, i => if (l.getD i z34).f0 = 14 then chain l m (tgt l i) else some i
theorem getD34 (l : List S34) (i : Nat) (h : i < l.length) : l.getD i z34 = l[i] := by simp [List.getD_eq_getElem?_getD, List.getElem?_eq_getElem h]
theorem tgt_lt {l : List S34} (R : Right l) (i : Nat) (h : i < l.length) (hg : hasB l[i].f0 32 = true) : tgt l i < l.length ∧ ((tgt l i : Nat) : Int) = (i : Int) + l[i].f1 := by
  have := R.goes i h hg
  unfold tgt
  rw [getD34 l i h]
  omega
theorem chain_lt {l : List S34} (R : Right l) : ∀ (m i t : Nat), i < l.length → chain l m i = some t → t < l.length ∧ (l.getD t z34).f0 ≠ 14 := by
  intro m
  induction m with
  | zero =>
    intro i t hi h
    unfold chain at h
    split at h
    · cases h
    · rename_i h14; cases h; exact ⟨hi, h14⟩
  | succ m ih =>
    intro i t hi h
    unfold chain at h
    split at h
    · rename_i h14
      rw [getD34 l i hi] at h14
      exact ih _ _ (tgt_lt R i hi (by rw [h14]; exact jump14)).1 h
    · rename_i h14; cases h; exact ⟨hi, h14⟩
def endR : Option Nat → Int × Bool
  | some t => ((t : Int), true)
  | none => (0, false)
theorem end_loop (l : List S34) (R : Right l) (m : Nat) : ∀ (i s : Nat), i < l.length → s + m = l.length + 1 → Ev (fun k => peep_end.l0 k l (i : Int) (s : Int)) (endR (chain l m i)) := by
  have hl := R.len
  induction m with
  | zero =>
    intro i s hi hs
    refine ev_step (fun k => peep_end.l0.eq_2 _ _ _ _) ?_
    refine ev_pos (by omega) (ev_pos (by omega) ?_)
    rw [rd34 l i hi]
    unfold chain
    rw [getD34 l i hi]
    by_cases h : l[i].f0 = 14
    · rw [if_pos h]
      exact ev_pos h (ev_pos (by omega) ev_now)
    · rw [if_neg h]
      exact ev_neg h ev_now
  | succ m ih =>
    intro i s hi hs
    refine ev_step (fun k => peep_end.l0.eq_2 _ _ _ _) ?_
    refine ev_pos (by omega) (ev_pos (by omega) ?_)
    rw [rd34 l i hi]
    unfold chain
    rw [getD34 l i hi]
    by_cases h : l[i].f0 = 14
    · rw [if_pos h]
      have ht := tgt_lt R i hi (by rw [h]; exact jump14)
      refine ev_pos h (ev_neg (by omega) ?_)
      rw [wrap_succ (i := s) (by omega), wrap_id (x := (i : Int) + l[i].f1) (by omega) (by omega), ← ht.2]
      exact ih _ _ ht.1 (by omega)
    · rw [if_neg h]
      exact ev_neg h ev_now
def endOf (l : List S34) (i : Nat) : Option Nat := chain l (l.length + 1) (tgt l i)
theorem end_ev (l : List S34) (R : Right l) (i : Nat) (hi : i < l.length) (hg : hasB l[i].f0 32 = true) : Ev (fun k => peep_end.f k l (i : Int)) (endR (endOf l i)) := by
  have hl := R.len
  have ht := tgt_lt R i hi hg
  unfold peep_end.f
  refine ev_pos (by omega) (ev_pos (by omega) ?_)
  rw [rd34 l i hi, wrap_id (x := (i : Int) + l[i].f1) (by omega) (by omega), ← ht.2]
  exact end_loop l R (l.length + 1) _ 0 ht.1 (by omega)
def stops (op : Int) : Bool := op == 16 || (op == 17 || (op == 13 || op == 12))
def threadAt (l : List S34) (i : Nat) (x : S34) : S34 :=
  if hasB x.f0 32 = true then match endOf l i with
    | some t => if stops (l.getD t z34).f0 = true ∧ x.f0 = 14 then l.getD t z34 else { x with f1 := (t : Int) - (i : Int) }
    | none => x
  else x
def threadF (l : List S34) : List S34 := l.mapIdx (threadAt l)
theorem threadF_length (l : List S34) : (threadF l).length = l.length := by simp [threadF]
theorem threadF_get (l : List S34) (i : Nat) (h : i < l.length) : (threadF l)[i]? = some (threadAt l i l[i]) := by simp [threadF, List.getElem?_eq_getElem h]
theorem threads_loop (l : List S34) (R : Right l) (d : Nat) : ∀ i : Nat, i + d = l.length → Ev (fun k => peep_threads.l0 k l (mix (threadF l) l i) l (l.length : Int) (i : Int)) (threadF l) := by
  have hl := R.len
  induction d with
  | zero =>
    intro i hi
    refine ev_step (fun k => peep_threads.l0.eq_2 _ _ _ _ _ _) ?_
    refine ev_neg (by omega) ?_
    obtain rfl : i = l.length := by omega
    rw [mix_full (threadF_length l)]
    exact ev_now
  | succ d ih =>
    intro i hi
    have hil : i < l.length := by omega
    have hw := wrap_succ (i := i) (by omega)
    have hT := threadF_get l i hil
    have hn := ih (i + 1) (by omega)
    have hop := R.op i hil
    have hge := goes_ev l[i].f0 hop.1 hop.2
    refine ev_step (fun k => peep_threads.l0.eq_2 _ _ _ _ _ _) ?_
    refine ev_pos (by omega) (ev_pos (by omega) (ev_pos (by omega) ?_))
    rw [rd34 l i hil, hw, rdm _ _ _ (threadF_length l) hil]
    refine ev_bindc hge ?_
    cases hg : hasB l[i].f0 32 with
    | false =>
      refine ev_neg (by decide) ?_
      rw [mix_same (threadF_length l) hil (by rw [hT]; unfold threadAt; rw [hg]; rfl)]
      exact hn
    | true =>
      refine ev_pos rfl ?_
      have hend := end_ev l R i hil hg
      cases he : endOf l i with
      | none =>
        rw [he] at hend
        refine ev_bind (y := (0, false)) hend ?_
        refine ev_neg (by decide) ?_
        rw [mix_same (threadF_length l) hil (by rw [hT]; unfold threadAt; rw [hg, he]; rfl)]
        exact hn
      | some t =>
        obtain ⟨ht, ht14⟩ := chain_lt R _ _ t (tgt_lt R i hil hg).1 he
        have htg := getD34 l t ht
        rw [he] at hend
        refine ev_bind (y := ((t : Int), true)) hend ?_
        refine ev_pos rfl ?_
        have hml := mix_length (threadF_length l) (Nat.le_of_lt hil)
        refine ev_pos (by rw [hml]; omega) ?_
        have hwt : wrap64 ((t : Int) - (i : Int)) = (t : Int) - (i : Int) := wrap_id (by omega) (by omega)
        rw [hwt, Int.toNat_natCast]
        refine ev_bindc rfl ?_
        have j1 : ∀ b : Bool, b = stops l[t].f0 → Ev (fun k => peep_threads.j1 k l ((mix (threadF l) l i).set i (⟨l[i].f0, (t : Int) - (i : Int), l[i].f2, l[i].f3, l[i].f4, ⟨l[i].f5.f0, l[i].f5.f1, l[i].f5.f2, l[i].f5.f3⟩⟩ : S34)) (i : Int) (t : Int) l (l.length : Int) (i : Int) b l[i].f0 l[i].f1 l[i].f2 l[i].f3 l[i].f4 l[i].f5.f0 l[i].f5.f1 l[i].f5.f2 l[i].f5.f3) (threadF l) := by
          intro b hb
          refine ev_step (fun k => peep_threads.j1.eq_2 _ _ _ _ _ _ _ _ _ _ _ _ _ _ _ _ _ _) ?_
          rw [hw]
          cases b with
          | false =>
            refine ev_neg (by decide) ?_
            rw [mix_set (threadF_length l) hil _ (by rw [hT]; unfold threadAt; rw [hg, he]; simp only [if_true]; rw [htg, ← hb, if_neg (fun h => by cases h.1)])]
            exact hn
          | true =>
            refine ev_pos rfl ?_
            by_cases h14 : l[i].f0 = 14
            · refine ev_pos h14 (ev_pos (by omega) (ev_pos (by omega) (ev_pos (by omega) (ev_pos (by rw [List.length_set, hml]; omega) ?_))))
              rw [rd34 l t ht, Int.toNat_natCast, eta34, List.set_set, mix_set (threadF_length l) hil _ (by rw [hT]; unfold threadAt; rw [hg, he]; simp only [if_true]; rw [htg, ← hb, if_pos ⟨rfl, h14⟩])]
              exact hn
            · refine ev_neg h14 ?_
              rw [mix_set (threadF_length l) hil _ (by rw [hT]; unfold threadAt; rw [hg, he]; simp only [if_true]; rw [htg, if_neg (fun h => h14 h.2)])]
              exact hn
        refine ev_pos (by show 0 ≤ (t : Int); omega) (ev_pos (by show (t : Int) < (l.length : Int); omega) ?_)
        rw [rd34 l t ht]
        by_cases h16 : l[t].f0 = 16
        · exact ev_pos h16 (j1 _ (by unfold stops; rw [h16]; rfl))
        · refine ev_neg h16 ?_
          by_cases h17 : l[t].f0 = 17
          · exact ev_pos h17 (j1 _ (by unfold stops; rw [h17]; rfl))
          · refine ev_neg h17 ?_
            by_cases h13 : l[t].f0 = 13
            · exact ev_pos h13 (j1 _ (by unfold stops; rw [h13]; rfl))
            · refine ev_neg h13 (j1 _ ?_)
              unfold stops
              rw [show (l[t].f0 == 16) = false by simpa using h16, show (l[t].f0 == 17) = false by simpa using h17, show (l[t].f0 == 13) = false by simpa using h13]
              rfl
theorem threads_ev (l : List S34) (R : Right l) : Ev (fun k => peep_threads.f k l) (threadF l) := by
  unfold peep_threads.f
  refine ev_bindc (clone_ev l R.len) ?_
  have := threads_loop l R l.length 0 (by omega)
  rwa [mix_zero] at this
end Go.Proofs.YtnpeabmlcakegaaDoor.PPeepKinds
namespace Go.Proofs.YtnpeabmlcakegaaDoor.PPeepKinds
open Go.RowKit Go.Proofs.YtnpeabmlcakegaaDoorW.PrintWords
set_option linter.unusedVariables false
set_option linter.unusedSimpArgs false
theorem len_total (a : Int) (h0 : 0 ≤ a) (h1 : a < 256) : ∃ r, Ev (fun k => bits_Len.f k a) r := by
  unfold bits_Len.f bits_Len64.f
  have h : ∃ r, Ev (fun k => bits_Len64.j0 k a 0) r := ⟨_, ev_step (fun k => bits_Len64.j0.eq_2 _ _ _) (ev_neg (by omega) (ev_neg (by omega) (ev_pos (by omega) (ev_pos (by omega) ev_now))))⟩
  obtain ⟨r, hr⟩ := h
  exact ⟨r, ev_bind (ev_neg (by omega) hr) ev_now⟩
theorem less_ev (a b : Int) : cmp_Less_int.f a b = some (decide (a < b)) := by
  unfold cmp_Less_int.f cmp_isNaN_int.f
  simp
def sort2 : List Int → List Int
  | [a, b] => if b < a then [b, a] else [a, b]
  | l => l
theorem ins_done (l : List Int) (n x : Int) (h : ¬ x < n) : Ev (fun k => slices_insertionSortOrdered_int.l0 k l 0 n x) l := by
  refine ev_step (fun k => slices_insertionSortOrdered_int.l0.eq_2 _ _ _ _ _) ?_
  exact ev_neg h ev_now
theorem ins_ev (l : List Int) (h : l.length ≤ 2) : Ev (fun k => slices_insertionSortOrdered_int.f k l 0 (l.length : Int)) (sort2 l) := by
  unfold slices_insertionSortOrdered_int.f
  rw [w01]
  match l, h with
  | [], _ => exact ins_done [] _ _ (by decide)
  | [a], _ => exact ins_done [a] _ _ (by simp)
  | [a, b], _ =>
    refine ev_step (fun k => slices_insertionSortOrdered_int.l0.eq_2 _ _ _ _ _) ?_
    refine ev_pos (by simp) ?_
    refine ev_step (fun k => slices_insertionSortOrdered_int.l1.eq_2 _ _ _ _ _ _) ?_
    rw [w1m]
    refine ev_pos (by decide) (ev_pos (by decide) (ev_pos (by simp) (ev_pos (by decide) (ev_pos (by simp) ?_))))
    refine ev_bindc (less_ev _ _) ?_
    have h1 : rd [a, b] 1 = b := rfl
    have h0 : rd [a, b] 0 = a := rfl
    rw [h1, h0]
    by_cases hab : b < a
    · refine ev_pos (by simpa using hab) ?_
      have hs : (([a, b].set (1 : Int).toNat a).set (0 : Int).toNat b) = [b, a] := rfl
      rw [hs]
      have e : sort2 [a, b] = [b, a] := by simp [sort2, hab]
      rw [e]
      refine ev_step (fun k => slices_insertionSortOrdered_int.l1.eq_2 _ _ _ _ _ _) ?_
      refine ev_neg (by decide) ?_
      rw [w11]
      exact ins_done _ _ _ (by simp)
    · refine ev_neg (by simpa using hab) ?_
      have e : sort2 [a, b] = [a, b] := by simp [sort2, hab]
      rw [e, w11]
      exact ins_done _ _ _ (by simp)
theorem sort_ev (l : List Int) (h : l.length ≤ 2) : Ev (fun k => slices_Sort_int_int.f k l) (sort2 l) := by
  unfold slices_Sort_int_int.f
  have hw : IntKind.u64.wrap (l.length : Int) = (l.length : Int) := by
    simp [IntKind.wrap, IntKind.bits, IntKind.signed]
    omega
  rw [hw]
  obtain ⟨r, hr⟩ := len_total (l.length : Int) (by omega) (by omega)
  refine ev_bind hr (ev_bind (y := sort2 l) ?_ ev_now)
  refine ev_step (fun k => slices_pdqsortOrdered_int.f.eq_2 _ _ _ _ _) ?_
  refine ev_step (fun k => slices_pdqsortOrdered_int.l0.eq_2 _ _ _ _ _ _) ?_
  rw [wrap_id (x := (l.length : Int) - 0) (by omega) (by omega)]
  refine ev_pos (by omega) (ev_bind (ins_ev l h) ev_now)
theorem sort2_mem (l : List Int) (x : Int) : x ∈ sort2 l ↔ x ∈ l := by
  match l with
  | [] => rfl
  | [a] => rfl
  | [a, b] =>
    show (x ∈ if b < a then [b, a] else [a, b]) ↔ _
    split
    · simp; exact Or.comm
    · rfl
  | a :: b :: c :: r => rfl
theorem sort2_length (l : List Int) : (sort2 l).length = l.length := by
  match l with
  | [] => rfl
  | [a] => rfl
  | [a, b] =>
    show (if b < a then [b, a] else [a, b]).length = _
    split <;> rfl
  | a :: b :: c :: r => rfl
def nexts (l : List S34) (i : Nat) : List Int := (if hasB (l.getD i z34).f0 64 = true then [((i + 1 : Nat) : Int)] else []) ++ (if hasB (l.getD i z34).f0 32 = true ∧ ¬ (hasB (l.getD i z34).f0 64 = true ∧ (l.getD i z34).f1 = 1) then [((tgt l i : Nat) : Int)] else [])
theorem nexts_length (l : List S34) (i : Nat) : (nexts l i).length ≤ 2 := by
  unfold nexts
  split <;> split <;> simp
theorem next_on {l : List S34} (R : Right l) (i : Nat) (h : i < l.length) (ho : hasB l[i].f0 64 = true) : i + 1 < l.length := by
  rcases Nat.lt_or_ge (i + 1) l.length with h1 | h1
  · exact h1
  · exfalso
    have := R.last (by omega)
    have hq : l.length - 1 = i := by omega
    simp only [hq, ho] at this
    cases this
theorem nexts_lt {l : List S34} (R : Right l) (i : Nat) (h : i < l.length) : ∀ x ∈ nexts l i, ∃ j : Nat, x = (j : Int) ∧ j < l.length := by
  intro x hx
  unfold nexts at hx
  rw [getD34 l i h] at hx
  rcases List.mem_append.1 hx with hx | hx
  · split at hx
    · rename_i ho
      simp only [List.mem_singleton] at hx
      exact ⟨i + 1, hx, next_on R i h ho⟩
    · cases hx
  · split at hx
    · rename_i ho
      simp only [List.mem_singleton] at hx
      exact ⟨_, hx, (tgt_lt R i h ho.1).1⟩
    · cases hx
theorem iGoes_ev (l : List S34) (R : Right l) (i : Nat) (hi : i < l.length) : Ev (fun k => instr_goes.f k l (i : Int)) (sort2 (nexts l i)) := by
  have hl := R.len
  have hop := R.op i hi
  have h64 := has_ev l[i].f0 64 (by omega) (by omega)
  have h32 := has_ev l[i].f0 32 (by omega) (by omega)
  have hw := wrap_succ (i := i) (by omega)
  have hnl := nexts_length l i
  have j0 : ∀ xs : List Int, xs = (if hasB l[i].f0 64 = true then [((i + 1 : Nat) : Int)] else []) → Ev (fun k => instr_goes.j0 k (i : Int) xs l[i].f0 l[i].f1 l[i].f2 l[i].f3 l[i].f4 l[i].f5.f0 l[i].f5.f1 l[i].f5.f2 l[i].f5.f3) (sort2 (nexts l i)) := by
    intro xs hxs
    have hxl : xs.length ≤ 1 := by rw [hxs]; split <;> simp
    refine ev_step (fun k => instr_goes.j0.eq_2 _ _ _ _ _ _ _ _ _ _ _ _) ?_
    refine ev_bindc h32 ?_
    cases hg : hasB l[i].f0 32 with
    | false =>
      have e : nexts l i = xs := by unfold nexts; rw [getD34 l i hi, hg, hxs]; simp
      refine ev_neg (by decide) (ev_bind (y := sort2 (nexts l i)) ?_ ev_now)
      rw [e]
      exact sort_ev xs (by omega)
    | true =>
      have ht := tgt_lt R i hi hg
      refine ev_pos rfl (ev_bindc h64 ?_)
      have hwt : wrap64 ((i : Int) + l[i].f1) = ((tgt l i : Nat) : Int) := by rw [wrap_id (by omega) (by omega), ht.2]
      cases ho : hasB l[i].f0 64 with
      | false =>
        have e : nexts l i = xs ++ [((tgt l i : Nat) : Int)] := by unfold nexts; rw [getD34 l i hi, hg, ho, hxs, ho]; simp
        refine ev_neg (by decide) (ev_pos (by omega) (ev_bind (y := sort2 (nexts l i)) ?_ ev_now))
        rw [hwt, e]
        exact sort_ev _ (by simp; omega)
      | true =>
        refine ev_pos rfl ?_
        by_cases h1 : l[i].f1 = 1
        · have e : nexts l i = xs := by unfold nexts; rw [getD34 l i hi, hg, ho, hxs, ho, h1]; simp
          refine ev_pos h1 (ev_bind (y := sort2 (nexts l i)) ?_ ev_now)
          rw [e]
          exact sort_ev xs (by omega)
        · have e : nexts l i = xs ++ [((tgt l i : Nat) : Int)] := by unfold nexts; rw [getD34 l i hi, hg, ho, hxs, ho]; simp [h1]
          refine ev_neg h1 (ev_pos (by omega) (ev_bind (y := sort2 (nexts l i)) ?_ ev_now))
          rw [hwt, e]
          exact sort_ev _ (by simp; omega)
  unfold instr_goes.f
  refine ev_pos (by omega) (ev_pos (by omega) ?_)
  rw [rd34 l i hi, hw]
  refine ev_bindc h64 ?_
  cases ho : hasB l[i].f0 64 with
  | false => exact ev_neg (by decide) (j0 [] (by rw [ho]; rfl))
  | true => exact ev_pos rfl (ev_pos (by decide) (j0 _ (by rw [ho]; rfl)))
theorem rdBool (l : List Bool) (i : Nat) : rdOf false l (i : Int) = l.getD i false := by simp [rdOf]
def lack (out : List Bool) : Nat := (out.filter (fun b => !b)).length
theorem lack_set (out : List Bool) : ∀ (i : Nat), out.getD i true = false → i < out.length → lack (out.set i true) + 1 = lack out := by
  induction out with
  | nil => intro i _ h; simp at h
  | cons b r ih =>
    intro i hb hi
    cases i with
    | zero =>
      simp at hb
      subst hb
      simp [lack]
    | succ i =>
      have := ih i (by simpa using hb) (by simpa using hi)
      unfold lack at this ⊢
      cases b <;> simp at this ⊢ <;> omega
/-- What the search keeps: P of what is marked, of what waits; a ward of what it may need further on. -/
theorem live_loop (l : List S34) (R : Right l) (I : List Bool → List Int → Prop)
    (hpop : ∀ out w (i : Nat), I out (w ++ [(i : Int)]) → i < l.length → out.getD i false = true → I out w)
    (hmark : ∀ out w (i : Nat), I out (w ++ [(i : Int)]) → i < l.length → out.length = l.length → out.getD i false = false → I (out.set i true) (w ++ sort2 (nexts l i))) (m : Nat) :
    ∀ (out : List Bool) (w : List Int), out.length = l.length → (∀ x ∈ w, ∃ j : Nat, x = (j : Int) ∧ j < l.length) → 3 * lack out + w.length ≤ m → w.length ≤ 100000 - 3 * lack out → lack out ≤ 8192 → I out w →
    ∃ out' : List Bool, Ev (fun k => instr_Live.l0 k l out w) (out', 0) ∧ out'.length = l.length ∧ I out' [] := by
  have hl := R.len
  induction m with
  | zero =>
    intro out w ho hw hm _ _ hI
    have : w = [] := List.eq_nil_of_length_eq_zero (by omega)
    subst this
    refine ⟨out, ev_step (fun k => instr_Live.l0.eq_2 _ _ _ _) ?_, ho, hI⟩
    exact ev_neg (by simp) ev_now
  | succ m ih =>
    intro out w ho hw hm hb hlk hI
    rcases List.eq_nil_or_concat w with rfl | ⟨w', x, rfl⟩
    · refine ⟨out, ev_step (fun k => instr_Live.l0.eq_2 _ _ _ _) ?_, ho, hI⟩
      exact ev_neg (by simp) ev_now
    · rw [List.concat_eq_append] at *
      obtain ⟨i, rfl, hi⟩ := hw x (by simp)
      have hlen : ((w' ++ [(i : Int)]).length : Int) = (w'.length : Int) + 1 := by simp
      have hbw : w'.length + 1 ≤ 100000 := by simp at hb; omega
      have hwl : wrap64 (((w' ++ [(i : Int)]).length : Int) - 1) = (w'.length : Int) := by rw [hlen, wrap_id (by omega) (by omega)]; omega
      have hrd : rd (w' ++ [(i : Int)]) (w'.length : Int) = (i : Int) := by simp [rd, List.getD_eq_getElem?_getD]
      have htk : (w' ++ [(i : Int)]).take w'.length = w' := by simp
      have pre : ∀ r, Ev (fun k => if rdOf false out (i : Int) = true then instr_Live.l0 k l out w' else (instr_goes.f k l (i : Int)).bind fun t => if w'.length + t.length < 17592186044416 then instr_Live.l0 k l (out.set i true) (w' ++ t) else none) r → Ev (fun k => instr_Live.l0 k l out (w' ++ [(i : Int)])) r := by
        intro r h
        refine ev_step (fun k => instr_Live.l0.eq_2 _ _ _ _) ?_
        rw [hwl, hrd, Int.toNat_natCast, htk]
        refine ev_pos (by omega) (ev_pos (by omega) (ev_pos (by omega) (ev_pos (by omega) ?_)))
        refine ev_bindc rfl ?_
        exact ev_pos (by omega) (ev_pos (by omega) h)
      cases hout : out.getD i false with
      | true =>
        obtain ⟨out', h1, h2, h3⟩ := ih out w' ho (fun x hx => hw x (List.mem_append_left _ hx)) (by simp at hm; omega) (by simp at hb; omega) hlk (hpop out w' i hI hi hout)
        exact ⟨out', pre _ (ev_pos (by rw [rdBool]; exact hout) h1), h2, h3⟩
      | false =>
        have hls := lack_set out i (by
          have : i < out.length := by omega
          simp [List.getD_eq_getElem?_getD, List.getElem?_eq_getElem this] at hout ⊢
          exact hout) (by omega)
        have hsl := sort2_length (nexts l i)
        have hnl := nexts_length l i
        obtain ⟨out', h1, h2, h3⟩ := ih (out.set i true) (w' ++ sort2 (nexts l i)) (by simpa using ho) (fun x hx => by
            rcases List.mem_append.1 hx with hx | hx
            · exact hw x (List.mem_append_left _ hx)
            · exact nexts_lt R i hi x ((sort2_mem _ _).1 hx)) (by simp at hm ⊢; omega) (by simp at hb ⊢; omega) (by omega) (hmark out w' i hI hi ho hout)
        exact ⟨out', pre _ (ev_neg (by rw [rdBool, hout]; decide) (ev_bind (iGoes_ev l R i hi) (ev_pos (by omega) h1))), h2, h3⟩
/-- Live answers, of right code, a list of its length, and what the search kept. -/
theorem live_ev (l : List S34) (R : Right l) (hc : Ev (fun k => instr_Check.f k l) (0, 0)) (I : List Bool → List Int → Prop)
    (hpop : ∀ out w (i : Nat), I out (w ++ [(i : Int)]) → i < l.length → out.getD i false = true → I out w)
    (hmark : ∀ out w (i : Nat), I out (w ++ [(i : Int)]) → i < l.length → out.length = l.length → out.getD i false = false → I (out.set i true) (w ++ sort2 (nexts l i)))
    (h0 : I (List.replicate l.length false) [0]) :
    ∃ out : List Bool, Ev (fun k => instr_Live.f k l) (out, 0) ∧ out.length = l.length ∧ I out [] := by
  have hl := R.len
  have hlk : lack (List.replicate l.length false) = l.length := by simp [lack]
  obtain ⟨out, h1, h2, h3⟩ := live_loop l R I hpop hmark _ (List.replicate l.length false) [0] (by simp) (fun x hx => ⟨0, by simpa using hx, R.pos⟩) (Nat.le_refl _) (by rw [hlk]; simp; omega) (by omega) h0
  refine ⟨out, ?_, h2, h3⟩
  unfold instr_Live.f
  refine ev_bind hc (ev_pos rfl (ev_pos (by omega) (ev_pos (by omega) ?_)))
  rw [Int.toNat_natCast]
  exact h1
end Go.Proofs.YtnpeabmlcakegaaDoor.PPeepKinds
namespace Go.Proofs.YtnpeabmlcakegaaDoor.PPeepKinds
open Go.RowKit Go.Proofs.YtnpeabmlcakegaaDoorW.PrintWords
set_option linter.unusedVariables false
set_option linter.unusedSimpArgs false
/-- How many of the first i stay. -/
def kept (g : List Bool) (i : Nat) : Nat := ((g.take i).filter (fun b => !b)).length
theorem kept_zero (g : List Bool) : kept g 0 = 0 := by simp [kept]
theorem kept_succ (g : List Bool) (i : Nat) (h : i < g.length) : kept g (i + 1) = kept g i + if g.getD i false = true then 0 else 1 := by
  unfold kept
  rw [List.take_succ_eq_append_getElem h, List.filter_append, List.length_append]
  have e : g.getD i false = g[i] := by simp [List.getD_eq_getElem?_getD, List.getElem?_eq_getElem h]
  rw [e]
  cases g[i] <;> simp
theorem kept_le (g : List Bool) (i : Nat) : kept g i ≤ i := by
  unfold kept
  have h1 := List.length_filter_le (fun b => !b) (g.take i)
  have h2 : (g.take i).length ≤ i := List.length_take_le _ _
  omega
/-- An instruction that stays, its distance made anew. -/
def moved (l : List S34) (g : List Bool) (i : Nat) (x : S34) : S34 := if hasB x.f0 32 = true then { x with f1 := (kept g (tgt l i) : Int) - (kept g i : Int) } else x
def restAt (l : List S34) (g : List Bool) (i : Nat) : Option S34 := if g.getD i false = true then none else some (moved l g i (l.getD i z34))
def restTo (l : List S34) (g : List Bool) (i : Nat) : List S34 := (List.range i).filterMap (restAt l g)
def rest (l : List S34) (g : List Bool) : List S34 := restTo l g l.length
theorem restTo_succ (l : List S34) (g : List Bool) (i : Nat) : restTo l g (i + 1) = restTo l g i ++ (restAt l g i).toList := by
  unfold restTo
  rw [List.range_succ, List.filterMap_append]
  congr 1
theorem restTo_length_le (l : List S34) (g : List Bool) (i : Nat) : (restTo l g i).length ≤ i := by
  unfold restTo
  have := List.length_filterMap_le (restAt l g) (List.range i)
  simpa using this
theorem restTo_length (l : List S34) (g : List Bool) (i : Nat) (h : i ≤ g.length) : (restTo l g i).length = kept g i := by
  induction i with
  | zero => simp [restTo, kept]
  | succ i ih =>
    rw [restTo_succ, List.length_append, ih (by omega), kept_succ g i (by omega)]
    unfold restAt
    split <;> simp
/-- What the first pass lays down: how many stay ahead of each. -/
def Cnt (g : List Bool) (b : List Int) (n i : Nat) : Prop := b.length = n + 1 ∧ ∀ j : Nat, j ≤ i → rd b (j : Int) = (kept g j : Int)
theorem rd_set_same (b : List Int) (i : Nat) (v : Int) (h : i < b.length) : rd (b.set i v) (i : Int) = v := by simp [rd, List.getD_eq_getElem?_getD, h]
theorem rd_set_ne (b : List Int) (i j : Nat) (v : Int) (h : j ≠ i) : rd (b.set i v) (j : Int) = rd b (j : Int) := by
  simp only [rd, Int.toNat_natCast, List.getD_eq_getElem?_getD]
  rw [List.getElem?_set_ne (fun e => h e.symm)]
theorem without_l1 (l : List S34) (R : Right l) (g : List Bool) (hg : g.length = l.length) (b : List Int) (hb : Cnt g b l.length l.length) (d : Nat) : ∀ i : Nat, i + d = l.length →
    Ev (fun k => peep_without.l1 k g b (restTo l g i) l (l.length : Int) (i : Int)) (rest l g) := by
  have hl := R.len
  induction d with
  | zero =>
    intro i hi
    refine ev_step (fun k => peep_without.l1.eq_2 _ _ _ _ _ _ _) ?_
    refine ev_neg (by omega) ?_
    obtain rfl : i = l.length := by omega
    exact ev_now
  | succ d ih =>
    intro i hi
    have hil : i < l.length := by omega
    have hw := wrap_succ (i := i) (by omega)
    have hop := R.op i hil
    have hge := goes_ev l[i].f0 hop.1 hop.2
    have hn := ih (i + 1) (by omega)
    have hrl := restTo_length_le l g i
    rw [restTo_succ] at hn
    refine ev_step (fun k => peep_without.l1.eq_2 _ _ _ _ _ _ _) ?_
    refine ev_pos (by omega) (ev_pos (by omega) (ev_pos (by omega) (ev_pos (by omega) ?_)))
    rw [rdBool, rd34 l i hil, hw]
    cases hgi : g.getD i false with
    | true =>
      have e : restAt l g i = none := by unfold restAt; rw [hgi]; rfl
      rw [e] at hn
      simp only [Option.toList_none, List.append_nil] at hn
      exact ev_pos rfl hn
    | false =>
      have e : restAt l g i = some (moved l g i l[i]) := by unfold restAt; rw [hgi, getD34 l i hil]; rfl
      rw [e] at hn
      simp only [Option.toList_some] at hn
      refine ev_neg (by decide) (ev_bindc hge ?_)
      cases ho : hasB l[i].f0 32 with
      | true =>
        have ht := tgt_lt R i hil ho
        refine ev_pos rfl ?_
        have hwt : wrap64 ((i : Int) + l[i].f1) = ((tgt l i : Nat) : Int) := by rw [wrap_id (by omega) (by omega), ht.2]
        have k1 := kept_le g (tgt l i)
        have k2 := kept_le g i
        rw [hwt, hb.2 _ (by omega), hb.2 _ (by omega), wrap_id (x := (kept g (tgt l i) : Int) - (kept g i : Int)) (by omega) (by omega)]
        have hbl := hb.1
        refine ev_pos (by omega) (ev_pos (by omega) (ev_pos (by omega) (ev_pos (by omega) ?_)))
        have em : moved l g i l[i] = (⟨l[i].f0, (kept g (tgt l i) : Int) - (kept g i : Int), l[i].f2, l[i].f3, l[i].f4, ⟨l[i].f5.f0, l[i].f5.f1, l[i].f5.f2, l[i].f5.f3⟩⟩ : S34) := by unfold moved; rw [ho]; rfl
        rw [← em]
        exact hn
      | false =>
        refine ev_neg (by decide) (ev_pos (by omega) ?_)
        have em : moved l g i l[i] = l[i] := by unfold moved; rw [ho]; rfl
        rw [eta34, ← em]
        rw [em]
        rw [em] at hn
        exact hn
theorem without_l0 (l : List S34) (R : Right l) (g : List Bool) (hg : g.length = l.length) (d : Nat) : ∀ (i : Nat) (b : List Int), i + d = l.length → Cnt g b l.length i →
    Ev (fun k => peep_without.l0 k l g b (l.length : Int) (i : Int)) (rest l g) := by
  have hl := R.len
  induction d with
  | zero =>
    intro i b hi hb
    obtain rfl : i = l.length := by omega
    have hk := kept_le g l.length
    have hbl := hb.1
    refine ev_step (fun k => peep_without.l0.eq_2 _ _ _ _ _ _) ?_
    refine ev_neg (by omega) ?_
    rw [hb.2 _ (Nat.le_refl _)]
    refine ev_pos (by omega) (ev_pos (by omega) (ev_pos (by omega) (ev_pos (by omega) ?_)))
    have := without_l1 l R g hg b hb l.length 0 (by omega)
    exact this
  | succ d ih =>
    intro i b hi hb
    have hil : i < l.length := by omega
    have hw := wrap_succ (i := i) (by omega)
    have hbl := hb.1
    have hk := kept_le g i
    refine ev_step (fun k => peep_without.l0.eq_2 _ _ _ _ _ _) ?_
    rw [hw]
    refine ev_pos (by omega) (ev_pos (by omega) (ev_pos (by omega) (ev_pos (by omega) (ev_pos (by omega) ?_))))
    refine ev_bindc rfl (ev_pos (by omega) ?_)
    rw [rdBool, Int.toNat_natCast, hb.2 i (Nat.le_refl _), rd_set_same _ _ _ (by omega)]
    have hks := kept_succ g i (by omega)
    cases hgi : g.getD i false with
    | true =>
      rw [hgi] at hks
      refine ev_pos rfl (ih (i + 1) _ (by omega) ⟨by simpa using hbl, fun j hj => ?_⟩)
      by_cases e : j = i + 1
      · subst e
        rw [rd_set_same _ _ _ (by omega), hks]
        simp
      · rw [rd_set_ne _ _ _ _ e]
        exact hb.2 j (by omega)
    | false =>
      rw [hgi] at hks
      rw [wrap_id (x := (kept g i : Int) + 1) (by omega) (by omega), List.set_set]
      refine ev_neg (by decide) (ih (i + 1) _ (by omega) ⟨by simpa using hbl, fun j hj => ?_⟩)
      by_cases e : j = i + 1
      · subst e
        rw [rd_set_same _ _ _ (by omega), hks]
        simp
      · rw [rd_set_ne _ _ _ _ e]
        exact hb.2 j (by omega)
theorem without_ev (l : List S34) (R : Right l) (g : List Bool) (hg : g.length = l.length) : Ev (fun k => peep_without.f k l g) (rest l g) := by
  have hl := R.len
  unfold peep_without.f
  rw [wrap_succ (i := l.length) (by omega), Int.toNat_natCast]
  refine ev_pos (by omega) (ev_pos (by omega) ?_)
  refine without_l0 l R g hg l.length 0 _ (by omega) ⟨by simp, fun j hj => ?_⟩
  obtain rfl : j = 0 := by omega
  simp [rd, kept, List.getD_eq_getElem?_getD]
def hopG (l : List S34) : List Bool := l.map fun x => decide (x.f0 = 14) && x.f1 == 1
theorem hopG_length (l : List S34) : (hopG l).length = l.length := by simp [hopG]
theorem hopG_get (l : List S34) (i : Nat) (h : i < l.length) : (hopG l)[i]? = some (decide (l[i].f0 = 14) && l[i].f1 == 1) := by simp [hopG, List.getElem?_eq_getElem h]
theorem hops_loop (l : List S34) (R : Right l) (d : Nat) : ∀ i : Nat, i + d = l.length → Ev (fun k => peep_hops.l0 k l (mix (hopG l) (List.replicate l.length false) i) l (l.length : Int) (i : Int)) (rest l (hopG l)) := by
  have hl := R.len
  have hrep : (hopG l).length = (List.replicate l.length false).length := by simp [hopG]
  induction d with
  | zero =>
    intro i hi
    obtain rfl : i = l.length := by omega
    refine ev_step (fun k => peep_hops.l0.eq_2 _ _ _ _ _ _) ?_
    refine ev_neg (by omega) ?_
    have e : mix (hopG l) (List.replicate l.length false) l.length = hopG l := by have := mix_full hrep; simpa using this
    rw [e]
    exact ev_bind (without_ev l R (hopG l) (hopG_length l)) ev_now
  | succ d ih =>
    intro i hi
    have hil : i < l.length := by omega
    have hir : i < (List.replicate l.length false).length := by simpa using hil
    have hw := wrap_succ (i := i) (by omega)
    have hT := hopG_get l i hil
    have hn := ih (i + 1) (by omega)
    have hml : (mix (hopG l) (List.replicate l.length false) i).length = l.length := by rw [mix_length hrep (by simp; omega)]; simp
    refine ev_step (fun k => peep_hops.l0.eq_2 _ _ _ _ _ _) ?_
    refine ev_pos (by omega) (ev_pos (by omega) (ev_pos (by omega) ?_))
    rw [rd34 l i hil, hw, Int.toNat_natCast]
    by_cases h14 : l[i].f0 = 14
    · refine ev_pos h14 (ev_pos (by omega) ?_)
      rw [mix_set hrep hir _ (by rw [hT, decide_eq_true h14]; simp)]
      exact hn
    · refine ev_neg h14 (ev_pos (by omega) ?_)
      rw [mix_set hrep hir _ (by rw [hT, decide_eq_false h14]; simp)]
      exact hn
theorem hops_ev (l : List S34) (R : Right l) : Ev (fun k => peep_hops.f k l) (rest l (hopG l)) := by
  have hl := R.len
  unfold peep_hops.f
  refine ev_pos (by omega) (ev_pos (by omega) ?_)
  have := hops_loop l R l.length 0 (by omega)
  rw [mix_zero] at this
  rwa [Int.toNat_natCast]
theorem dead_loop (l : List S34) (R : Right l) (v : List Bool) (hv : v.length = l.length) (d : Nat) : ∀ i : Nat, i + d = l.length →
    Ev (fun k => peep_dead.l0 k l v (mix (v.map fun b => !b) (List.replicate l.length false) i) (l.length : Int) (i : Int)) (rest l (v.map fun b => !b)) := by
  have hl := R.len
  have hrep : (v.map fun b => !b).length = (List.replicate l.length false).length := by simp [hv]
  induction d with
  | zero =>
    intro i hi
    obtain rfl : i = l.length := by omega
    refine ev_step (fun k => peep_dead.l0.eq_2 _ _ _ _ _ _) ?_
    refine ev_neg (by omega) ?_
    have e : mix (v.map fun b => !b) (List.replicate l.length false) l.length = v.map fun b => !b := by have := mix_full hrep; simpa using this
    rw [e]
    exact ev_bind (without_ev l R _ (by simp [hv])) ev_now
  | succ d ih =>
    intro i hi
    have hil : i < l.length := by omega
    have hir : i < (List.replicate l.length false).length := by simpa using hil
    have hw := wrap_succ (i := i) (by omega)
    have hn := ih (i + 1) (by omega)
    have hml : (mix (v.map fun b => !b) (List.replicate l.length false) i).length = l.length := by rw [mix_length hrep (by simp; omega)]; simp
    have hiv : i < v.length := by omega
    refine ev_step (fun k => peep_dead.l0.eq_2 _ _ _ _ _ _) ?_
    refine ev_pos (by omega) (ev_pos (by omega) (ev_pos (by omega) (ev_pos (by omega) ?_)))
    rw [hw, Int.toNat_natCast, rdBool, mix_set hrep hir _ (by simp [List.getD_eq_getElem?_getD, List.getElem?_eq_getElem hiv])]
    exact hn
theorem dead_ev (l : List S34) (R : Right l) (v : List Bool) (hv : v.length = l.length) (hlive : Ev (fun k => instr_Live.f k l) (v, 0)) : Ev (fun k => peep_dead.f k l) (rest l (v.map fun b => !b)) := by
  have hl := R.len
  unfold peep_dead.f
  refine ev_bind hlive (ev_pos (by omega) (ev_pos (by omega) ?_))
  refine ev_bindc rfl ?_
  have := dead_loop l R v hv l.length 0 (by omega)
  rw [mix_zero] at this
  rw [Int.toNat_natCast, List.length_replicate]
  exact this
end Go.Proofs.YtnpeabmlcakegaaDoor.PPeepKinds
namespace Go.Proofs.YtnpeabmlcakegaaDoor.PPeepKinds
open Go.RowKit Go.Proofs.YtnpeabmlcakegaaDoorW.PrintWords
set_option linter.unusedVariables false
set_option linter.unusedSimpArgs false
theorem Tails_ev (l : List S34) (r : Int × Int) (hc : Ev (fun k => instr_Check.f k l) r) (hr : r.2 = 0 → Right l) : Ev (fun k => peep_Tails.f k l) (if r.2 = 0 then (tailF l, 0) else ([], r.2)) := by
  unfold peep_Tails.f peep_on_tails.f
  refine ev_bind (y := if r.2 = 0 then (tailF l, 0) else ([], r.2)) (ev_bind hc ?_) ?_
  · by_cases h : r.2 = 0
    · rw [if_pos h]
      exact ev_pos h (ev_bind (tails_ev l (hr h)) ev_now)
    · rw [if_neg h]
      exact ev_neg h ev_now
  · exact ev_now
theorem Threads_ev (l : List S34) (r : Int × Int) (hc : Ev (fun k => instr_Check.f k l) r) (hr : r.2 = 0 → Right l) : Ev (fun k => peep_Threads.f k l) (if r.2 = 0 then (threadF l, 0) else ([], r.2)) := by
  unfold peep_Threads.f peep_on_threads.f
  refine ev_bind (y := if r.2 = 0 then (threadF l, 0) else ([], r.2)) (ev_bind hc ?_) ?_
  · by_cases h : r.2 = 0
    · rw [if_pos h]
      exact ev_pos h (ev_bind (threads_ev l (hr h)) ev_now)
    · rw [if_neg h]
      exact ev_neg h ev_now
  · exact ev_now
theorem Hops_ev (l : List S34) (r : Int × Int) (hc : Ev (fun k => instr_Check.f k l) r) (hr : r.2 = 0 → Right l) : Ev (fun k => peep_Hops.f k l) (if r.2 = 0 then (rest l (hopG l), 0) else ([], r.2)) := by
  unfold peep_Hops.f peep_on_hops.f
  refine ev_bind (y := if r.2 = 0 then (rest l (hopG l), 0) else ([], r.2)) (ev_bind hc ?_) ?_
  · by_cases h : r.2 = 0
    · rw [if_pos h]
      exact ev_pos h (ev_bind (hops_ev l (hr h)) ev_now)
    · rw [if_neg h]
      exact ev_neg h ev_now
  · exact ev_now
theorem Dead_bad (l : List S34) (r : Int × Int) (hc : Ev (fun k => instr_Check.f k l) r) (h : ¬ r.2 = 0) : Ev (fun k => peep_Dead.f k l) ([], r.2) := by
  unfold peep_Dead.f peep_on_dead.f
  exact ev_bind (ev_bind hc (ev_neg h ev_now)) ev_now
theorem Dead_good (l : List S34) (r : Int × Int) (hc : Ev (fun k => instr_Check.f k l) r) (h : r.2 = 0) (R : Right l) (v : List Bool) (hv : v.length = l.length) (hlive : Ev (fun k => instr_Live.f k l) (v, 0)) :
    Ev (fun k => peep_Dead.f k l) (rest l (v.map fun b => !b), 0) := by
  unfold peep_Dead.f peep_on_dead.f
  exact ev_bind (ev_bind hc (ev_pos h (ev_bind (dead_ev l R v hv hlive) ev_now))) ev_now
theorem lives_ev : Ev (fun k => harrowlaw20_lives.f k) true := Ev.of harrowlaw20_lives.mono (k := 60) (by decide +kernel)
theorem rest_at (l : List S34) (g : List Bool) (hg : g.length = l.length) (i : Nat) (hi : i < l.length) (h : g.getD i false = false) : (rest l g)[kept g i]? = some (moved l g i l[i]) := by
  have hs : ∀ d : Nat, i + 1 + d ≤ l.length → (restTo l g (i + 1 + d))[kept g i]? = some (moved l g i l[i]) := by
    intro d
    induction d with
    | zero =>
      intro _
      rw [Nat.add_zero, restTo_succ, List.getElem?_append_right (by rw [restTo_length l g i (by omega)]; exact Nat.le_refl _), restTo_length l g i (by omega), Nat.sub_self]
      unfold restAt
      rw [h, getD34 l i hi]
      rfl
    | succ d ih =>
      intro hd
      have := ih (by omega)
      rw [← Nat.add_assoc, restTo_succ, List.getElem?_append_left (List.getElem?_eq_some_iff.1 this).1]
      exact this
  have := hs (l.length - (i + 1)) (by omega)
  rwa [show i + 1 + (l.length - (i + 1)) = l.length by omega] at this
theorem moved_f0 (l : List S34) (g : List Bool) (i : Nat) (x : S34) : (moved l g i x).f0 = x.f0 := by unfold moved; split <;> rfl
theorem moved_f2 (l : List S34) (g : List Bool) (i : Nat) (x : S34) : (moved l g i x).f2 = x.f2 := by unfold moved; split <;> rfl
theorem moved_f3 (l : List S34) (g : List Bool) (i : Nat) (x : S34) : (moved l g i x).f3 = x.f3 := by unfold moved; split <;> rfl
theorem moved_f4 (l : List S34) (g : List Bool) (i : Nat) (x : S34) : (moved l g i x).f4 = x.f4 := by unfold moved; split <;> rfl
theorem moved_f5 (l : List S34) (g : List Bool) (i : Nat) (x : S34) : (moved l g i x).f5 = x.f5 := by unfold moved; split <;> rfl
theorem rest_length (l : List S34) (g : List Bool) (hg : g.length = l.length) : (rest l g).length = kept g l.length := restTo_length l g l.length (by omega)
theorem law_loop (l : List S34) (R : Right l) (v : List Bool) (hv : v.length = l.length) (d : Nat) : ∀ i : Nat, i + d = l.length →
    Ev (fun k => harrowlaw20_PeepKinds.l0 k l (tailF l) (rest l (v.map fun b => !b)) (rest l (hopG l)) v (kept (v.map fun b => !b) i : Int) (kept (hopG l) i : Int) (i : Int)) true := by
  have hl := R.len
  have hvm : (v.map fun b => !b).length = l.length := by simp [hv]
  have hhl := hopG_length l
  induction d with
  | zero =>
    intro i hi
    obtain rfl : i = l.length := by omega
    refine ev_step (fun k => harrowlaw20_PeepKinds.l0.eq_2 _ _ _ _ _ _ _ _ _) ?_
    refine ev_neg (by omega) (ev_pos (by rw [rest_length _ _ hvm]) (ev_pos (by rw [rest_length _ _ hhl]) ?_))
    exact ev_bind lives_ev ev_now
  | succ d ih =>
    intro i hi
    have hil : i < l.length := by omega
    have hn := ih (i + 1) (by omega)
    have hw := wrap_succ (i := i) (by omega)
    have hT : rd_T34 (tailF l) (i : Int) = tailAt l i l[i] := by
      have h1 : i < (tailF l).length := by rw [tailF_length]; exact hil
      have h2 := tailF_get l i hil
      rw [List.getElem?_eq_getElem h1] at h2
      rw [rd34 _ i h1]
      exact Option.some.inj h2
    have tail_case : ∀ (m n : Int) (hw1 : Ev (fun k => harrowlaw20_PeepKinds.l0 k l (tailF l) (rest l (v.map fun b => !b)) (rest l (hopG l)) v m n ((i + 1 : Nat) : Int)) true),
        Ev (fun k => if (rd_T34 (tailF l) (i : Int)).f0 = (rd_T34 l (i : Int)).f0 then harrowlaw20_PeepKinds.l0 k l (tailF l) (rest l (v.map fun b => !b)) (rest l (hopG l)) v m n (wrap64 ((i : Int) + 1)) else if (rd_T34 l (i : Int)).f0 = 15 then (if (rd_T34 (tailF l) (i : Int)).f0 = 14 then (if ((rd_T34 (tailF l) (i : Int)).f1) = ((rd_T34 l (i : Int)).f1) then harrowlaw20_PeepKinds.l0 k l (tailF l) (rest l (v.map fun b => !b)) (rest l (hopG l)) v m n (wrap64 ((i : Int) + 1)) else some false) else some false) else some false) true := by
      intro m n h1
      rw [hT, rd34 l i hil, hw]
      unfold tailAt
      by_cases hc : l[i].f0 = 15 ∧ (l.getD (i + 1) z34).f0 = 16
      · rw [if_pos hc]
        exact ev_neg (by rw [hc.1]; simp) (ev_pos hc.1 (ev_pos rfl (ev_pos rfl h1)))
      · rw [if_neg hc]
        exact ev_pos rfl h1
    have hks1 := kept_succ (v.map fun b => !b) i (by omega)
    have hks2 := kept_succ (hopG l) i (by omega)
    have hk1 := kept_le (v.map fun b => !b) i
    have hk2 := kept_le (hopG l) i
    have hgv : (v.map fun b => !b).getD i false = !(v.getD i false) := by
      have : i < v.length := by omega
      simp [List.getD_eq_getElem?_getD, List.getElem?_eq_getElem this]
    have hgh : (hopG l).getD i false = (decide (l[i].f0 = 14) && l[i].f1 == 1) := by
      have := hopG_get l i hil
      simp [List.getD_eq_getElem?_getD, this]
    -- behind the first part: m has become that of i + 1
    have j2 : Ev (fun k => harrowlaw20_PeepKinds.j2 k l (tailF l) (rest l (v.map fun b => !b)) (rest l (hopG l)) v (kept (v.map fun b => !b) (i + 1) : Int) (kept (hopG l) i : Int) (i : Int)) true := by
      have j3 : ∀ b : Bool, b = !(decide (l[i].f0 = 14) && l[i].f1 == 1) → Ev (fun k => harrowlaw20_PeepKinds.j3 k l (tailF l) (rest l (v.map fun b => !b)) (rest l (hopG l)) v (kept (v.map fun b => !b) (i + 1) : Int) (kept (hopG l) i : Int) (i : Int) b) true := by
        intro b hb
        refine ev_step (fun k => harrowlaw20_PeepKinds.j3.eq_2 _ _ _ _ _ _ _ _ _ _) ?_
        cases b with
        | false =>
          have hgt : (hopG l).getD i false = true := by rw [hgh]; simpa using hb.symm
          rw [hgt] at hks2
          refine ev_neg (by decide) (ev_pos (by omega) (ev_pos (by rw [tailF_length]; omega) (ev_pos (by omega) ?_)))
          rw [show kept (hopG l) i = kept (hopG l) (i + 1) by rw [hks2]; simp]
          exact tail_case _ _ hn
        | true =>
          have hgf : (hopG l).getD i false = false := by
            rw [hgh]
            cases hq : (decide (l[i].f0 = 14) && l[i].f1 == 1) with
            | false => rfl
            | true => rw [hq] at hb; cases hb
          rw [hgf] at hks2
          have hat := rest_at l (hopG l) hhl i hil hgf
          have hlt := (List.getElem?_eq_some_iff.1 hat).1
          have hrd : rd_T34 (rest l (hopG l)) (kept (hopG l) i : Int) = moved l (hopG l) i l[i] := by
            rw [rd34 _ _ hlt]
            exact (List.getElem?_eq_some_iff.1 hat).2
          have j4 : Ev (fun k => harrowlaw20_PeepKinds.j4 k l (tailF l) (rest l (v.map fun b => !b)) (rest l (hopG l)) v (kept (v.map fun b => !b) (i + 1) : Int) (kept (hopG l) i : Int) (i : Int) false) true := by
            refine ev_step (fun k => harrowlaw20_PeepKinds.j4.eq_2 _ _ _ _ _ _ _ _ _ _) ?_
            refine ev_neg (by decide) (ev_pos (by omega) (ev_pos (by rw [tailF_length]; omega) (ev_pos (by omega) ?_)))
            rw [wrap_id (x := (kept (hopG l) i : Int) + 1) (by omega) (by omega), show (kept (hopG l) i : Int) + 1 = (kept (hopG l) (i + 1) : Int) by rw [hks2]; simp]
            exact tail_case _ _ hn
          refine ev_pos rfl (ev_neg (by omega) (ev_pos (by omega) (ev_pos (by omega) (ev_pos (by omega) (ev_pos (by omega) ?_)))))
          rw [hrd, rd34 l i hil]
          refine ev_pos (moved_f0 ..) (ev_pos (moved_f2 ..) ?_)
          rw [moved_f3, show (l[i].f3 != l[i].f3) = false by simp]
          exact j4
      refine ev_step (fun k => harrowlaw20_PeepKinds.j2.eq_2 _ _ _ _ _ _ _ _ _) ?_
      refine ev_pos (by omega) (ev_pos (by omega) ?_)
      rw [rd34 l i hil]
      by_cases h14 : l[i].f0 = 14
      · exact ev_pos h14 (j3 _ (by rw [decide_eq_true h14]; simp [bne]))
      · exact ev_neg h14 (j3 _ (by rw [decide_eq_false h14]; simp))
    refine ev_step (fun k => harrowlaw20_PeepKinds.l0.eq_2 _ _ _ _ _ _ _ _ _) ?_
    refine ev_pos (by omega) (ev_pos (by omega) (ev_pos (by omega) ?_))
    rw [rdBool]
    cases hvi : v.getD i false with
    | false =>
      rw [hgv, hvi] at hks1
      refine ev_neg (by decide) ?_
      rw [show kept (v.map fun b => !b) i = kept (v.map fun b => !b) (i + 1) by rw [hks1]; simp]
      exact j2
    | true =>
      rw [hgv, hvi] at hks1
      have hat := rest_at l (v.map fun b => !b) hvm i hil (by rw [hgv, hvi]; rfl)
      have hlt := (List.getElem?_eq_some_iff.1 hat).1
      have hrd : rd_T34 (rest l (v.map fun b => !b)) (kept (v.map fun b => !b) i : Int) = moved l (v.map fun b => !b) i l[i] := by
        rw [rd34 _ _ hlt]
        exact (List.getElem?_eq_some_iff.1 hat).2
      refine ev_pos rfl (ev_neg (by omega) (ev_pos (by omega) (ev_pos (by omega) ?_)))
      rw [hrd, rd34 l i hil, moved_f5, moved_f4]
      refine ev_pos (moved_f0 ..) (ev_neg (by simp) (ev_pos rfl ?_))
      rw [wrap_id (x := (kept (v.map fun b => !b) i : Int) + 1) (by omega) (by omega), show (kept (v.map fun b => !b) i : Int) + 1 = (kept (v.map fun b => !b) (i + 1) : Int) by rw [hks1]; simp]
      exact j2
theorem kinds_ev (l : List S34) (hs : ∀ x ∈ l, x.f4.size ≤ 140737488351232) : Ev (fun k => harrowlaw20_PeepKinds.f k l) true := by
  obtain ⟨r, hc, hr⟩ := check_total l hs
  have hR : r.2 = 0 → Right l := fun h => (hr h).2
  have hT := Tails_ev l r hc hR
  have hH := Threads_ev l r hc hR
  have hP := Hops_ev l r hc hR
  unfold harrowlaw20_PeepKinds.f
  by_cases h : r.2 = 0
  · have R := hR h
    have hl := R.len
    have hc0 : Ev (fun k => instr_Check.f k l) (0, 0) := by
      have := hc
      rwa [(hr h).1] at this
    obtain ⟨v, hlive, hv, _⟩ := live_ev l R hc0 (fun _ _ => True) (fun _ _ _ _ _ _ => trivial) (fun _ _ _ _ _ _ _ => trivial) trivial
    have hD := Dead_good l r hc h R v hv hlive
    rw [if_pos h] at hT hH hP
    refine ev_bind hT (ev_bind hH (ev_bind hD (ev_bind hP (ev_pos rfl (ev_bind hlive (ev_pos rfl (ev_pos rfl (ev_pos rfl (ev_pos rfl (ev_pos (by rw [tailF_length]) (ev_pos (by rw [threadF_length]) ?_)))))))))))
    rw [show ((v.length : Int) != (l.length : Int)) = false by simp [hv]]
    refine ev_step (fun k => harrowlaw20_PeepKinds.j0.eq_2 _ _ _ _ _ _ _) (ev_neg (by decide) ?_)
    have := law_loop l R v hv l.length 0 (by omega)
    rw [kept_zero, kept_zero] at this
    exact this
  · have hD := Dead_bad l r hc h
    rw [if_neg h] at hT hH hP
    refine ev_bind hT (ev_bind hH (ev_bind hD (ev_bind hP (ev_neg h (ev_bind lives_ev (ev_pos rfl (ev_pos rfl (ev_pos rfl (ev_pos rfl ?_)))))))))
    have e : (wrap64 (wrap64 (wrap64 ((([] : List S34).length : Int) + (([] : List S34).length : Int)) + (([] : List S34).length : Int)) + (([] : List S34).length : Int)) == 0) = true := by
      simp only [List.length_nil]
      have : wrap64 ((0 : Nat) + (0 : Nat) : Int) = 0 := wrap_id (by decide) (by decide)
      have h2 : wrap64 ((0 : Int) + ((0 : Nat) : Int)) = 0 := wrap_id (by decide) (by decide)
      rw [this, h2, h2]
      rfl
    rw [e]
    exact ev_now
end Go.Proofs.YtnpeabmlcakegaaDoor.PPeepKinds
namespace Go.Proofs.YtnpeabmlcakegaaDoor.Pure
open Go.RowKit Go.Proofs.YtnpeabmlcakegaaDoorW.PrintWords Go.Proofs.YtnpeabmlcakegaaDoor.PPeepKinds
theorem PeepKinds (l : List S34) (h : l.length ≤ 9223372036854775807 ∧ l.length * Tryd.prog.bytesOf 34 ≤ 140737488351232 ∧ ∀ y ∈ l, ok34 y) : ∃ k, harrowlaw20_PeepKinds.f k l = some true :=
  (kinds_ev l (fun x hx => (h.2.2 x hx).2.2.2.2.1)).rounds
end Go.Proofs.YtnpeabmlcakegaaDoor.Pure
