/- The statement 'PeepOwn': the row, out of the plain law (theorem PeepOwn of the text PurePeepOwn) and the walks. Conditions: those of the row alone. -/
import Derived.Test.YtnpeabmlcakegaaDoorMine5
import Derived.Test.YtnpeabmlcakegaaDoorRows
import Derived.Test.YtnpeabmlcakegaaDoorCards
import Derived.Test.YtnpeabmlcakegaaDoorTie
set_option maxHeartbeats 8000000
set_option maxRecDepth 100000
namespace Go.Proofs.YtnpeabmlcakegaaDoor.PAll
open Go.RowKit Go.Proofs.YtnpeabmlcakegaaDoorW.PrintWords
set_option linter.unusedVariables false
set_option linter.unusedSimpArgs false
def mix {α : Type} (T l : List α) (i : Nat) : List α := T.take i ++ l.drop i
section
variable {α : Type} {T l : List α} {i : Nat}
theorem mix_zero : mix T l 0 = l := by simp [mix]
theorem mix_full (h : T.length = l.length) : mix T l l.length = T := by unfold mix; rw [List.drop_length, List.append_nil, ← h, List.take_length]
theorem ja (h : T.length = l.length) (hi : i ≤ l.length) : (mix T l i).length = l.length := by simp [mix]; omega
theorem mix_get (h : T.length = l.length) (hi : i < l.length) (hm : i < (mix T l i).length) : (mix T l i)[i] = l[i] := by
  have e : (mix T l i)[i]? = some l[i] := by
    unfold mix
    rw [List.getElem?_append_right (by simp; omega)]
    simp [h, Nat.min_eq_left (Nat.le_of_lt hi), List.getElem?_eq_getElem hi]
  exact (List.getElem?_eq_some_iff.1 e).2
theorem jy (h : T.length = l.length) (hi : i < l.length) (v : α) (hv : T[i]? = some v) : (mix T l i).set i v = mix T l (i + 1) := by
  unfold mix
  have hiT : i < T.length := by omega
  have e : v = T[i] := by rw [List.getElem?_eq_getElem hiT] at hv; exact (Option.some.inj hv).symm
  subst e
  rw [List.set_append_right _ _ (by simp; omega), List.take_succ_eq_append_getElem hiT, List.append_assoc]
  congr 1
  rw [List.length_take, Nat.min_eq_left (Nat.le_of_lt hiT), Nat.sub_self, List.drop_eq_getElem_cons hi]
  rfl
theorem mix_same (h : T.length = l.length) (hi : i < l.length) (hv : T[i]? = some l[i]) : mix T l i = mix T l (i + 1) := by
  rw [← jy h hi _ hv]
  have hm : i < (mix T l i).length := by rw [ja h (Nat.le_of_lt hi)]; exact hi
  rw [← mix_get h hi hm, List.set_getElem_self]
end
theorem eta34 (x : S34) : (⟨x.f0, x.f1, x.f2, x.f3, x.f4, ⟨x.f5.f0, x.f5.f1, x.f5.f2, x.f5.f3⟩⟩ : S34) = x := rfl
theorem clone_ev (l : List S34) (h : l.length ≤ 8192) : qD.f l = some l := by
  unfold qD.f
  simp only [Option.bind_some, List.length_nil, List.nil_append]
  rw [if_pos (by omega)]
theorem rdm (T l : List S34) (i : Nat) (h : T.length = l.length) (hi : i < l.length) : za (mix T l i) (i : Int) = l[i] := by
  have hm : i < (mix T l i).length := by rw [ja h (Nat.le_of_lt hi)]; exact hi
  rw [rd34 _ _ hm, mix_get h hi hm]
def tailAt (l : List S34) (i : Nat) (x : S34) : S34 := if x.f0 = 15 ∧ (l.getD (i + 1) z34).f0 = 16 then { x with f0 := 14 } else x
def jH (l : List S34) : List S34 := l.mapIdx (tailAt l)
theorem qP (l : List S34) : (jH l).length = l.length := by simp [jH]
theorem tailF_get (l : List S34) (i : Nat) (h : i < l.length) : (jH l)[i]? = some (tailAt l i l[i]) := by simp [jH, List.getElem?_eq_getElem h]
theorem on15 : hasB 15 64 = true := by decide +kernel
theorem tails_loop (l : List S34) (R : xl l) (d : Nat) : ∀ i : Nat, i + d = l.length → Ev (fun k => qH.l0 k l (mix (jH l) l i) l (l.length : Int) (i : Int)) (jH l) := by
  have hl := R.len
  induction d with
  | zero =>
    intro i hi
    refine zy (fun k => qH.l0.eq_2 _ _ _ _ _ _) ?_
    refine ze (by omega) ?_
    obtain rfl : i = l.length := by omega
    rw [mix_full (qP l)]
    exact zm
  | succ d ih =>
    intro i hi
    have hil : i < l.length := by omega
    have hw := qE (i := i) (by omega)
    have hrd := rd34 l i hil
    have hT := tailF_get l i hil
    have hn := ih (i + 1) (by omega)
    refine zy (fun k => qH.l0.eq_2 _ _ _ _ _ _) ?_
    refine zd (by omega) (zd (by omega) (zd (by omega) ?_))
    rw [hrd, hw, rdm _ _ _ (qP l) hil]
    by_cases h15 : l[i].f0 = 15
    · have hi1 : i + 1 < l.length := by
        rcases Nat.lt_or_ge (i + 1) l.length with h | h
        · exact h
        · exfalso
          have := R.last (by omega)
          have hq : l.length - 1 = i := by omega
          simp only [hq, h15, on15] at this
          cases this
      have hrd1 := rd34 l (i + 1) hi1
      refine zd h15 (zd (by omega) (zd (by omega) ?_))
      rw [hrd1]
      have hg : l.getD (i + 1) z34 = l[i + 1] := by simp [List.getD_eq_getElem?_getD, List.getElem?_eq_getElem hi1]
      by_cases h16 : l[i + 1].f0 = 16
      · refine zd h16 (zd (by rw [ja (qP l) (by omega)]; omega) ?_)
        have ht : (jH l)[i]? = some (⟨14, l[i].f1, l[i].f2, l[i].f3, l[i].f4, ⟨l[i].f5.f0, l[i].f5.f1, l[i].f5.f2, l[i].f5.f3⟩⟩ : S34) := by
          rw [hT]; unfold tailAt; rw [if_pos ⟨h15, by rw [hg]; exact h16⟩]
        rw [Int.toNat_natCast, jy (qP l) hil _ ht]
        exact hn
      · refine ze h16 ?_
        rw [mix_same (qP l) hil (by rw [hT]; unfold tailAt; rw [if_neg (by rw [hg]; exact fun h => h16 h.2)])]
        exact hn
    · refine ze h15 ?_
      rw [mix_same (qP l) hil (by rw [hT]; unfold tailAt; rw [if_neg (fun h => h15 h.1)])]
      exact hn
theorem tails_ev (l : List S34) (R : xl l) : Ev (fun k => qH.f k l) (jH l) := by
  unfold qH.f
  refine zA (clone_ev l R.len) ?_
  have := tails_loop l R l.length 0 (by omega)
  rwa [mix_zero] at this
theorem goes_ev (op : Int) (h0 : 1 ≤ op) (h1 : op ≤ 20) : jk.f op = some (hasB op 32) := by
  have h : ∀ i : Fin 21, 1 ≤ i.val → jk.f (i.val : Int) = some (hasB (i.val : Int) 32) := by decide +kernel
  have := h ⟨op.toNat, by omega⟩ (by simp; omega)
  rwa [Int.toNat_of_nonneg (by omega)] at this
theorem jump14 : hasB 14 32 = true := by decide +kernel
def tgt (l : List S34) (i : Nat) : Nat := ((i : Int) + (l.getD i z34).f1).toNat
def chain (l : List S34) : Nat → Nat → Option Nat
  | 0, i => if (l.getD i z34).f0 = 14 then none else some i
  | m + 1, i => if (l.getD i z34).f0 = 14 then chain l m (tgt l i) else some i
theorem xu (l : List S34) (i : Nat) (h : i < l.length) : l.getD i z34 = l[i] := by simp [List.getD_eq_getElem?_getD, List.getElem?_eq_getElem h]
theorem ju {l : List S34} (R : xl l) (i : Nat) (h : i < l.length) (hg : hasB l[i].f0 32 = true) : tgt l i < l.length ∧ ((tgt l i : Nat) : Int) = (i : Int) + l[i].f1 := by
  have := R.goes i h hg
  unfold tgt
  rw [xu l i h]
  omega
theorem chain_lt {l : List S34} (R : xl l) : ∀ (m i t : Nat), i < l.length → chain l m i = some t → t < l.length ∧ (l.getD t z34).f0 ≠ 14 := by
  intro m
  induction m with
  | zero =>
    intro i t hi h
    unfold chain at h
    split at h
    · cases h
    · rename_i h14; cases h; exact ⟨hi, h14⟩
  | succ m ih =>
    intro i t hi h
    unfold chain at h
    split at h
    · rename_i h14
      rw [xu l i hi] at h14
      exact ih _ _ (ju R i hi (by rw [h14]; exact jump14)).1 h
    · rename_i h14; cases h; exact ⟨hi, h14⟩
def endR : Option Nat → Int × Bool
  | some t => ((t : Int), true)
  | none => (0, false)
theorem end_loop (l : List S34) (R : xl l) (m : Nat) : ∀ (i s : Nat), i < l.length → s + m = l.length + 1 → Ev (fun k => xz.l0 k l (i : Int) (s : Int)) (endR (chain l m i)) := by
  have hl := R.len
  induction m with
  | zero =>
    intro i s hi hs
    refine zy (fun k => xz.l0.eq_2 _ _ _ _) ?_
    refine zd (by omega) (zd (by omega) ?_)
    rw [rd34 l i hi]
    unfold chain
    rw [xu l i hi]
    by_cases h : l[i].f0 = 14
    · rw [if_pos h]
      exact zd h (zd (by omega) zm)
    · rw [if_neg h]
      exact ze h zm
  | succ m ih =>
    intro i s hi hs
    refine zy (fun k => xz.l0.eq_2 _ _ _ _) ?_
    refine zd (by omega) (zd (by omega) ?_)
    rw [rd34 l i hi]
    unfold chain
    rw [xu l i hi]
    by_cases h : l[i].f0 = 14
    · rw [if_pos h]
      have ht := ju R i hi (by rw [h]; exact jump14)
      refine zd h (ze (by omega) ?_)
      rw [qE (i := s) (by omega), xh (x := (i : Int) + l[i].f1) (by omega) (by omega), ← ht.2]
      exact ih _ _ ht.1 (by omega)
    · rw [if_neg h]
      exact ze h zm
def endOf (l : List S34) (i : Nat) : Option Nat := chain l (l.length + 1) (tgt l i)
theorem end_ev (l : List S34) (R : xl l) (i : Nat) (hi : i < l.length) (hg : hasB l[i].f0 32 = true) : Ev (fun k => xz.f k l (i : Int)) (endR (endOf l i)) := by
  have hl := R.len
  have ht := ju R i hi hg
  unfold xz.f
  refine zd (by omega) (zd (by omega) ?_)
  rw [rd34 l i hi, xh (x := (i : Int) + l[i].f1) (by omega) (by omega), ← ht.2]
  exact end_loop l R (l.length + 1) _ 0 ht.1 (by omega)
def stops (op : Int) : Bool := op == 16 || (op == 17 || (op == 13 || op == 12))
def xL (l : List S34) (i : Nat) (x : S34) : S34 :=
  if hasB x.f0 32 = true then match endOf l i with
    | some t => if stops (l.getD t z34).f0 = true ∧ x.f0 = 14 then l.getD t z34 else { x with f1 := (t : Int) - (i : Int) }
    | none => x
  else x
def zT (l : List S34) : List S34 := l.mapIdx (xL l)
theorem qp (l : List S34) : (zT l).length = l.length := by simp [zT]
theorem threadF_get (l : List S34) (i : Nat) (h : i < l.length) : (zT l)[i]? = some (xL l i l[i]) := by simp [zT, List.getElem?_eq_getElem h]
theorem threads_loop (l : List S34) (R : xl l) (d : Nat) : ∀ i : Nat, i + d = l.length → Ev (fun k => zY.l0 k l (mix (zT l) l i) l (l.length : Int) (i : Int)) (zT l) := by
  have hl := R.len
  induction d with
  | zero =>
    intro i hi
    refine zy (fun k => zY.l0.eq_2 _ _ _ _ _ _) ?_
    refine ze (by omega) ?_
    obtain rfl : i = l.length := by omega
    rw [mix_full (qp l)]
    exact zm
  | succ d ih =>
    intro i hi
    have hil : i < l.length := by omega
    have hw := qE (i := i) (by omega)
    have hT := threadF_get l i hil
    have hn := ih (i + 1) (by omega)
    have hop := R.op i hil
    have hge := goes_ev l[i].f0 hop.1 hop.2
    refine zy (fun k => zY.l0.eq_2 _ _ _ _ _ _) ?_
    refine zd (by omega) (zd (by omega) (zd (by omega) ?_))
    rw [rd34 l i hil, hw, rdm _ _ _ (qp l) hil]
    refine zA hge ?_
    cases hg : hasB l[i].f0 32 with
    | false =>
      refine ze (by decide) ?_
      rw [mix_same (qp l) hil (by rw [hT]; unfold xL; rw [hg]; rfl)]
      exact hn
    | true =>
      refine zd rfl ?_
      have hend := end_ev l R i hil hg
      cases he : endOf l i with
      | none =>
        rw [he] at hend
        refine zs (y := (0, false)) hend ?_
        refine ze (by decide) ?_
        rw [mix_same (qp l) hil (by rw [hT]; unfold xL; rw [hg, he]; rfl)]
        exact hn
      | some t =>
        obtain ⟨ht, ht14⟩ := chain_lt R _ _ t (ju R i hil hg).1 he
        have htg := xu l t ht
        rw [he] at hend
        refine zs (y := ((t : Int), true)) hend ?_
        refine zd rfl ?_
        have hml := ja (qp l) (Nat.le_of_lt hil)
        refine zd (by rw [hml]; omega) ?_
        have hwt : wrap64 ((t : Int) - (i : Int)) = (t : Int) - (i : Int) := xh (by omega) (by omega)
        rw [hwt, Int.toNat_natCast]
        refine zA rfl ?_
        have j1 : ∀ b : Bool, b = stops l[t].f0 → Ev (fun k => zY.j1 k l ((mix (zT l) l i).set i (⟨l[i].f0, (t : Int) - (i : Int), l[i].f2, l[i].f3, l[i].f4, ⟨l[i].f5.f0, l[i].f5.f1, l[i].f5.f2, l[i].f5.f3⟩⟩ : S34)) (i : Int) (t : Int) l (l.length : Int) (i : Int) b l[i].f0 l[i].f1 l[i].f2 l[i].f3 l[i].f4 l[i].f5.f0 l[i].f5.f1 l[i].f5.f2 l[i].f5.f3) (zT l) := by
          intro b hb
          refine zy (fun k => zY.j1.eq_2 _ _ _ _ _ _ _ _ _ _ _ _ _ _ _ _ _ _) ?_
          rw [hw]
          cases b with
          | false =>
            refine ze (by decide) ?_
            rw [jy (qp l) hil _ (by rw [hT]; unfold xL; rw [hg, he]; simp only [if_true]; rw [htg, ← hb, if_neg (fun h => by cases h.1)])]
            exact hn
          | true =>
            refine zd rfl ?_
            by_cases h14 : l[i].f0 = 14
            · refine zd h14 (zd (by omega) (zd (by omega) (zd (by omega) (zd (by rw [List.length_set, hml]; omega) ?_))))
              rw [rd34 l t ht, Int.toNat_natCast, eta34, List.set_set, jy (qp l) hil _ (by rw [hT]; unfold xL; rw [hg, he]; simp only [if_true]; rw [htg, ← hb, if_pos ⟨rfl, h14⟩])]
              exact hn
            · refine ze h14 ?_
              rw [jy (qp l) hil _ (by rw [hT]; unfold xL; rw [hg, he]; simp only [if_true]; rw [htg, if_neg (fun h => h14 h.2)])]
              exact hn
        refine zd (by show 0 ≤ (t : Int); omega) (zd (by show (t : Int) < (l.length : Int); omega) ?_)
        rw [rd34 l t ht]
        by_cases h16 : l[t].f0 = 16
        · exact zd h16 (j1 _ (by unfold stops; rw [h16]; rfl))
        · refine ze h16 ?_
          by_cases h17 : l[t].f0 = 17
          · exact zd h17 (j1 _ (by unfold stops; rw [h17]; rfl))
          · refine ze h17 ?_
            by_cases h13 : l[t].f0 = 13
            · exact zd h13 (j1 _ (by unfold stops; rw [h13]; rfl))
            · refine ze h13 (j1 _ ?_)
              unfold stops
              rw [show (l[t].f0 == 16) = false by simpa using h16, show (l[t].f0 == 17) = false by simpa using h17, show (l[t].f0 == 13) = false by simpa using h13]
              rfl
theorem threads_ev (l : List S34) (R : xl l) : Ev (fun k => zY.f k l) (zT l) := by
  unfold zY.f
  refine zA (clone_ev l R.len) ?_
  have := threads_loop l R l.length 0 (by omega)
  rwa [mix_zero] at this
theorem len_total (a : Int) (h0 : 0 ≤ a) (h1 : a < 256) : ∃ r, Ev (fun k => bits_Len.f k a) r := by
  unfold bits_Len.f xw.f
  have h : ∃ r, Ev (fun k => xw.j0 k a 0) r := ⟨_, zy (fun k => xw.j0.eq_2 _ _ _) (ze (by omega) (ze (by omega) (zd (by omega) (zd (by omega) zm))))⟩
  obtain ⟨r, hr⟩ := h
  exact ⟨r, zs (ze (by omega) hr) zm⟩
theorem less_ev (a b : Int) : jm.f a b = some (decide (a < b)) := by
  unfold jm.f xt.f
  simp
def sort2 : List Int → List Int
  | [a, b] => if b < a then [b, a] else [a, b]
  | l => l
theorem ins_done (l : List Int) (n x : Int) (h : ¬ x < n) : Ev (fun k => zg.l0 k l 0 n x) l := by
  refine zy (fun k => zg.l0.eq_2 _ _ _ _ _) ?_
  exact ze h zm
theorem ins_ev (l : List Int) (h : l.length ≤ 2) : Ev (fun k => zg.f k l 0 (l.length : Int)) (sort2 l) := by
  unfold zg.f
  rw [w01]
  match l, h with
  | [], _ => exact ins_done [] _ _ (by decide)
  | [a], _ => exact ins_done [a] _ _ (by simp)
  | [a, b], _ =>
    refine zy (fun k => zg.l0.eq_2 _ _ _ _ _) ?_
    refine zd (by simp) ?_
    refine zy (fun k => zg.l1.eq_2 _ _ _ _ _ _) ?_
    rw [w1m]
    refine zd (by decide) (zd (by decide) (zd (by simp) (zd (by decide) (zd (by simp) ?_))))
    refine zA (less_ev _ _) ?_
    have h1 : rd [a, b] 1 = b := rfl
    have h0 : rd [a, b] 0 = a := rfl
    rw [h1, h0]
    by_cases hab : b < a
    · refine zd (by simpa using hab) ?_
      have hs : (([a, b].set (1 : Int).toNat a).set (0 : Int).toNat b) = [b, a] := rfl
      rw [hs]
      have e : sort2 [a, b] = [b, a] := by simp [sort2, hab]
      rw [e]
      refine zy (fun k => zg.l1.eq_2 _ _ _ _ _ _) ?_
      refine ze (by decide) ?_
      rw [w11]
      exact ins_done _ _ _ (by simp)
    · refine ze (by simpa using hab) ?_
      have e : sort2 [a, b] = [a, b] := by simp [sort2, hab]
      rw [e, w11]
      exact ins_done _ _ _ (by simp)
theorem sort_ev (l : List Int) (h : l.length ≤ 2) : Ev (fun k => qw.f k l) (sort2 l) := by
  unfold qw.f
  have hw : IntKind.u64.wrap (l.length : Int) = (l.length : Int) := by
    simp [IntKind.wrap, IntKind.bits, IntKind.signed]
    omega
  rw [hw]
  obtain ⟨r, hr⟩ := len_total (l.length : Int) (by omega) (by omega)
  refine zs hr (zs (y := sort2 l) ?_ zm)
  refine zy (fun k => z7.f.eq_2 _ _ _ _ _) ?_
  refine zy (fun k => z7.l0.eq_2 _ _ _ _ _ _) ?_
  rw [xh (x := (l.length : Int) - 0) (by omega) (by omega)]
  refine zd (by omega) (zs (ins_ev l h) zm)
theorem sort2_mem (l : List Int) (x : Int) : x ∈ sort2 l ↔ x ∈ l := by
  match l with
  | [] => rfl
  | [a] => rfl
  | [a, b] =>
    show (x ∈ if b < a then [b, a] else [a, b]) ↔ _
    split
    · simp; exact Or.comm
    · rfl
  | a :: b :: c :: r => rfl
theorem sort2_length (l : List Int) : (sort2 l).length = l.length := by
  match l with
  | [] => rfl
  | [a] => rfl
  | [a, b] =>
    show (if b < a then [b, a] else [a, b]).length = _
    split <;> rfl
  | a :: b :: c :: r => rfl
def xK (l : List S34) (i : Nat) : List Int := (if hasB (l.getD i z34).f0 64 = true then [((i + 1 : Nat) : Int)] else []) ++ (if hasB (l.getD i z34).f0 32 = true ∧ ¬ (hasB (l.getD i z34).f0 64 = true ∧ (l.getD i z34).f1 = 1) then [((tgt l i : Nat) : Int)] else [])
theorem nexts_length (l : List S34) (i : Nat) : (xK l i).length ≤ 2 := by
  unfold xK
  split <;> split <;> simp
theorem next_on {l : List S34} (R : xl l) (i : Nat) (h : i < l.length) (ho : hasB l[i].f0 64 = true) : i + 1 < l.length := by
  rcases Nat.lt_or_ge (i + 1) l.length with h1 | h1
  · exact h1
  · exfalso
    have := R.last (by omega)
    have hq : l.length - 1 = i := by omega
    simp only [hq, ho] at this
    cases this
theorem nexts_lt {l : List S34} (R : xl l) (i : Nat) (h : i < l.length) : ∀ x ∈ xK l i, ∃ j : Nat, x = (j : Int) ∧ j < l.length := by
  intro x hx
  unfold xK at hx
  rw [xu l i h] at hx
  rcases List.mem_append.1 hx with hx | hx
  · split at hx
    · rename_i ho
      simp only [List.mem_singleton] at hx
      exact ⟨i + 1, hx, next_on R i h ho⟩
    · cases hx
  · split at hx
    · rename_i ho
      simp only [List.mem_singleton] at hx
      exact ⟨_, hx, (ju R i h ho.1).1⟩
    · cases hx
theorem iGoes_ev (l : List S34) (R : xl l) (i : Nat) (hi : i < l.length) : Ev (fun k => xg.f k l (i : Int)) (sort2 (xK l i)) := by
  have hl := R.len
  have hop := R.op i hi
  have h64 := has_ev l[i].f0 64 (by omega) (by omega)
  have h32 := has_ev l[i].f0 32 (by omega) (by omega)
  have hw := qE (i := i) (by omega)
  have hnl := nexts_length l i
  have j0 : ∀ xs : List Int, xs = (if hasB l[i].f0 64 = true then [((i + 1 : Nat) : Int)] else []) → Ev (fun k => xg.j0 k (i : Int) xs l[i].f0 l[i].f1 l[i].f2 l[i].f3 l[i].f4 l[i].f5.f0 l[i].f5.f1 l[i].f5.f2 l[i].f5.f3) (sort2 (xK l i)) := by
    intro xs hxs
    have hxl : xs.length ≤ 1 := by rw [hxs]; split <;> simp
    refine zy (fun k => xg.j0.eq_2 _ _ _ _ _ _ _ _ _ _ _ _) ?_
    refine zA h32 ?_
    cases hg : hasB l[i].f0 32 with
    | false =>
      have e : xK l i = xs := by unfold xK; rw [xu l i hi, hg, hxs]; simp
      refine ze (by decide) (zs (y := sort2 (xK l i)) ?_ zm)
      rw [e]
      exact sort_ev xs (by omega)
    | true =>
      have ht := ju R i hi hg
      refine zd rfl (zA h64 ?_)
      have hwt : wrap64 ((i : Int) + l[i].f1) = ((tgt l i : Nat) : Int) := by rw [xh (by omega) (by omega), ht.2]
      cases ho : hasB l[i].f0 64 with
      | false =>
        have e : xK l i = xs ++ [((tgt l i : Nat) : Int)] := by unfold xK; rw [xu l i hi, hg, ho, hxs, ho]; simp
        refine ze (by decide) (zd (by omega) (zs (y := sort2 (xK l i)) ?_ zm))
        rw [hwt, e]
        exact sort_ev _ (by simp; omega)
      | true =>
        refine zd rfl ?_
        by_cases h1 : l[i].f1 = 1
        · have e : xK l i = xs := by unfold xK; rw [xu l i hi, hg, ho, hxs, ho, h1]; simp
          refine zd h1 (zs (y := sort2 (xK l i)) ?_ zm)
          rw [e]
          exact sort_ev xs (by omega)
        · have e : xK l i = xs ++ [((tgt l i : Nat) : Int)] := by unfold xK; rw [xu l i hi, hg, ho, hxs, ho]; simp [h1]
          refine ze h1 (zd (by omega) (zs (y := sort2 (xK l i)) ?_ zm))
          rw [hwt, e]
          exact sort_ev _ (by simp; omega)
  unfold xg.f
  refine zd (by omega) (zd (by omega) ?_)
  rw [rd34 l i hi, hw]
  refine zA h64 ?_
  cases ho : hasB l[i].f0 64 with
  | false => exact ze (by decide) (j0 [] (by rw [ho]; rfl))
  | true => exact zd rfl (zd (by decide) (j0 _ (by rw [ho]; rfl)))
theorem rdBool (l : List Bool) (i : Nat) : rdOf false l (i : Int) = l.getD i false := by simp [rdOf]
def lack (out : List Bool) : Nat := (out.filter (fun b => !b)).length
theorem lack_set (out : List Bool) : ∀ (i : Nat), out.getD i true = false → i < out.length → lack (out.set i true) + 1 = lack out := by
  induction out with
  | nil => intro i _ h; simp at h
  | cons b r ih =>
    intro i hb hi
    cases i with
    | zero =>
      simp at hb
      subst hb
      simp [lack]
    | succ i =>
      have := ih i (by simpa using hb) (by simpa using hi)
      unfold lack at this ⊢
      cases b <;> simp at this ⊢ <;> omega
theorem live_loop (l : List S34) (R : xl l) (I : List Bool → List Int → Prop)
    (hpop : ∀ out w (i : Nat), I out (w ++ [(i : Int)]) → i < l.length → out.getD i false = true → I out w)
    (hmark : ∀ out w (i : Nat), I out (w ++ [(i : Int)]) → i < l.length → out.length = l.length → out.getD i false = false → I (out.set i true) (w ++ sort2 (xK l i))) (m : Nat) :
    ∀ (out : List Bool) (w : List Int), out.length = l.length → (∀ x ∈ w, ∃ j : Nat, x = (j : Int) ∧ j < l.length) → 3 * lack out + w.length ≤ m → w.length ≤ 100000 - 3 * lack out → lack out ≤ 8192 → I out w →
    ∃ out' : List Bool, Ev (fun k => qt.l0 k l out w) (out', 0) ∧ out'.length = l.length ∧ I out' [] := by
  have hl := R.len
  induction m with
  | zero =>
    intro out w ho hw hm _ _ hI
    have : w = [] := List.eq_nil_of_length_eq_zero (by omega)
    subst this
    refine ⟨out, zy (fun k => qt.l0.eq_2 _ _ _ _) ?_, ho, hI⟩
    exact ze (by simp) zm
  | succ m ih =>
    intro out w ho hw hm hb hlk hI
    rcases List.eq_nil_or_concat w with rfl | ⟨w', x, rfl⟩
    · refine ⟨out, zy (fun k => qt.l0.eq_2 _ _ _ _) ?_, ho, hI⟩
      exact ze (by simp) zm
    · rw [List.concat_eq_append] at *
      obtain ⟨i, rfl, hi⟩ := hw x (by simp)
      have hlen : ((w' ++ [(i : Int)]).length : Int) = (w'.length : Int) + 1 := by simp
      have hbw : w'.length + 1 ≤ 100000 := by simp at hb; omega
      have hwl : wrap64 (((w' ++ [(i : Int)]).length : Int) - 1) = (w'.length : Int) := by rw [hlen, xh (by omega) (by omega)]; omega
      have hrd : rd (w' ++ [(i : Int)]) (w'.length : Int) = (i : Int) := by simp [rd, List.getD_eq_getElem?_getD]
      have htk : (w' ++ [(i : Int)]).take w'.length = w' := by simp
      have pre : ∀ r, Ev (fun k => if rdOf false out (i : Int) = true then qt.l0 k l out w' else (xg.f k l (i : Int)).bind fun t => if w'.length + t.length < 17592186044416 then qt.l0 k l (out.set i true) (w' ++ t) else none) r → Ev (fun k => qt.l0 k l out (w' ++ [(i : Int)])) r := by
        intro r h
        refine zy (fun k => qt.l0.eq_2 _ _ _ _) ?_
        rw [hwl, hrd, Int.toNat_natCast, htk]
        refine zd (by omega) (zd (by omega) (zd (by omega) (zd (by omega) ?_)))
        refine zA rfl ?_
        exact zd (by omega) (zd (by omega) h)
      cases hout : out.getD i false with
      | true =>
        obtain ⟨out', h1, h2, h3⟩ := ih out w' ho (fun x hx => hw x (List.mem_append_left _ hx)) (by simp at hm; omega) (by simp at hb; omega) hlk (hpop out w' i hI hi hout)
        exact ⟨out', pre _ (zd (by rw [rdBool]; exact hout) h1), h2, h3⟩
      | false =>
        have hls := lack_set out i (by
          have : i < out.length := by omega
          simp [List.getD_eq_getElem?_getD, List.getElem?_eq_getElem this] at hout ⊢
          exact hout) (by omega)
        have hsl := sort2_length (xK l i)
        have hnl := nexts_length l i
        obtain ⟨out', h1, h2, h3⟩ := ih (out.set i true) (w' ++ sort2 (xK l i)) (by simpa using ho) (fun x hx => by
            rcases List.mem_append.1 hx with hx | hx
            · exact hw x (List.mem_append_left _ hx)
            · exact nexts_lt R i hi x ((sort2_mem _ _).1 hx)) (by simp at hm ⊢; omega) (by simp at hb ⊢; omega) (by omega) (hmark out w' i hI hi ho hout)
        exact ⟨out', pre _ (ze (by rw [rdBool, hout]; decide) (zs (iGoes_ev l R i hi) (zd (by omega) h1))), h2, h3⟩
theorem live_ev (l : List S34) (R : xl l) (hc : Ev (fun k => zC.f k l) (0, 0)) (I : List Bool → List Int → Prop)
    (hpop : ∀ out w (i : Nat), I out (w ++ [(i : Int)]) → i < l.length → out.getD i false = true → I out w)
    (hmark : ∀ out w (i : Nat), I out (w ++ [(i : Int)]) → i < l.length → out.length = l.length → out.getD i false = false → I (out.set i true) (w ++ sort2 (xK l i)))
    (h0 : I (List.replicate l.length false) [0]) :
    ∃ out : List Bool, Ev (fun k => qt.f k l) (out, 0) ∧ out.length = l.length ∧ I out [] := by
  have hl := R.len
  have hlk : lack (List.replicate l.length false) = l.length := by simp [lack]
  obtain ⟨out, h1, h2, h3⟩ := live_loop l R I hpop hmark _ (List.replicate l.length false) [0] (by simp) (fun x hx => ⟨0, by simpa using hx, R.pos⟩) (Nat.le_refl _) (by rw [hlk]; simp; omega) (by omega) h0
  refine ⟨out, ?_, h2, h3⟩
  unfold qt.f
  refine zs hc (zd rfl (zd (by omega) (zd (by omega) ?_)))
  rw [Int.toNat_natCast]
  exact h1
def kept (g : List Bool) (i : Nat) : Nat := ((g.take i).filter (fun b => !b)).length
theorem kept_zero (g : List Bool) : kept g 0 = 0 := by simp [kept]
theorem kept_succ (g : List Bool) (i : Nat) (h : i < g.length) : kept g (i + 1) = kept g i + if g.getD i false = true then 0 else 1 := by
  unfold kept
  rw [List.take_succ_eq_append_getElem h, List.filter_append, List.length_append]
  have e : g.getD i false = g[i] := by simp [List.getD_eq_getElem?_getD, List.getElem?_eq_getElem h]
  rw [e]
  cases g[i] <;> simp
theorem jE (g : List Bool) (i : Nat) : kept g i ≤ i := by
  unfold kept
  have h1 := List.length_filter_le (fun b => !b) (g.take i)
  have h2 : (g.take i).length ≤ i := List.length_take_le _ _
  omega
theorem kept_mono (g : List Bool) (i j : Nat) (h : i ≤ j) : kept g i ≤ kept g j := by
  unfold kept
  have e : g.take i = (g.take j).take i := by rw [List.take_take, Nat.min_eq_left h]
  rw [e]
  exact (List.Sublist.filter _ (List.take_sublist _ _)).length_le
def jJ (l : List S34) (g : List Bool) (i : Nat) (x : S34) : S34 := if hasB x.f0 32 = true then { x with f1 := (kept g (tgt l i) : Int) - (kept g i : Int) } else x
def restAt (l : List S34) (g : List Bool) (i : Nat) : Option S34 := if g.getD i false = true then none else some (jJ l g i (l.getD i z34))
def restTo (l : List S34) (g : List Bool) (i : Nat) : List S34 := (List.range i).filterMap (restAt l g)
def rest (l : List S34) (g : List Bool) : List S34 := restTo l g l.length
theorem restTo_succ (l : List S34) (g : List Bool) (i : Nat) : restTo l g (i + 1) = restTo l g i ++ (restAt l g i).toList := by
  unfold restTo
  rw [List.range_succ, List.filterMap_append]
  congr 1
theorem restTo_length_le (l : List S34) (g : List Bool) (i : Nat) : (restTo l g i).length ≤ i := by
  unfold restTo
  have := List.length_filterMap_le (restAt l g) (List.range i)
  simpa using this
theorem restTo_length (l : List S34) (g : List Bool) (i : Nat) (h : i ≤ g.length) : (restTo l g i).length = kept g i := by
  induction i with
  | zero => simp [restTo, kept]
  | succ i ih =>
    rw [restTo_succ, List.length_append, ih (by omega), kept_succ g i (by omega)]
    unfold restAt
    split <;> simp
def Cnt (g : List Bool) (b : List Int) (n i : Nat) : Prop := b.length = n + 1 ∧ ∀ j : Nat, j ≤ i → rd b (j : Int) = (kept g j : Int)
theorem jO (b : List Int) (i : Nat) (v : Int) (h : i < b.length) : rd (b.set i v) (i : Int) = v := by simp [rd, List.getD_eq_getElem?_getD, h]
theorem rd_set_ne (b : List Int) (i j : Nat) (v : Int) (h : j ≠ i) : rd (b.set i v) (j : Int) = rd b (j : Int) := by
  simp only [rd, Int.toNat_natCast, List.getD_eq_getElem?_getD]
  rw [List.getElem?_set_ne (fun e => h e.symm)]
theorem without_l1 (l : List S34) (R : xl l) (g : List Bool) (hg : g.length = l.length) (b : List Int) (hb : Cnt g b l.length l.length) (d : Nat) : ∀ i : Nat, i + d = l.length →
    Ev (fun k => zP.l1 k g b (restTo l g i) l (l.length : Int) (i : Int)) (rest l g) := by
  have hl := R.len
  induction d with
  | zero =>
    intro i hi
    refine zy (fun k => zP.l1.eq_2 _ _ _ _ _ _ _) ?_
    refine ze (by omega) ?_
    obtain rfl : i = l.length := by omega
    exact zm
  | succ d ih =>
    intro i hi
    have hil : i < l.length := by omega
    have hw := qE (i := i) (by omega)
    have hop := R.op i hil
    have hge := goes_ev l[i].f0 hop.1 hop.2
    have hn := ih (i + 1) (by omega)
    have hrl := restTo_length_le l g i
    rw [restTo_succ] at hn
    refine zy (fun k => zP.l1.eq_2 _ _ _ _ _ _ _) ?_
    refine zd (by omega) (zd (by omega) (zd (by omega) (zd (by omega) ?_)))
    rw [rdBool, rd34 l i hil, hw]
    cases hgi : g.getD i false with
    | true =>
      have e : restAt l g i = none := by unfold restAt; rw [hgi]; rfl
      rw [e] at hn
      simp only [Option.toList_none, List.append_nil] at hn
      exact zd rfl hn
    | false =>
      have e : restAt l g i = some (jJ l g i l[i]) := by unfold restAt; rw [hgi, xu l i hil]; rfl
      rw [e] at hn
      simp only [Option.toList_some] at hn
      refine ze (by decide) (zA hge ?_)
      cases ho : hasB l[i].f0 32 with
      | true =>
        have ht := ju R i hil ho
        refine zd rfl ?_
        have hwt : wrap64 ((i : Int) + l[i].f1) = ((tgt l i : Nat) : Int) := by rw [xh (by omega) (by omega), ht.2]
        have k1 := jE g (tgt l i)
        have k2 := jE g i
        rw [hwt, hb.2 _ (by omega), hb.2 _ (by omega), xh (x := (kept g (tgt l i) : Int) - (kept g i : Int)) (by omega) (by omega)]
        have hbl := hb.1
        refine zd (by omega) (zd (by omega) (zd (by omega) (zd (by omega) ?_)))
        have em : jJ l g i l[i] = (⟨l[i].f0, (kept g (tgt l i) : Int) - (kept g i : Int), l[i].f2, l[i].f3, l[i].f4, ⟨l[i].f5.f0, l[i].f5.f1, l[i].f5.f2, l[i].f5.f3⟩⟩ : S34) := by unfold jJ; rw [ho]; rfl
        rw [← em]
        exact hn
      | false =>
        refine ze (by decide) (zd (by omega) ?_)
        have em : jJ l g i l[i] = l[i] := by unfold jJ; rw [ho]; rfl
        rw [eta34, ← em]
        rw [em]
        rw [em] at hn
        exact hn
theorem without_l0 (l : List S34) (R : xl l) (g : List Bool) (hg : g.length = l.length) (d : Nat) : ∀ (i : Nat) (b : List Int), i + d = l.length → Cnt g b l.length i →
    Ev (fun k => zP.l0 k l g b (l.length : Int) (i : Int)) (rest l g) := by
  have hl := R.len
  induction d with
  | zero =>
    intro i b hi hb
    obtain rfl : i = l.length := by omega
    have hk := jE g l.length
    have hbl := hb.1
    refine zy (fun k => zP.l0.eq_2 _ _ _ _ _ _) ?_
    refine ze (by omega) ?_
    rw [hb.2 _ (Nat.le_refl _)]
    refine zd (by omega) (zd (by omega) (zd (by omega) (zd (by omega) ?_)))
    have := without_l1 l R g hg b hb l.length 0 (by omega)
    exact this
  | succ d ih =>
    intro i b hi hb
    have hil : i < l.length := by omega
    have hw := qE (i := i) (by omega)
    have hbl := hb.1
    have hk := jE g i
    refine zy (fun k => zP.l0.eq_2 _ _ _ _ _ _) ?_
    rw [hw]
    refine zd (by omega) (zd (by omega) (zd (by omega) (zd (by omega) (zd (by omega) ?_))))
    refine zA rfl (zd (by omega) ?_)
    rw [rdBool, Int.toNat_natCast, hb.2 i (Nat.le_refl _), jO _ _ _ (by omega)]
    have hks := kept_succ g i (by omega)
    cases hgi : g.getD i false with
    | true =>
      rw [hgi] at hks
      refine zd rfl (ih (i + 1) _ (by omega) ⟨by simpa using hbl, fun j hj => ?_⟩)
      by_cases e : j = i + 1
      · subst e
        rw [jO _ _ _ (by omega), hks]
        simp
      · rw [rd_set_ne _ _ _ _ e]
        exact hb.2 j (by omega)
    | false =>
      rw [hgi] at hks
      rw [xh (x := (kept g i : Int) + 1) (by omega) (by omega), List.set_set]
      refine ze (by decide) (ih (i + 1) _ (by omega) ⟨by simpa using hbl, fun j hj => ?_⟩)
      by_cases e : j = i + 1
      · subst e
        rw [jO _ _ _ (by omega), hks]
        simp
      · rw [rd_set_ne _ _ _ _ e]
        exact hb.2 j (by omega)
theorem without_ev (l : List S34) (R : xl l) (g : List Bool) (hg : g.length = l.length) : Ev (fun k => zP.f k l g) (rest l g) := by
  have hl := R.len
  unfold zP.f
  rw [qE (i := l.length) (by omega), Int.toNat_natCast]
  refine zd (by omega) (zd (by omega) ?_)
  refine without_l0 l R g hg l.length 0 _ (by omega) ⟨by simp, fun j hj => ?_⟩
  obtain rfl : j = 0 := by omega
  simp [rd, kept, List.getD_eq_getElem?_getD]
def hopG (l : List S34) : List Bool := l.map fun x => decide (x.f0 = 14) && x.f1 == 1
theorem jM (l : List S34) : (hopG l).length = l.length := by simp [hopG]
theorem hopG_get (l : List S34) (i : Nat) (h : i < l.length) : (hopG l)[i]? = some (decide (l[i].f0 = 14) && l[i].f1 == 1) := by simp [hopG, List.getElem?_eq_getElem h]
theorem hops_loop (l : List S34) (R : xl l) (d : Nat) : ∀ i : Nat, i + d = l.length → Ev (fun k => qR.l0 k l (mix (hopG l) (List.replicate l.length false) i) l (l.length : Int) (i : Int)) (rest l (hopG l)) := by
  have hl := R.len
  have hrep : (hopG l).length = (List.replicate l.length false).length := by simp [hopG]
  induction d with
  | zero =>
    intro i hi
    obtain rfl : i = l.length := by omega
    refine zy (fun k => qR.l0.eq_2 _ _ _ _ _ _) ?_
    refine ze (by omega) ?_
    have e : mix (hopG l) (List.replicate l.length false) l.length = hopG l := by have := mix_full hrep; simpa using this
    rw [e]
    exact zs (without_ev l R (hopG l) (jM l)) zm
  | succ d ih =>
    intro i hi
    have hil : i < l.length := by omega
    have hir : i < (List.replicate l.length false).length := by simpa using hil
    have hw := qE (i := i) (by omega)
    have hT := hopG_get l i hil
    have hn := ih (i + 1) (by omega)
    have hml : (mix (hopG l) (List.replicate l.length false) i).length = l.length := by rw [ja hrep (by simp; omega)]; simp
    refine zy (fun k => qR.l0.eq_2 _ _ _ _ _ _) ?_
    refine zd (by omega) (zd (by omega) (zd (by omega) ?_))
    rw [rd34 l i hil, hw, Int.toNat_natCast]
    by_cases h14 : l[i].f0 = 14
    · refine zd h14 (zd (by omega) ?_)
      rw [jy hrep hir _ (by rw [hT, decide_eq_true h14]; simp)]
      exact hn
    · refine ze h14 (zd (by omega) ?_)
      rw [jy hrep hir _ (by rw [hT, decide_eq_false h14]; simp)]
      exact hn
theorem hops_ev (l : List S34) (R : xl l) : Ev (fun k => qR.f k l) (rest l (hopG l)) := by
  have hl := R.len
  unfold qR.f
  refine zd (by omega) (zd (by omega) ?_)
  have := hops_loop l R l.length 0 (by omega)
  rw [mix_zero] at this
  rwa [Int.toNat_natCast]
theorem dead_loop (l : List S34) (R : xl l) (v : List Bool) (hv : v.length = l.length) (d : Nat) : ∀ i : Nat, i + d = l.length →
    Ev (fun k => qX.l0 k l v (mix (v.map fun b => !b) (List.replicate l.length false) i) (l.length : Int) (i : Int)) (rest l (v.map fun b => !b)) := by
  have hl := R.len
  have hrep : (v.map fun b => !b).length = (List.replicate l.length false).length := by simp [hv]
  induction d with
  | zero =>
    intro i hi
    obtain rfl : i = l.length := by omega
    refine zy (fun k => qX.l0.eq_2 _ _ _ _ _ _) ?_
    refine ze (by omega) ?_
    have e : mix (v.map fun b => !b) (List.replicate l.length false) l.length = v.map fun b => !b := by have := mix_full hrep; simpa using this
    rw [e]
    exact zs (without_ev l R _ (by simp [hv])) zm
  | succ d ih =>
    intro i hi
    have hil : i < l.length := by omega
    have hir : i < (List.replicate l.length false).length := by simpa using hil
    have hw := qE (i := i) (by omega)
    have hn := ih (i + 1) (by omega)
    have hml : (mix (v.map fun b => !b) (List.replicate l.length false) i).length = l.length := by rw [ja hrep (by simp; omega)]; simp
    have hiv : i < v.length := by omega
    refine zy (fun k => qX.l0.eq_2 _ _ _ _ _ _) ?_
    refine zd (by omega) (zd (by omega) (zd (by omega) (zd (by omega) ?_)))
    rw [hw, Int.toNat_natCast, rdBool, jy hrep hir _ (by simp [List.getD_eq_getElem?_getD, List.getElem?_eq_getElem hiv])]
    exact hn
theorem dead_ev (l : List S34) (R : xl l) (v : List Bool) (hv : v.length = l.length) (hlive : Ev (fun k => qt.f k l) (v, 0)) : Ev (fun k => qX.f k l) (rest l (v.map fun b => !b)) := by
  have hl := R.len
  unfold qX.f
  refine zs hlive (zd (by omega) (zd (by omega) ?_))
  refine zA rfl ?_
  have := dead_loop l R v hv l.length 0 (by omega)
  rw [mix_zero] at this
  rw [Int.toNat_natCast, List.length_replicate]
  exact this
def headB (c : Int) : Bool := decide ((97 ≤ c ∧ c ≤ 122) ∨ (65 ≤ c ∧ c ≤ 90) ∨ c = 95)
def okB (c : Int) : Bool := headB c || decide (48 ≤ c ∧ c ≤ 57)
theorem bt_byte (s : ByteArray) (i : Int) : 0 ≤ bt s i ∧ bt s i < 256 := by
  have := bt_range s i
  omega
theorem head_val (c : Int) (h0 : 0 ≤ c) (h1 : c < 256) : xy.f c = some (headB c) := by
  have h : ∀ i : Fin 256, xy.f (i.val : Int) = some (headB (i.val : Int)) := by decide +kernel
  have := h ⟨c.toNat, by omega⟩
  rwa [Int.toNat_of_nonneg h0] at this
theorem refName_step (k : Nat) (s : ByteArray) (i : Int) : zn.l0 (k + 1) s i = if i < (s.size : Int) then (if 0 ≤ i then (if okB (bt s i) = true then zn.l0 k s (wrap64 (i + 1)) else some false) else none) else some true := by
  rw [zn.l0.eq_2]
  generalize bt s i = c
  generalize zn.l0 k s (wrap64 (i + 1)) = X
  have hk : okB c = true ↔ (97 ≤ c ∧ c ≤ 122) ∨ (65 ≤ c ∧ c ≤ 90) ∨ c = 95 ∨ (48 ≤ c ∧ c ≤ 57) := by
    unfold okB headB
    rw [Bool.or_eq_true, decide_eq_true_iff, decide_eq_true_iff]
    omega
  by_cases hk2 : okB c = true
  · have h := hk.1 hk2
    rw [if_pos hk2]
    repeat' split
    all_goals first | rfl | (exfalso; omega)
  · have h : ¬ _ := fun z => hk2 (hk.2 z)
    rw [if_neg hk2]
    repeat' split
    all_goals first | rfl | (exfalso; omega)
theorem name16_loop (s : ByteArray) (hs : s.size ≤ 140737488351232) (d : Nat) : ∀ i : Nat, i + d = s.size → ∃ b, Ev (fun k => zK.l0 k s (s.size : Int) (i : Int)) b ∧ Ev (fun k => zn.l0 k s (i : Int)) b := by
  induction d with
  | zero =>
    intro i hi
    exact ⟨true, zy (fun k => zK.l0.eq_2 _ _ _ _) (ze (by omega) zm), zy (fun k => refName_step _ _ _) (ze (by omega) zm)⟩
  | succ d ih =>
    intro i hi
    obtain ⟨q, hq, hq2⟩ := ih (i + 1) (by omega)
    have hw := qE (i := i) (by omega)
    obtain ⟨c0, c1⟩ := bt_byte s (i : Int)
    have hh := head_val _ c0 c1
    have pre : ∀ r, Ev (fun k => if headB (bt s (i : Int)) = true then zK.l0 k s (s.size : Int) (wrap64 ((i : Int) + 1)) else if bt s (i : Int) < 48 then some false else if bt s (i : Int) > 57 then some false else zK.l0 k s (s.size : Int) (wrap64 ((i : Int) + 1))) r → Ev (fun k => zK.l0 k s (s.size : Int) (i : Int)) r := fun r h =>
      zy (fun k => zK.l0.eq_2 _ _ _ _) (zd (by omega) (zd (by omega) (zd (by omega) (zA hh h))))
    have pre2 : ∀ r, Ev (fun k => if okB (bt s (i : Int)) = true then zn.l0 k s (wrap64 ((i : Int) + 1)) else some false) r → Ev (fun k => zn.l0 k s (i : Int)) r := fun r h =>
      zy (fun k => refName_step _ _ _) (zd (by omega) (zd (by omega) h))
    rw [hw] at pre pre2
    cases hb : headB (bt s (i : Int)) with
    | true =>
      have ho : okB (bt s (i : Int)) = true := by unfold okB; rw [hb]; rfl
      exact ⟨q, pre _ (zd hb hq), pre2 _ (zd ho hq2)⟩
    | false =>
      by_cases h1 : bt s (i : Int) < 48
      · have ho : ¬ okB (bt s (i : Int)) = true := by unfold okB; rw [hb, Bool.false_or, decide_eq_true_iff]; omega
        exact ⟨false, pre _ (ze (by rw [hb]; decide) (zd h1 zm)), pre2 _ (ze ho zm)⟩
      · by_cases h2 : bt s (i : Int) > 57
        · have ho : ¬ okB (bt s (i : Int)) = true := by unfold okB; rw [hb, Bool.false_or, decide_eq_true_iff]; omega
          exact ⟨false, pre _ (ze (by rw [hb]; decide) (ze h1 (zd h2 zm))), pre2 _ (ze ho zm)⟩
        · have ho : okB (bt s (i : Int)) = true := by unfold okB; rw [hb, Bool.false_or, decide_eq_true_iff]; omega
          exact ⟨q, pre _ (ze (by rw [hb]; decide) (ze h1 (ze h2 hq))), pre2 _ (zd ho hq2)⟩
theorem size_nil (s : ByteArray) : s.toList = ([] : List UInt8) ↔ s.size = 0 := by
  have : s.toList.length = s.size := by rw [ByteArray.toList_eq]; simp
  constructor
  · intro h; rw [h] at this; simpa using this.symm
  · intro h; exact List.eq_nil_of_length_eq_zero (by omega)
theorem name16 (s : ByteArray) (hs : s.size ≤ 140737488351232) : ∃ b, Ev (fun k => zK.f k s) b ∧ Ev (fun k => zn.f k s) b := by
  have nj1 : Ev (fun k => zK.j0 k s true) false := zy (fun k => zK.j0.eq_2 _ _ _) (zd rfl zm)
  have rj1 : Ev (fun k => zn.j0 k s true) false := zy (fun k => zn.j0.eq_2 _ _ _) (zd rfl zm)
  unfold zK.f zn.f
  by_cases h0 : s.size = 0
  · exact ⟨false, zd ((size_nil s).2 h0) nj1, zd (by omega) rj1⟩
  · have hn : ¬ s.toList = ([] : List UInt8) := fun h => h0 ((size_nil s).1 h)
    by_cases h1 : (s.size : Int) > 32
    · exact ⟨false, ze hn (zd h1 nj1), ze (by omega) (zd h1 rj1)⟩
    · obtain ⟨c0, c1⟩ := bt_byte s 0
      have hh := head_val _ c0 c1
      obtain ⟨q, hq, hq2⟩ := name16_loop s hs s.size 0 (by omega)
      have rj0 : Ev (fun k => zn.j0 k s false) q := zy (fun k => zn.j0.eq_2 _ _ _) (ze (by decide) hq2)
      have nj0 : Ev (fun k => zK.j0 k s false) q := zy (fun k => zK.j0.eq_2 _ _ _) (ze (by decide) hq)
      cases hb : headB (bt s 0) with
      | true =>
        rw [hb] at hh
        refine ⟨q, ze hn (ze h1 (zd (by omega) (zA hh nj0))), ze (by omega) (ze h1 (zd (by omega) ?_))⟩
        have hc : ¬ bt s 0 ≤ 57 := by unfold headB at hb; rw [decide_eq_true_iff] at hb; omega
        by_cases h48 : bt s 0 ≥ 48
        · refine zd h48 ?_
          rw [decide_eq_false hc]
          exact rj0
        · exact ze h48 rj0
      | false =>
        rw [hb] at hh
        refine ⟨false, ze hn (ze h1 (zd (by omega) (zA hh nj1))), ze (by omega) (ze h1 (zd (by omega) ?_))⟩
        have rl : ¬ (48 ≤ bt s 0 ∧ bt s 0 ≤ 57) → Ev (fun k => zn.j0 k s false) false := by
          intro hd
          refine zy (fun k => zn.j0.eq_2 _ _ _) (ze (by decide) ?_)
          refine zy (fun k => refName_step _ _ _) (zd (by omega) (zd (by omega) (ze ?_ zm)))
          unfold okB
          rw [hb, Bool.false_or, decide_eq_true_iff]
          exact hd
        by_cases h48 : bt s 0 ≥ 48
        · refine zd h48 ?_
          by_cases h57 : bt s 0 ≤ 57
          · rw [decide_eq_true h57]; exact rj1
          · rw [decide_eq_false h57]; exact rl (by omega)
        · exact ze h48 (rl (by omega))
theorem template16_l (s : ByteArray) : ∀ k i, z4.l0 k s i = zQ.l0 k s i := by
  intro k
  induction k with
  | zero => intro i; rfl
  | succ k ih => intro i; rw [z4.l0.eq_2, zQ.l0.eq_2]; simp only [ih]
theorem template16 (s : ByteArray) (k : Nat) : z4.f k s = zQ.f k s := by
  unfold z4.f zQ.f
  rw [template16_l]
def bitV (a b : Int) : Bool := (Int.tmod (wrap64 (Int.tdiv a b)) 2) == 1
theorem has16 (a b : Int) (h : ¬ b = 0) : zr.f a b = some (bitV a b) := by unfold zr.f; rw [if_neg h]; rfl
def usesOk (op : Int) : Bool := match zX.f op with
  | some u => !(u.2.1.toList == []) && u.2.2 == hasB op 64 && bitV u.1 1 == hasB op 32 && bitV u.1 2 == (op == 20) && bitV u.1 4 == (op == 2 || op == 5) && bitV u.1 8 == (op == 18 || op == 20) && bitV u.1 16 == hasB op 16
  | none => false
theorem uses_tab : ∀ i : Fin 20, usesOk ((i.val + 1 : Nat) : Int) = true := by decide +kernel
theorem mask_tab : ∀ i : Fin 20, hasB ((i.val + 1 : Nat) : Int) 1 = (hasB ((i.val + 1 : Nat) : Int) 32 || ((i.val + 1 : Nat) : Int) == 20) ∧ hasB ((i.val + 1 : Nat) : Int) 2 = (((i.val + 1 : Nat) : Int) == 2 || ((i.val + 1 : Nat) : Int) == 5 || ((i.val + 1 : Nat) : Int) == 18 || ((i.val + 1 : Nat) : Int) == 20) ∧ hasB ((i.val + 1 : Nat) : Int) 4 = (((i.val + 1 : Nat) : Int) == 18 || ((i.val + 1 : Nat) : Int) == 20) ∧ hasB ((i.val + 1 : Nat) : Int) 8 = (((i.val + 1 : Nat) : Int) == 18 || ((i.val + 1 : Nat) : Int) == 20) := by decide +kernel
theorem uses_at (op : Int) (h0 : 1 ≤ op) (h1 : op ≤ 20) : ∃ u, zX.f op = some u ∧ ¬ u.2.1.toList = [] ∧ u.2.2 = hasB op 64 ∧ bitV u.1 1 = hasB op 32 ∧ bitV u.1 2 = (op == 20) ∧ bitV u.1 4 = (op == 2 || op == 5) ∧ bitV u.1 8 = (op == 18 || op == 20) ∧ bitV u.1 16 = hasB op 16 := by
  have h := uses_tab ⟨(op - 1).toNat, by omega⟩
  have e : (((op - 1).toNat + 1 : Nat) : Int) = op := by omega
  rw [e] at h
  unfold usesOk at h
  cases hu : zX.f op with
  | none => rw [hu] at h; cases h
  | some u =>
    rw [hu] at h
    simp only [Bool.and_eq_true, beq_iff_eq, Bool.not_eq_true'] at h
    obtain ⟨⟨⟨⟨⟨⟨h1, h2⟩, h3⟩, h4⟩, h5⟩, h6⟩, h7⟩ := h
    exact ⟨u, rfl, (fun z => by rw [z] at h1; cases h1), h2, h3, h4, h5, h6, h7⟩
theorem mask_at (op : Int) (h0 : 1 ≤ op) (h1 : op ≤ 20) : hasB op 1 = (hasB op 32 || op == 20) ∧ hasB op 2 = (op == 2 || op == 5 || op == 18 || op == 20) ∧ hasB op 4 = (op == 18 || op == 20) ∧ hasB op 8 = (op == 18 || op == 20) := by
  have h := mask_tab ⟨(op - 1).toNat, by omega⟩
  have e : (((op - 1).toNat + 1 : Nat) : Int) = op := by omega
  simp only [e] at h
  exact h
def jv (c n : Int) (s : ByteArray) (nb tb : Bool) : Bool := decide (0 ≤ n ∧ n ≤ 50 ∧ (n = 0 ∨ c = 7)) && (if c = 3 then (s.toList == []) || nb else if c = 6 then tb else s.toList == [])
theorem catchV_n (c n : Int) (s : ByteArray) (nb tb : Bool) (h : ¬ (0 ≤ n ∧ n ≤ 50 ∧ (n = 0 ∨ c = 7))) : jv c n s nb tb = false := by unfold jv; rw [decide_eq_false h]; rfl
theorem catchV_y (c n : Int) (s : ByteArray) (nb tb : Bool) (h : 0 ≤ n ∧ n ≤ 50 ∧ (n = 0 ∨ c = 7)) : jv c n s nb tb = (if c = 3 then (s.toList == []) || nb else if c = 6 then tb else s.toList == []) := by unfold jv; rw [decide_eq_true h]; rfl
theorem nil_true {s : ByteArray} (h : s.toList = ([] : List UInt8)) : (s.toList == ([] : List UInt8)) = true := beq_iff_eq.2 h
theorem nil_false {s : ByteArray} (h : ¬ s.toList = ([] : List UInt8)) : (s.toList == ([] : List UInt8)) = false := beq_eq_false_iff_ne.2 h
theorem fields_val (c n : Int) (s : ByteArray) (h2 : 2 ≤ c) (h7 : c ≤ 7) (nb tb : Bool) (hn : Ev (fun k => zK.f k s) nb) (ht : Ev (fun k => zQ.f k s) tb) : Ev (fun k => zJ.f k (c + 16) n s 0 0 0 0) (jv c n s nb tb) := by
  unfold zJ.f
  refine ze (by omega) ?_
  refine zy (fun k => zJ.j0.eq_2 _ _ _ _ _ _ _ _ _) ?_
  refine ze (by decide) ?_
  have jt : Ev (fun k => zJ.j1 k true (c + 16) n s 0 0 0 0) false := zy (fun k => zJ.j1.eq_2 _ _ _ _ _ _ _ _ _) (zd rfl zm)
  have jf : Ev (fun k => zJ.j1 k false (c + 16) n s 0 0 0 0) (if c = 3 then (s.toList == []) || nb else if c = 6 then tb else s.toList == []) := by
    refine zy (fun k => zJ.j1.eq_2 _ _ _ _ _ _ _ _ _) (ze (by decide) (ze (by omega) (ze (by omega) ?_)))
    by_cases h3 : c = 3
    · refine zd (by omega) ?_
      rw [if_pos h3]
      by_cases he : s.toList = ([] : List UInt8)
      · rw [nil_true he]; exact zd he zm
      · rw [nil_false he]; exact ze he (zs hn zm)
    · refine ze (by omega) ?_
      rw [if_neg h3]
      by_cases h6 : c = 6
      · rw [if_pos h6]; exact zd (by omega) (zs ht zm)
      · rw [if_neg h6]; exact ze (by omega) zm
  by_cases n0 : n < 0
  · rw [catchV_n _ _ _ _ _ (by omega)]; exact zd n0 jt
  · by_cases n5 : n > 50
    · rw [catchV_n _ _ _ _ _ (by omega)]; exact ze n0 (zd n5 jt)
    · by_cases n1 : n > 0
      · refine ze n0 (ze n5 (zd n1 ?_))
        have hc : xP.f (c + 16) = some (decide (c = 7)) := by
          unfold xP.f
          rw [if_pos (by omega), if_neg (by omega)]
          congr 1
          by_cases h : c = 7
          · subst h; rfl
          · rw [decide_eq_false h]; exact beq_eq_false_iff_ne.2 (by omega)
        refine zA hc ?_
        by_cases h : c = 7
        · rw [decide_eq_true h, catchV_y _ _ _ _ _ (by omega)]; exact jf
        · rw [decide_eq_false h, catchV_n _ _ _ _ _ (by omega)]; exact jt
      · rw [catchV_y _ _ _ _ _ (by omega)]; exact ze n0 (ze n5 (ze n1 jf))
theorem capture_val (c n : Int) (s : ByteArray) (h1 : 1 ≤ c) (h7 : c ≤ 7) (nb tb : Bool) (hn : Ev (fun k => zK.f k s) nb) (ht : Ev (fun k => zQ.f k s) tb) : Ev (fun k => qQ.f k c n s) (jv c n s nb tb) := by
  by_cases hc : c = 1
  · subst hc
    unfold qQ.f
    refine zd rfl ?_
    by_cases h : n = 0
    · rw [show jv 1 n s nb tb = (s.toList == []) by rw [catchV_y _ _ _ _ _ (by omega)]; rfl]; exact zd h zm
    · rw [catchV_n _ _ _ _ _ (by omega)]; exact ze h zm
  · exact capture_ev c n s (by omega) h7 _ (fields_val c n s (by omega) h7 nb tb hn ht)
theorem catches_val (op a b n : Int) (s : ByteArray) (w0 w1 w2 w3 : Int) (nb tb : Bool) (hn : Ev (fun k => zn.f k s) nb) (ht : Ev (fun k => z4.f k s) tb) :
    Ev (fun k => zD.f k op a b n s w0 w1 w2 w3) (decide ((if op = 18 then 2 else 1) ≤ b ∧ b ≤ 7) && jv b n s nb tb) := by
  have jt : Ev (fun k => zD.j1 k true op a b n s w0 w1 w2 w3) false := zy (fun k => zD.j1.eq_2 _ _ _ _ _ _ _ _ _ _ _) (zd rfl zm)
  have jf : Ev (fun k => zD.j1 k false op a b n s w0 w1 w2 w3) (if b = 3 then (s.toList == []) || nb else if b = 6 then tb else s.toList == []) := by
    refine zy (fun k => zD.j1.eq_2 _ _ _ _ _ _ _ _ _ _ _) (ze (by decide) ?_)
    by_cases h3 : b = 3
    · refine zd (by omega) ?_
      rw [if_pos h3]
      by_cases he : s.toList = ([] : List UInt8)
      · rw [nil_true he]; exact zd he zm
      · rw [nil_false he]; exact ze he (zs hn zm)
    · refine ze (by omega) ?_
      rw [if_neg h3]
      by_cases h6 : b = 6
      · rw [if_pos h6]; exact zd (by omega) (zs ht zm)
      · rw [if_neg h6]; exact ze (by omega) zm
  have key : ∀ m : Int, Ev (fun k => zD.j0 k m op a b n s w0 w1 w2 w3) (decide (m ≤ b ∧ b ≤ 7) && jv b n s nb tb) := by
    intro m
    refine zy (fun k => zD.j0.eq_2 _ _ _ _ _ _ _ _ _ _ _) ?_
    by_cases c1 : b < m
    · rw [decide_eq_false (by omega)]; exact zd c1 jt
    · by_cases c2 : b > 7
      · rw [decide_eq_false (by omega)]; exact ze c1 (zd c2 jt)
      · rw [decide_eq_true (by omega), Bool.true_and]
        by_cases n0 : n < 0
        · rw [catchV_n _ _ _ _ _ (by omega)]; exact ze c1 (ze c2 (zd n0 jt))
        · by_cases n5 : n > 50
          · rw [catchV_n _ _ _ _ _ (by omega)]; exact ze c1 (ze c2 (ze n0 (zd n5 jt)))
          · refine ze c1 (ze c2 (ze n0 (ze n5 ?_)))
            by_cases h : b = 7
            · rw [catchV_y _ _ _ _ _ (by omega)]; exact zd h jf
            · refine ze h ?_
              by_cases hz : n = 0
              · rw [catchV_y _ _ _ _ _ (by omega), show (n != 0) = false from bne_eq_false_iff_eq.2 hz]; exact jf
              · rw [catchV_n _ _ _ _ _ (by omega), show (n != 0) = true from bne_iff_ne.2 hz]; exact jt
  unfold zD.f
  by_cases h : op = 18
  · rw [if_pos h]; exact zd h (key 2)
  · rw [if_neg h]; exact ze h (key 1)
theorem nil_list : (⟨#[]⟩ : ByteArray).toList = ([] : List UInt8) := by decide +kernel
theorem mism_val (kA kB kN kX kS : Bool) (op a b n : Int) (s : ByteArray) (w0 w1 w2 w3 : Int) :
    (!(op == op) || (!(a == if kA = true then a else 0) || (!(b == if kB = true then b else 0) || (!(n == if kN = true then n else 0) || (!(s.toList == (if kX = true then s else ⟨#[]⟩).toList) || ((!(w0 == if kS = true then w0 else 0) || (!(w1 == if kS = true then w1 else 0) || (!(w2 == if kS = true then w2 else 0) || (!(w3 == if kS = true then w3 else 0)))))))))))
      = !((kA || a == 0) && ((kB || b == 0) && ((kN || n == 0) && ((kX || s.toList == ([] : List UInt8)) && (kS || (w0 == 0 && (w1 == 0 && (w2 == 0 && w3 == 0)))))))) := by
  cases kA <;> cases kB <;> cases kN <;> cases kX <;> cases kS <;> simp [nil_list]
def keepV (x : S34) : Bool := (hasB x.f0 1 || x.f1 == 0) && ((hasB x.f0 2 || x.f2 == 0) && ((hasB x.f0 4 || x.f3 == 0) && ((hasB x.f0 8 || x.f4.toList == ([] : List UInt8)) && (hasB x.f0 16 || (x.f5.f0 == 0 && (x.f5.f1 == 0 && (x.f5.f2 == 0 && x.f5.f3 == 0)))))))
def tailV (x : S34) (nb tb : Bool) : Bool := if x.f0 = 2 ∨ x.f0 = 5 then decide (0 ≤ x.f2 ∧ x.f2 ≤ 255) else if x.f0 = 18 then decide (2 ≤ x.f2 ∧ x.f2 ≤ 7) && jv x.f2 x.f3 x.f4 nb tb else if x.f0 = 20 then decide (1 ≤ x.f2 ∧ x.f2 ≤ 7 ∧ 0 ≤ x.f1 ∧ x.f1 ≤ 255 ∧ (x.f2 = 1 → ¬ x.f1 > 0)) && jv x.f2 x.f3 x.f4 nb tb else true
theorem fitsj_val (op : Int) (x9 : Bool) (a0 a1 a2 a3 : Int) (a4 : ByteArray) (a5 a6 a7 a8 : Int) (nb tb : Bool) (hn : Ev (fun k => zK.f k a4) nb) (ht : Ev (fun k => zQ.f k a4) tb)
    (v : Bool) (hv : v = (if x9 = true then decide (0 ≤ a2 ∧ a2 ≤ 255) else if op = 18 then decide (2 ≤ a2 ∧ a2 ≤ 7) && jv a2 a3 a4 nb tb else if op = 20 then decide (1 ≤ a2 ∧ a2 ≤ 7 ∧ 0 ≤ a1 ∧ a1 ≤ 255 ∧ (a2 = 1 → ¬ a1 > 0)) && jv a2 a3 a4 nb tb else true)) : Ev (fun k => qv.j0 k op x9 a0 a1 a2 a3 a4 a5 a6 a7 a8) v := by
  refine zy (fun k => qv.j0.eq_2 _ _ _ _ _ _ _ _ _ _ _ _) ?_
  cases x9 with
  | true =>
    rw [if_pos rfl] at hv
    by_cases h : a2 ≥ 0
    · refine zd rfl (zd h ?_)
      rw [show decide (0 ≤ a2 ∧ a2 ≤ 255) = decide (a2 ≤ 255) from decide_eq_decide.2 (by omega)] at hv
      subst hv
      exact zm
    · rw [decide_eq_false (by omega)] at hv; subst hv; exact zd rfl (ze h zm)
  | false =>
    rw [if_neg (by decide)] at hv
    refine ze (by decide) ?_
    by_cases h18 : op = 18
    · rw [if_pos h18] at hv
      refine zd h18 ?_
      by_cases h2 : a2 ≥ 2
      · by_cases h7 : a2 ≤ 7
        · rw [decide_eq_true (by omega), Bool.true_and] at hv
          subst hv
          exact zd h2 (zd h7 (zs (capture_val a2 a3 a4 (by omega) h7 nb tb hn ht) zm))
        · rw [decide_eq_false (by omega)] at hv; subst hv; exact zd h2 (ze h7 zm)
      · rw [decide_eq_false (by omega)] at hv; subst hv; exact ze h2 zm
    · rw [if_neg h18] at hv
      refine ze h18 ?_
      by_cases h20 : op = 20
      · rw [if_pos h20] at hv
        refine zd h20 ?_
        by_cases c1 : a2 < 1
        · rw [decide_eq_false (by omega)] at hv; subst hv; exact zd c1 zm
        · by_cases c2 : a2 > 7
          · rw [decide_eq_false (by omega)] at hv; subst hv; exact ze c1 (zd c2 zm)
          · by_cases c3 : a1 < 0
            · rw [decide_eq_false (by omega)] at hv; subst hv; exact ze c1 (ze c2 (zd c3 zm))
            · by_cases c4 : a1 > 255
              · rw [decide_eq_false (by omega)] at hv; subst hv; exact ze c1 (ze c2 (ze c3 (zd c4 zm)))
              · have hb := capture_val a2 a3 a4 (by omega) (by omega) nb tb hn ht
                by_cases c5 : a2 = 1
                · by_cases c6 : a1 > 0
                  · rw [decide_eq_false (fun z => z.2.2.2.2 c5 c6)] at hv; subst hv; exact ze c1 (ze c2 (ze c3 (ze c4 (zd c5 (zd c6 zm)))))
                  · rw [decide_eq_true (⟨by omega, by omega, by omega, by omega, fun _ => c6⟩), Bool.true_and] at hv; subst hv; exact ze c1 (ze c2 (ze c3 (ze c4 (zd c5 (ze c6 (zs hb zm))))))
                · rw [decide_eq_true (⟨by omega, by omega, by omega, by omega, fun z => absurd z c5⟩), Bool.true_and] at hv; subst hv; exact ze c1 (ze c2 (ze c3 (ze c4 (ze c5 (zs hb zm)))))
      · rw [if_neg h20] at hv; subst hv; exact ze h20 zm
theorem fits_val (x : S34) (h0 : 1 ≤ x.f0) (h1 : x.f0 ≤ 20) (nb tb : Bool) (hn : Ev (fun k => zK.f k x.f4) nb) (ht : Ev (fun k => zQ.f k x.f4) tb) :
    Ev (fun k => qv.f k x.f0 x.f1 x.f2 x.f3 x.f4 x.f5.f0 x.f5.f1 x.f5.f2 x.f5.f3) (keepV x && tailV x nb tb) := by
  unfold qv.f
  have hp : qx.f x.f0 x.f1 x.f2 x.f3 x.f4 x.f5.f0 x.f5.f1 x.f5.f2 x.f5.f3 = some (x.f0, if hasB x.f0 1 = true then x.f1 else 0, if hasB x.f0 2 = true then x.f2 else 0, if hasB x.f0 4 = true then x.f3 else 0, if hasB x.f0 8 = true then x.f4 else ⟨#[]⟩, if hasB x.f0 16 = true then x.f5.f0 else 0, if hasB x.f0 16 = true then x.f5.f1 else 0, if hasB x.f0 16 = true then x.f5.f2 else 0, if hasB x.f0 16 = true then x.f5.f3 else 0) := by
    unfold qx.f
    rw [if_pos (by omega), if_pos (by omega)]
  refine zA hp ?_
  simp only []
  rw [mism_val]
  have e : ((hasB x.f0 1 || x.f1 == 0) && ((hasB x.f0 2 || x.f2 == 0) && ((hasB x.f0 4 || x.f3 == 0) && ((hasB x.f0 8 || x.f4.toList == ([] : List UInt8)) && (hasB x.f0 16 || (x.f5.f0 == 0 && (x.f5.f1 == 0 && (x.f5.f2 == 0 && x.f5.f3 == 0)))))))) = keepV x := rfl
  rw [e]
  cases keepV x with
  | false => exact zd rfl zm
  | true =>
    refine ze (by decide) ?_
    rw [Bool.true_and]
    unfold tailV
    by_cases h2 : x.f0 = 2
    · rw [if_pos (Or.inl h2)]
      refine zd h2 ?_
      exact fitsj_val x.f0 (x.f0 == 2) x.f0 x.f1 x.f2 x.f3 x.f4 x.f5.f0 x.f5.f1 x.f5.f2 x.f5.f3 nb tb hn ht _ (by rw [if_pos (beq_iff_eq.2 h2)])
    · refine ze h2 ?_
      by_cases h5 : x.f0 = 5
      · rw [if_pos (Or.inr h5)]
        exact fitsj_val x.f0 (x.f0 == 5) x.f0 x.f1 x.f2 x.f3 x.f4 x.f5.f0 x.f5.f1 x.f5.f2 x.f5.f3 nb tb hn ht _ (by rw [if_pos (beq_iff_eq.2 h5)])
      · rw [if_neg (by omega)]
        exact fitsj_val x.f0 (x.f0 == 5) x.f0 x.f1 x.f2 x.f3 x.f4 x.f5.f0 x.f5.f1 x.f5.f2 x.f5.f3 nb tb hn ht _ (by rw [if_neg (show ¬ (x.f0 == 5) = true by rw [beq_iff_eq]; exact h5)])
def argsV (x : S34) (nb tb : Bool) : Bool := (hasB x.f0 16 || (x.f5.f0 == 0 && (x.f5.f1 == 0 && (x.f5.f2 == 0 && x.f5.f3 == 0)))) && ((hasB x.f0 32 || (x.f0 == 20 || x.f1 == 0)) && ((!(x.f0 == 20) || decide (0 ≤ x.f1 ∧ x.f1 ≤ 255 ∧ (x.f2 = 1 → x.f1 = 0))) &&
  (if x.f0 = 18 ∨ x.f0 = 20 then decide ((if x.f0 = 18 then 2 else 1) ≤ x.f2 ∧ x.f2 ≤ 7) && jv x.f2 x.f3 x.f4 nb tb else decide (x.f3 = 0) && ((x.f4.toList == ([] : List UInt8)) && (if x.f0 = 2 ∨ x.f0 = 5 then decide (0 ≤ x.f2 ∧ x.f2 ≤ 255) else decide (x.f2 = 0))))))
theorem args_val (x : S34) (h0 : 1 ≤ x.f0) (h1 : x.f0 ≤ 20) (nb tb : Bool) (hn : Ev (fun k => zn.f k x.f4) nb) (ht : Ev (fun k => z4.f k x.f4) tb) :
    Ev (fun k => zt.f k x.f0 x.f1 x.f2 x.f3 x.f4 x.f5.f0 x.f5.f1 x.f5.f2 x.f5.f3) (argsV x nb tb) := by
  obtain ⟨u, hu, _, _, e1, e2, e4, e8, e16⟩ := uses_at x.f0 h0 h1
  have g1 := has16 u.1 1 (by decide)
  have g2 := has16 u.1 2 (by decide)
  have g4 := has16 u.1 4 (by decide)
  have g8 := has16 u.1 8 (by decide)
  have g16 := has16 u.1 16 (by decide)
  rw [e1] at g1; rw [e2] at g2; rw [e4] at g4; rw [e8] at g8; rw [e16] at g16
  have hc := catches_val x.f0 x.f1 x.f2 x.f3 x.f4 x.f5.f0 x.f5.f1 x.f5.f2 x.f5.f3 nb tb hn ht
  have J1 : ∀ z : Bool, Ev (fun k => zt.j1 k u.1 z x.f0 x.f1 x.f2 x.f3 x.f4 x.f5.f0 x.f5.f1 x.f5.f2 x.f5.f3) (!z && (if x.f0 = 18 ∨ x.f0 = 20 then decide ((if x.f0 = 18 then 2 else 1) ≤ x.f2 ∧ x.f2 ≤ 7) && jv x.f2 x.f3 x.f4 nb tb else decide (x.f3 = 0) && ((x.f4.toList == ([] : List UInt8)) && (if x.f0 = 2 ∨ x.f0 = 5 then decide (0 ≤ x.f2 ∧ x.f2 ≤ 255) else decide (x.f2 = 0))))) := by
    intro z
    refine zy (fun k => zt.j1.eq_2 _ _ _ _ _ _ _ _ _ _ _ _) ?_
    cases z with
    | true => exact zd rfl zm
    | false =>
      refine ze (by decide) (zA g8 ?_)
      rw [Bool.not_false, Bool.true_and]
      by_cases hC : x.f0 = 18 ∨ x.f0 = 20
      · rw [if_pos hC]
        exact zd (by rcases hC with h | h <;> rw [h] <;> rfl) (zs hc zm)
      · rw [if_neg hC]
        refine ze (by rw [Bool.or_eq_true, beq_iff_eq, beq_iff_eq]; exact hC) ?_
        by_cases hN : x.f3 = 0
        · rw [decide_eq_true hN, Bool.true_and]
          refine zd hN ?_
          by_cases he : x.f4.toList = ([] : List UInt8)
          · rw [nil_true he, Bool.true_and]
            refine zd he (zA g4 ?_)
            have eb : ∀ b : Int, (b == 0) = decide (b = 0) := fun b => by by_cases h : b = 0 <;> simp [h]
            by_cases hY : x.f0 = 2 ∨ x.f0 = 5
            · rw [if_pos hY]
              refine zd (by rcases hY with h | h <;> rw [h] <;> rfl) ?_
              by_cases b0 : x.f2 ≥ 0
              · refine zd b0 ?_
                by_cases b1 : x.f2 ≤ 255
                · rw [decide_eq_true (by omega)]; exact zd b1 zm
                · rw [decide_eq_false (by omega)]; refine ze b1 ?_; rw [eb, decide_eq_false (by omega)]; exact zm
              · rw [decide_eq_false (by omega)]; refine ze b0 ?_; rw [eb, decide_eq_false (by omega)]; exact zm
            · rw [if_neg hY]
              refine ze (by rw [Bool.or_eq_true, beq_iff_eq, beq_iff_eq]; exact hY) ?_
              rw [eb]
              exact zm
          · rw [nil_false he]; exact ze he zm
        · rw [decide_eq_false hN]; exact ze hN zm
  have J0 : ∀ z : Bool, Ev (fun k => zt.j0 k u.1 z x.f0 x.f1 x.f2 x.f3 x.f4 x.f5.f0 x.f5.f1 x.f5.f2 x.f5.f3) (!z && ((!(x.f0 == 20) || decide (0 ≤ x.f1 ∧ x.f1 ≤ 255 ∧ (x.f2 = 1 → x.f1 = 0))) && (if x.f0 = 18 ∨ x.f0 = 20 then decide ((if x.f0 = 18 then 2 else 1) ≤ x.f2 ∧ x.f2 ≤ 7) && jv x.f2 x.f3 x.f4 nb tb else decide (x.f3 = 0) && ((x.f4.toList == ([] : List UInt8)) && (if x.f0 = 2 ∨ x.f0 = 5 then decide (0 ≤ x.f2 ∧ x.f2 ≤ 255) else decide (x.f2 = 0)))))) := by
    intro z
    refine zy (fun k => zt.j0.eq_2 _ _ _ _ _ _ _ _ _ _ _ _) ?_
    cases z with
    | true => exact zd rfl zm
    | false =>
      refine ze (by decide) (zA g2 ?_)
      rw [Bool.not_false, Bool.true_and]
      cases hL : (x.f0 == 20) with
      | false => exact ze (by decide) (J1 false)
      | true =>
        refine zd rfl ?_
        rw [Bool.not_true, Bool.false_or]
        by_cases c1 : x.f1 < 0
        · rw [decide_eq_false (fun z => by omega)]; exact zd c1 (J1 true)
        · by_cases c2 : x.f1 > 255
          · rw [decide_eq_false (fun z => by omega)]; exact ze c1 (zd c2 (J1 true))
          · refine ze c1 (ze c2 ?_)
            by_cases c3 : x.f2 = 1
            · refine zd c3 ?_
              by_cases c4 : x.f1 = 0
              · rw [decide_eq_true (⟨by omega, by omega, fun _ => c4⟩), show (x.f1 != 0) = false from bne_eq_false_iff_eq.2 c4]; exact J1 false
              · rw [decide_eq_false (fun z => c4 (z.2.2 c3)), show (x.f1 != 0) = true from bne_iff_ne.2 c4]; exact J1 true
            · rw [decide_eq_true (⟨by omega, by omega, fun z => absurd z c3⟩)]; exact ze c3 (J1 false)
  have K : Ev (fun k => (zr.f u.1 1).bind fun t => if t = true then zt.j0 k u.1 false x.f0 x.f1 x.f2 x.f3 x.f4 x.f5.f0 x.f5.f1 x.f5.f2 x.f5.f3 else (zr.f u.1 2).bind fun t => if t = true then zt.j0 k u.1 false x.f0 x.f1 x.f2 x.f3 x.f4 x.f5.f0 x.f5.f1 x.f5.f2 x.f5.f3 else zt.j0 k u.1 (x.f1 != 0) x.f0 x.f1 x.f2 x.f3 x.f4 x.f5.f0 x.f5.f1 x.f5.f2 x.f5.f3)
      ((hasB x.f0 32 || (x.f0 == 20 || x.f1 == 0)) && ((!(x.f0 == 20) || decide (0 ≤ x.f1 ∧ x.f1 ≤ 255 ∧ (x.f2 = 1 → x.f1 = 0))) && (if x.f0 = 18 ∨ x.f0 = 20 then decide ((if x.f0 = 18 then 2 else 1) ≤ x.f2 ∧ x.f2 ≤ 7) && jv x.f2 x.f3 x.f4 nb tb else decide (x.f3 = 0) && ((x.f4.toList == ([] : List UInt8)) && (if x.f0 = 2 ∨ x.f0 = 5 then decide (0 ≤ x.f2 ∧ x.f2 ≤ 255) else decide (x.f2 = 0)))))) := by
    refine zA g1 ?_
    have J0f := J0 false
    rw [Bool.not_false, Bool.true_and] at J0f
    cases hT : hasB x.f0 32 with
    | true => rw [Bool.true_or, Bool.true_and]; exact zd rfl J0f
    | false =>
      rw [Bool.false_or]
      refine ze (by decide) (zA g2 ?_)
      cases hL : (x.f0 == 20) with
      | true => rw [hL] at J0f; rw [Bool.true_or, Bool.true_and]; exact zd rfl J0f
      | false =>
        rw [Bool.false_or]
        refine ze (by decide) ?_
        have := J0 (x.f1 != 0)
        rw [hL] at this
        rwa [show (!(x.f1 != 0)) = (x.f1 == 0) by rw [bne, Bool.not_not]] at this
  unfold zt.f argsV
  refine zA hu (zA g16 ?_)
  cases hS : hasB x.f0 16 with
  | true => rw [Bool.true_or, Bool.true_and]; exact zd rfl K
  | false =>
    rw [Bool.false_or]
    refine ze (by decide) ?_
    have es : (!(x.f5.f0 == 0) || (!(x.f5.f1 == 0) || (!(x.f5.f2 == 0) || (!(x.f5.f3 == 0))))) = !(x.f5.f0 == 0 && (x.f5.f1 == 0 && (x.f5.f2 == 0 && x.f5.f3 == 0))) := by simp only [Bool.not_and]
    rw [es]
    cases hZ : (x.f5.f0 == 0 && (x.f5.f1 == 0 && (x.f5.f2 == 0 && x.f5.f3 == 0))) with
    | false => exact zd rfl (J0 true)
    | true => rw [Bool.true_and]; exact ze (by decide) K
theorem args_fits (x : S34) (h0 : 1 ≤ x.f0) (h1 : x.f0 ≤ 20) (nb tb : Bool) : argsV x nb tb = (keepV x && tailV x nb tb) := by
  obtain ⟨m1, m2, m4, m8⟩ := mask_at x.f0 h0 h1
  unfold argsV keepV tailV
  rw [m1, m2, m4, m8]
  have eb : ∀ b c : Int, (b == c) = decide (b = c) := fun b c => by by_cases h : b = c <;> simp [h]
  generalize (x.f5.f0 == 0 && (x.f5.f1 == 0 && (x.f5.f2 == 0 && x.f5.f3 == 0))) = Z
  generalize hasB x.f0 16 = S
  generalize hasB x.f0 32 = T
  generalize (x.f4.toList == ([] : List UInt8)) = X
  generalize jv x.f2 x.f3 x.f4 nb tb = C
  rw [eb x.f1 0, eb x.f2 0, eb x.f3 0]
  by_cases h18 : x.f0 = 18
  · have e18 : (x.f0 == 18) = true := by rw [h18]; rfl
    have e20 : (x.f0 == 20) = false := by rw [h18]; rfl
    have e2 : (x.f0 == 2) = false := by rw [h18]; rfl
    have e5 : (x.f0 == 5) = false := by rw [h18]; rfl
    rw [e18, e20, e2, e5, if_pos (Or.inl h18), if_neg (show ¬ (x.f0 = 2 ∨ x.f0 = 5) by omega), if_pos h18, if_pos h18]
    generalize decide (2 ≤ x.f2 ∧ x.f2 ≤ 7) = R
    generalize decide (x.f1 = 0) = A
    cases S <;> cases T <;> cases Z <;> cases A <;> cases R <;> cases C <;> rfl
  · by_cases h20 : x.f0 = 20
    · have e18 : (x.f0 == 18) = false := by rw [h20]; rfl
      have e20 : (x.f0 == 20) = true := by rw [h20]; rfl
      have e2 : (x.f0 == 2) = false := by rw [h20]; rfl
      have e5 : (x.f0 == 5) = false := by rw [h20]; rfl
      rw [e18, e20, e2, e5, if_pos (Or.inr h20), if_neg (show ¬ (x.f0 = 2 ∨ x.f0 = 5) by omega), if_neg h18, if_neg h18, if_pos h20]
      have er : (decide (0 ≤ x.f1 ∧ x.f1 ≤ 255 ∧ (x.f2 = 1 → x.f1 = 0)) && decide (1 ≤ x.f2 ∧ x.f2 ≤ 7)) = decide (1 ≤ x.f2 ∧ x.f2 ≤ 7 ∧ 0 ≤ x.f1 ∧ x.f1 ≤ 255 ∧ (x.f2 = 1 → ¬ x.f1 > 0)) := by
        rw [← Bool.decide_and]
        exact decide_eq_decide.2 (by omega)
      rw [← er]
      generalize decide (0 ≤ x.f1 ∧ x.f1 ≤ 255 ∧ (x.f2 = 1 → x.f1 = 0)) = R
      generalize decide (1 ≤ x.f2 ∧ x.f2 ≤ 7) = Q
      cases S <;> cases T <;> cases Z <;> cases R <;> cases Q <;> cases C <;> rfl
    · have e18 : (x.f0 == 18) = false := beq_eq_false_iff_ne.2 h18
      have e20 : (x.f0 == 20) = false := beq_eq_false_iff_ne.2 h20
      rw [e18, e20, if_neg (show ¬ (x.f0 = 18 ∨ x.f0 = 20) by omega)]
      by_cases hY : x.f0 = 2 ∨ x.f0 = 5
      · have e25 : (x.f0 == 2 || x.f0 == 5) = true := by rcases hY with h | h <;> rw [h] <;> rfl
        rw [e25, if_pos hY, if_pos hY]
        generalize decide (0 ≤ x.f2 ∧ x.f2 ≤ 255) = R
        generalize decide (x.f1 = 0) = A
        generalize decide (x.f3 = 0) = Q
        cases S <;> cases T <;> cases Z <;> cases R <;> cases Q <;> cases A <;> cases X <;> rfl
      · have e2 : (x.f0 == 2) = false := beq_eq_false_iff_ne.2 (by omega)
        have e5 : (x.f0 == 5) = false := beq_eq_false_iff_ne.2 (by omega)
        rw [e2, e5, if_neg hY, if_neg hY, if_neg h18, if_neg h20]
        generalize decide (x.f2 = 0) = R
        generalize decide (x.f1 = 0) = A
        generalize decide (x.f3 = 0) = Q
        cases S <;> cases T <;> cases Z <;> cases R <;> cases Q <;> cases A <;> cases X <;> rfl
def Fit (x : S34) : Prop := Ev (fun k => qv.f k x.f0 x.f1 x.f2 x.f3 x.f4 x.f5.f0 x.f5.f1 x.f5.f2 x.f5.f3) true
theorem uses_bad (op : Int) (h : ¬ (1 ≤ op ∧ op ≤ 20)) : zX.f op = some (0, ⟨#[]⟩, false) := by
  unfold zX.f
  repeat rw [if_neg (by omega)]
theorem is_val (op : Int) : xU.f op = some (decide (1 ≤ op ∧ op ≤ 20)) := by
  unfold xU.f
  by_cases h1 : op ≥ 1
  · rw [if_pos h1]; congr 1; simp; omega
  · rw [if_neg h1]; congr 1; simp; omega
theorem fits16 (x : S34) (h0 : 1 ≤ x.f0) (h1 : x.f0 ≤ 20) (hs : x.f4.size ≤ 140737488351232) : ∃ b, Ev (fun k => qv.f k x.f0 x.f1 x.f2 x.f3 x.f4 x.f5.f0 x.f5.f1 x.f5.f2 x.f5.f3) b ∧ Ev (fun k => zt.f k x.f0 x.f1 x.f2 x.f3 x.f4 x.f5.f0 x.f5.f1 x.f5.f2 x.f5.f3) b := by
  obtain ⟨nb, hn, hn2⟩ := name16 x.f4 hs
  obtain ⟨tb, ht⟩ := jC x.f4 hs
  have ht2 : Ev (fun k => z4.f k x.f4) tb := by simp only [template16]; exact ht
  refine ⟨_, fits_val x h0 h1 nb tb hn ht, ?_⟩
  rw [← args_fits x h0 h1 nb tb]
  exact args_val x h0 h1 nb tb hn2 ht2
theorem targets_val (op : Int) (h0 : 1 ≤ op) (h1 : op ≤ 20) : zv.f op = some (hasB op 32) := by
  obtain ⟨u, hu, _, _, e1, _⟩ := uses_at op h0 h1
  unfold zv.f
  rw [hu, Option.bind_some, has16 _ _ (by decide), e1]
  rfl
theorem check_pre (l : List S34) (hl : l.length ≤ 8192) (i : Nat) (hil : i < l.length) (r : Int × Int) (h : Ev (fun k => (xU.f l[i].f0).bind fun t => if t = true then ((qv.f k l[i].f0 l[i].f1 l[i].f2 l[i].f3 l[i].f4 l[i].f5.f0 l[i].f5.f1 l[i].f5.f2 l[i].f5.f3).bind fun t => if t = true then ((zI.f l[i].f0 32).bind fun t => if t = true then (if l[i].f1 < -(i : Int) then some ((i : Int), (162 : Int)) else if l[i].f1 ≥ (l.length : Int) - (i : Int) then some ((i : Int), 162) else zC.l0 k l l (l.length : Int) ((i + 1 : Nat) : Int)) else zC.l0 k l l (l.length : Int) ((i + 1 : Nat) : Int)) else some ((i : Int), 161)) else some ((i : Int), 160)) r) : Ev (fun k => zC.l0 k l l (l.length : Int) (i : Int)) r := by
  have hw := qE (i := i) (by omega)
  have hn : wrap64 (-(i : Int)) = -(i : Int) := xh (by omega) (by omega)
  have hn2 : wrap64 ((l.length : Int) - (i : Int)) = (l.length : Int) - (i : Int) := xh (by omega) (by omega)
  refine zy (fun k => zC.l0.eq_2 _ _ _ _ _) ?_
  refine zd (by omega) (zd (by omega) (zd (by omega) ?_))
  rw [rd34 l i hil, hw, hn, hn2]
  exact h
theorem check16_pre (l : List S34) (hl : l.length ≤ 8192) (i : Nat) (hil : i < l.length) (r : Int × Int) (h : Ev (fun k => (zX.f l[i].f0).bind fun u => if u.2.1.toList = ([] : List UInt8) then some ((i : Int), (160 : Int)) else ((zt.f k l[i].f0 l[i].f1 l[i].f2 l[i].f3 l[i].f4 l[i].f5.f0 l[i].f5.f1 l[i].f5.f2 l[i].f5.f3).bind fun t => if t = true then ((zv.f l[i].f0).bind fun t => if t = true then (if l[i].f1 < -(i : Int) then some ((i : Int), (162 : Int)) else if l[i].f1 ≥ (l.length : Int) - (i : Int) then some ((i : Int), 162) else zo.l0 k l ((i + 1 : Nat) : Int)) else zo.l0 k l ((i + 1 : Nat) : Int)) else some ((i : Int), 161))) r) : Ev (fun k => zo.l0 k l (i : Int)) r := by
  have hw := qE (i := i) (by omega)
  have hn : wrap64 (-(i : Int)) = -(i : Int) := xh (by omega) (by omega)
  have hn2 : wrap64 ((l.length : Int) - (i : Int)) = (l.length : Int) - (i : Int) := xh (by omega) (by omega)
  refine zy (fun k => zo.l0.eq_2 _ _ _) ?_
  refine zd (by omega) (zd (by omega) ?_)
  rw [rd34 l i hil, hw, hn, hn2]
  exact h
theorem check16_loop (l : List S34) (hl : l.length ≤ 8192) (hp : 0 < l.length) (hs : ∀ x ∈ l, x.f4.size ≤ 140737488351232) (d : Nat) : ∀ i : Nat, i + d = l.length → (∀ (j : Nat) (h : j < l.length), j < i → 1 ≤ l[j].f0 ∧ l[j].f0 ≤ 20) →
    ∃ r : Int × Int, Ev (fun k => zC.l0 k l l (l.length : Int) (i : Int)) r ∧ Ev (fun k => zo.l0 k l (i : Int)) r ∧ (r.2 = 0 → ∀ (j : Nat) (h : j < l.length), i ≤ j → Fit l[j]) := by
  induction d with
  | zero =>
    intro i hi hj
    have hw : wrap64 ((l.length : Int) - 1) = ((l.length - 1 : Nat) : Int) := by rw [xh (by omega) (by omega)]; omega
    have hlast := hj (l.length - 1) (by omega) (by omega)
    have hh := has_ev (l[l.length - 1].f0) 64 (by omega) (by omega)
    obtain ⟨u, hu, _, e2, _⟩ := uses_at _ hlast.1 hlast.2
    have pre : ∀ r, Ev (fun k => if hasB l[l.length - 1].f0 64 = true then some (((l.length - 1 : Nat) : Int), (163 : Int)) else some (0, 0)) r → Ev (fun k => zC.l0 k l l (l.length : Int) (i : Int)) r := by
      intro r h
      refine zy (fun k => zC.l0.eq_2 _ _ _ _ _) ?_
      refine ze (by omega) ?_
      rw [hw, rd34 l (l.length - 1) (by omega)]
      refine zd (by omega) (zd (by omega) ?_)
      exact zA hh h
    have pre2 : ∀ r, Ev (fun k => if hasB l[l.length - 1].f0 64 = true then some (((l.length - 1 : Nat) : Int), (163 : Int)) else some (0, 0)) r → Ev (fun k => zo.l0 k l (i : Int)) r := by
      intro r h
      refine zy (fun k => zo.l0.eq_2 _ _ _) ?_
      refine ze (by omega) ?_
      rw [hw, rd34 l (l.length - 1) (by omega)]
      refine zd (by omega) (zd (by omega) ?_)
      refine zA hu ?_
      rw [e2]
      exact h
    have fin : ∀ (j : Nat) (h : j < l.length), i ≤ j → Fit l[j] := fun j h hj1 => absurd hj1 (by omega)
    cases hb : hasB l[l.length - 1].f0 64 with
    | true => exact ⟨_, pre _ (zd hb zm), pre2 _ (zd hb zm), fun _ => fin⟩
    | false => exact ⟨_, pre _ (ze (by rw [hb]; decide) zm), pre2 _ (ze (by rw [hb]; decide) zm), fun _ => fin⟩
  | succ d ih =>
    intro i hi hj
    have hil : i < l.length := by omega
    have his := is_val l[i].f0
    have pre := check_pre l hl i hil
    have pre2 := check16_pre l hl i hil
    by_cases hop : 1 ≤ l[i].f0 ∧ l[i].f0 ≤ 20
    · rw [decide_eq_true hop] at his
      obtain ⟨u, hu, un, _⟩ := uses_at _ hop.1 hop.2
      obtain ⟨b, hb, hb2⟩ := fits16 l[i] hop.1 hop.2 (hs _ (List.getElem_mem hil))
      have hh := has_ev l[i].f0 32 (by omega) (by omega)
      have ht := targets_val l[i].f0 hop.1 hop.2
      obtain ⟨r, hr, hr2, hr3⟩ := ih (i + 1) (by omega) (fun j h hj1 => by
        by_cases hji : j < i
        · exact hj j h hji
        · obtain rfl : j = i := by omega
          exact hop)
      cases b with
      | false => exact ⟨_, pre _ (zA his (zd rfl (zs hb (ze (by decide) zm)))), pre2 _ (zA hu (ze un (zs hb2 (ze (by decide) zm)))), fun h => absurd h (by simp)⟩
      | true =>
        have fin : r.2 = 0 → ∀ (j : Nat) (h : j < l.length), i ≤ j → Fit l[j] := fun h0 j h hj1 => by
          by_cases hji : j = i
          · subst hji; exact hb
          · exact hr3 h0 j h (by omega)
        cases hg : hasB l[i].f0 32 with
        | false =>
          rw [hg] at hh ht
          exact ⟨r, pre _ (zA his (zd rfl (zs hb (zd rfl (zA hh (ze (by decide) hr)))))), pre2 _ (zA hu (ze un (zs hb2 (zd rfl (zA ht (ze (by decide) hr2)))))), fin⟩
        | true =>
          rw [hg] at hh ht
          by_cases c1 : l[i].f1 < -(i : Int)
          · exact ⟨_, pre _ (zA his (zd rfl (zs hb (zd rfl (zA hh (zd rfl (zd c1 zm))))))), pre2 _ (zA hu (ze un (zs hb2 (zd rfl (zA ht (zd rfl (zd c1 zm))))))), fun h => absurd h (by simp)⟩
          · by_cases c2 : l[i].f1 ≥ (l.length : Int) - (i : Int)
            · exact ⟨_, pre _ (zA his (zd rfl (zs hb (zd rfl (zA hh (zd rfl (ze c1 (zd c2 zm)))))))), pre2 _ (zA hu (ze un (zs hb2 (zd rfl (zA ht (zd rfl (ze c1 (zd c2 zm)))))))), fun h => absurd h (by simp)⟩
            · exact ⟨r, pre _ (zA his (zd rfl (zs hb (zd rfl (zA hh (zd rfl (ze c1 (ze c2 hr)))))))), pre2 _ (zA hu (ze un (zs hb2 (zd rfl (zA ht (zd rfl (ze c1 (ze c2 hr2)))))))), fin⟩
    · rw [decide_eq_false hop] at his
      exact ⟨_, pre _ (zA his (ze (by decide) zm)), pre2 _ (zA (uses_bad _ hop) (zd nil_list zm)), fun h => absurd h (by simp)⟩
theorem check16 (l : List S34) (hs : ∀ x ∈ l, x.f4.size ≤ 140737488351232) : ∃ r : Int × Int, Ev (fun k => zC.f k l) r ∧ Ev (fun k => zo.f k l) r ∧ (r.2 = 0 → r = (0, 0) ∧ xl l ∧ ∀ (j : Nat) (h : j < l.length), Fit l[j]) := by
  obtain ⟨q, hq, hq2⟩ := check_total l hs
  have hq' := hq
  unfold zC.f at hq
  by_cases h1 : (l.length : Int) > 8192
  · have e := ev_same hq (zd h1 zm)
    refine ⟨q, hq', ?_, ?_⟩
    · rw [e]; unfold zo.f; exact zd h1 zm
    · intro h; rw [e] at h; exact absurd h (by simp)
  · by_cases h2 : (l.length : Int) = 0
    · have e := ev_same hq (ze h1 (zd h2 zm))
      refine ⟨q, hq', ?_, ?_⟩
      · rw [e]; unfold zo.f; exact ze h1 (zd h2 zm)
      · intro h; rw [e] at h; exact absurd h (by simp)
    · obtain ⟨r, hr, hr2, hr3⟩ := check16_loop l (by omega) (by omega) hs l.length 0 (by omega) (fun j h hj => absurd hj (by omega))
      have e : q = r := ev_same hq (ze h1 (ze h2 hr))
      subst e
      refine ⟨q, hq', ?_, fun h => ⟨(hq2 h).1, (hq2 h).2, fun j hj => hr3 h j hj (Nat.zero_le _)⟩⟩
      unfold zo.f
      exact ze h1 (ze h2 hr2)
theorem check_ok (l : List S34) (R : xl l) (F : ∀ (j : Nat) (h : j < l.length), Fit l[j]) : Ev (fun k => zC.f k l) (0, 0) := by
  have hl := R.len
  have hp := R.pos
  have key : ∀ d i : Nat, i + d = l.length → Ev (fun k => zC.l0 k l l (l.length : Int) (i : Int)) (0, 0) := by
    intro d
    induction d with
    | zero =>
      intro i hi
      have hw : wrap64 ((l.length : Int) - 1) = ((l.length - 1 : Nat) : Int) := by rw [xh (by omega) (by omega)]; omega
      have hlast := R.op (l.length - 1) (by omega)
      have hh := has_ev (l[l.length - 1].f0) 64 (by omega) (by omega)
      refine zy (fun k => zC.l0.eq_2 _ _ _ _ _) ?_
      refine ze (by omega) ?_
      rw [hw, rd34 l (l.length - 1) (by omega)]
      refine zd (by omega) (zd (by omega) (zA hh ?_))
      exact ze (by rw [R.last (by omega)]; decide) zm
    | succ d ih =>
      intro i hi
      have hil : i < l.length := by omega
      have hop := R.op i hil
      have his := is_val l[i].f0
      rw [decide_eq_true hop] at his
      have hh := has_ev l[i].f0 32 (by omega) (by omega)
      refine check_pre l hl i hil _ (zA his (zd rfl (zs (F i hil) (zd rfl (zA hh ?_)))))
      cases hg : hasB l[i].f0 32 with
      | false => exact ze (by decide) (ih (i + 1) (by omega))
      | true =>
        have := R.goes i hil hg
        exact zd rfl (ze (by omega) (ze (by omega) (ih (i + 1) (by omega))))
  unfold zC.f
  exact ze (by omega) (ze (by omega) (key l.length 0 (by omega)))
structure Good (l : List S34) : Prop where
  right : xl l
  fit : ∀ (j : Nat) (h : j < l.length), Fit l[j]
  size : ∀ (j : Nat) (h : j < l.length), l[j].f4.size ≤ 140737488351232
theorem fit_iff (x y : S34) (h0 : 1 ≤ x.f0) (h1 : x.f0 ≤ 20) (g0 : 1 ≤ y.f0) (g1 : y.f0 ≤ 20) (hs : x.f4.size ≤ 140737488351232) (e4 : y.f4 = x.f4) (hk : keepV y = keepV x) (ht : ∀ nb tb, tailV y nb tb = tailV x nb tb) (F : Fit x) : Fit y := by
  obtain ⟨nb, hn, _⟩ := name16 x.f4 hs
  obtain ⟨tb, htb⟩ := jC x.f4 hs
  have e := ev_same F (fits_val x h0 h1 nb tb hn htb)
  have := fits_val y g0 g1 nb tb (by rw [e4]; exact hn) (by rw [e4]; exact htb)
  rw [hk, ht, ← e] at this
  exact this
theorem not20 {op : Int} (h : hasB op 32 = true) : ¬ op = 20 := fun e => by
  have h2 : hasB 20 32 = false := by decide +kernel
  rw [e, h2] at h
  cases h
theorem fit_move (x : S34) (a : Int) (h0 : 1 ≤ x.f0) (h1 : x.f0 ≤ 20) (hs : x.f4.size ≤ 140737488351232) (hg : hasB x.f0 32 = true) (F : Fit x) : Fit { x with f1 := a } := by
  refine fit_iff x { x with f1 := a } h0 h1 h0 h1 hs rfl ?_ (fun nb tb => ?_) F
  · have m := (mask_at x.f0 h0 h1).1
    rw [hg, Bool.true_or] at m
    unfold keepV
    simp only [m, Bool.true_or]
  · unfold tailV
    simp only [if_neg (not20 hg)]
theorem fit_tail (x : S34) (h : x.f0 = 15) (hs : x.f4.size ≤ 140737488351232) (F : Fit x) : Fit { x with f0 := 14 } := by
  refine fit_iff x { x with f0 := 14 } (by omega) (by omega) (by simp) (by simp) hs rfl ?_ (fun nb tb => ?_) F
  · unfold keepV
    have e : (hasB 14 1, hasB 14 2, hasB 14 4, hasB 14 8, hasB 14 16) = (hasB 15 1, hasB 15 2, hasB 15 4, hasB 15 8, hasB 15 16) := by decide +kernel
    simp only [Prod.mk.injEq] at e
    obtain ⟨e1, e2, e3, e4, e5⟩ := e
    simp only [h, e1, e2, e3, e4, e5]
  · unfold tailV
    simp only [h]
    rfl
theorem get_of {l : List S34} {i : Nat} {x : S34} (h : l[i]? = some x) (hi : i < l.length) : l[i] = x := by
  rw [List.getElem?_eq_getElem hi] at h
  exact Option.some.inj h
theorem good_of (l t : List S34) (G : Good l) (hl : t.length = l.length)
    (hk : ∀ (i : Nat) (h : i < l.length) (h' : i < t.length), (1 ≤ t[i].f0 ∧ t[i].f0 ≤ 20) ∧ (hasB t[i].f0 32 = true → 0 ≤ (i : Int) + t[i].f1 ∧ (i : Int) + t[i].f1 < l.length) ∧ Fit t[i] ∧ t[i].f4.size ≤ 140737488351232 ∧ (i = l.length - 1 → hasB t[i].f0 64 = false)) : Good t := by
  have R := G.right
  refine ⟨⟨by rw [hl]; exact R.pos, by rw [hl]; exact R.len, fun i h => (hk i (by omega) h).1, fun i h hg => ?_, fun h => ?_⟩, fun i h => (hk i (by omega) h).2.2.1, fun i h => (hk i (by omega) h).2.2.2.1⟩
  · have := (hk i (by omega) h).2.1 hg
    rw [hl]
    exact this
  · exact (hk (t.length - 1) (by omega) h).2.2.2.2 (by omega)
theorem on14 : hasB 14 64 = false := by decide +kernel
theorem good_tail (l : List S34) (G : Good l) : Good (jH l) := by
  have R := G.right
  refine good_of l _ G (qP l) (fun i h h' => ?_)
  rw [get_of (tailF_get l i h) h']
  have hop := R.op i h
  unfold tailAt
  by_cases hc : l[i].f0 = 15 ∧ (l.getD (i + 1) z34).f0 = 16
  · rw [if_pos hc]
    refine ⟨by simp, fun _ => ?_, fit_tail _ hc.1 (G.size i h) (G.fit i h), G.size i h, fun _ => on14⟩
    exact R.goes i h (by rw [hc.1]; decide +kernel)
  · rw [if_neg hc]
    refine ⟨hop, R.goes i h, G.fit i h, G.size i h, fun e => ?_⟩
    subst e
    exact R.last h
theorem stops_on (op : Int) (h : stops op = true) : hasB op 64 = false ∧ hasB op 32 = false ∧ 1 ≤ op ∧ op ≤ 20 := by
  have e : op = 16 ∨ op = 17 ∨ op = 13 ∨ op = 12 := by
    unfold stops at h
    simpa using h
  rcases e with e | e | e | e <;> subst e <;> decide +kernel
theorem endOf_lt {l : List S34} (R : xl l) (i t : Nat) (h : i < l.length) (hg : hasB l[i].f0 32 = true) (he : endOf l i = some t) : t < l.length ∧ (l.getD t z34).f0 ≠ 14 := chain_lt R _ _ _ (ju R i h hg).1 he
theorem good_thread (l : List S34) (G : Good l) : Good (zT l) := by
  have R := G.right
  refine good_of l _ G (qp l) (fun i h h' => ?_)
  rw [get_of (threadF_get l i h) h']
  have hop := R.op i h
  have same : (1 ≤ l[i].f0 ∧ l[i].f0 ≤ 20) ∧ (hasB l[i].f0 32 = true → 0 ≤ (i : Int) + l[i].f1 ∧ (i : Int) + l[i].f1 < l.length) ∧ Fit l[i] ∧ l[i].f4.size ≤ 140737488351232 ∧ (i = l.length - 1 → hasB l[i].f0 64 = false) :=
    ⟨hop, R.goes i h, G.fit i h, G.size i h, fun e => by subst e; exact R.last h⟩
  unfold xL
  by_cases hg : hasB l[i].f0 32 = true
  · rw [if_pos hg]
    cases he : endOf l i with
    | none => exact same
    | some t =>
      obtain ⟨ht, hn⟩ := endOf_lt R i t h hg he
      simp only []
      by_cases hc : stops (l.getD t z34).f0 = true ∧ l[i].f0 = 14
      · rw [if_pos hc]
        rw [xu l t ht] at hc ⊢
        obtain ⟨s1, s2, _, _⟩ := stops_on _ hc.1
        exact ⟨R.op t ht, (fun z => by rw [s2] at z; cases z), G.fit t ht, G.size t ht, fun _ => s1⟩
      · rw [if_neg hc]
        refine ⟨hop, fun _ => ⟨by simp only []; omega, by simp only []; omega⟩, fit_move _ _ hop.1 hop.2 (G.size i h) hg (G.fit i h), G.size i h, fun e => by subst e; exact R.last h⟩
  · rw [if_neg hg]
    exact same
theorem rest_at' (l : List S34) (g : List Bool) (hg : g.length = l.length) (i : Nat) (hi : i < l.length) (h : g.getD i false = false) : (rest l g)[kept g i]? = some (jJ l g i l[i]) := by
  have hs : ∀ d : Nat, i + 1 + d ≤ l.length → (restTo l g (i + 1 + d))[kept g i]? = some (jJ l g i l[i]) := by
    intro d
    induction d with
    | zero =>
      intro _
      rw [Nat.add_zero, restTo_succ, List.getElem?_append_right (by rw [restTo_length l g i (by omega)]; exact Nat.le_refl _), restTo_length l g i (by omega), Nat.sub_self]
      unfold restAt
      rw [h, xu l i hi]
      rfl
    | succ d ih =>
      intro hd
      have := ih (by omega)
      rw [← Nat.add_assoc, restTo_succ, List.getElem?_append_left (List.getElem?_eq_some_iff.1 this).1]
      exact this
  have := hs (l.length - (i + 1)) (by omega)
  rwa [show i + 1 + (l.length - (i + 1)) = l.length by omega] at this
theorem rest_len (l : List S34) (g : List Bool) (hg : g.length = l.length) : (rest l g).length = kept g l.length := restTo_length l g l.length (by omega)
theorem kept_next (g : List Bool) (i : Nat) (h : i < g.length) (hi : g.getD i false = false) : kept g (i + 1) = kept g i + 1 := by rw [kept_succ g i h, if_neg (by rw [hi]; decide)]
theorem kept_find (g : List Bool) : ∀ n m : Nat, n ≤ g.length → m < kept g n → ∃ i, i < n ∧ g.getD i false = false ∧ kept g i = m := by
  intro n
  induction n with
  | zero => intro m _ h; rw [kept_zero] at h; omega
  | succ n ih =>
    intro m hn h
    rw [kept_succ g n (by omega)] at h
    by_cases hb : g.getD n false = true
    · rw [if_pos hb] at h
      obtain ⟨i, h1, h2, h3⟩ := ih m (by omega) h
      exact ⟨i, by omega, h2, h3⟩
    · rw [if_neg hb] at h
      by_cases hm : m < kept g n
      · obtain ⟨i, h1, h2, h3⟩ := ih m (by omega) hm
        exact ⟨i, by omega, h2, h3⟩
      · exact ⟨n, by omega, by simpa using hb, by omega⟩
theorem good_rest (l : List S34) (G : Good l) (g : List Bool) (hg : g.length = l.length)
    (h1 : ∃ j, j < l.length ∧ g.getD j false = false)
    (h2 : ∀ (i : Nat) (h : i < l.length), g.getD i false = false → hasB l[i].f0 64 = true → ∃ j, i < j ∧ j < l.length ∧ g.getD j false = false)
    (h3 : ∀ (i : Nat) (h : i < l.length), g.getD i false = false → hasB l[i].f0 32 = true → ∃ j, tgt l i ≤ j ∧ j < l.length ∧ g.getD j false = false) : Good (rest l g) := by
  have R := G.right
  have hlen := rest_len l g hg
  have below : ∀ j, j < l.length → g.getD j false = false → kept g j < kept g l.length := fun j hj hj2 => by
    have := kept_next g j (by omega) hj2
    have := kept_mono g (j + 1) l.length (by omega)
    omega
  have elem : ∀ (m : Nat) (h : m < (rest l g).length), ∃ i, ∃ hi : i < l.length, g.getD i false = false ∧ kept g i = m ∧ (rest l g)[m] = jJ l g i l[i] := by
    intro m h
    obtain ⟨i, hi, hi2, hi3⟩ := kept_find g l.length m (by omega) (by omega)
    refine ⟨i, hi, hi2, hi3, ?_⟩
    have := rest_at' l g hg i hi hi2
    rw [hi3] at this
    exact get_of this h
  obtain ⟨j0, hj0, hj1⟩ := h1
  refine ⟨⟨?_, ?_, fun m h => ?_, fun m h hgo => ?_, fun h => ?_⟩, fun m h => ?_, fun m h => ?_⟩
  · have := below j0 hj0 hj1; omega
  · have := jE g l.length; have := R.len; omega
  · obtain ⟨i, hi, hi2, hi3, e⟩ := elem m h
    rw [e]
    have := R.op i hi
    unfold jJ
    split <;> exact this
  · obtain ⟨i, hi, hi2, hi3, e⟩ := elem m h
    rw [e] at hgo ⊢
    unfold jJ at hgo ⊢
    by_cases hc : hasB l[i].f0 32 = true
    · rw [if_pos hc]
      obtain ⟨j, hj1, hj2, hj3⟩ := h3 i hi hi2 hc
      have a := below j hj2 hj3
      have b := kept_mono g (tgt l i) j hj1
      simp only []
      omega
    · rw [if_neg hc] at hgo
      exact absurd hgo hc
  · obtain ⟨i, hi, hi2, hi3, e⟩ := elem _ h
    rw [e]
    have e0 : (jJ l g i l[i]).f0 = l[i].f0 := by unfold jJ; split <;> rfl
    rw [e0]
    cases hon : hasB l[i].f0 64 with
    | false => rfl
    | true =>
      obtain ⟨j, hj1, hj2, hj3⟩ := h2 i hi hi2 hon
      have a := below j hj2 hj3
      have b := kept_next g i (by omega) hi2
      have c := kept_mono g (i + 1) j (by omega)
      omega
  · obtain ⟨i, hi, hi2, hi3, e⟩ := elem m h
    rw [e]
    have hop := R.op i hi
    unfold jJ
    by_cases hc : hasB l[i].f0 32 = true
    · rw [if_pos hc]; exact fit_move _ _ hop.1 hop.2 (G.size i hi) hc (G.fit i hi)
    · rw [if_neg hc]; exact G.fit i hi
  · obtain ⟨i, hi, hi2, hi3, e⟩ := elem m h
    rw [e]
    have := G.size i hi
    unfold jJ
    split <;> exact this
theorem rest_same (l : List S34) (R : xl l) (g : List Bool) (hg : g.length = l.length) (he : (rest l g).length = l.length) : rest l g = l ∧ ∀ i, i < l.length → g.getD i false = false := by
  have hlen := rest_len l g hg
  have up : ∀ d i : Nat, i + d = l.length → kept g l.length ≤ kept g i + d := by
    intro d
    induction d with
    | zero => intro i hi; have : i = l.length := by omega
              subst this; omega
    | succ d ih =>
      intro i hi
      have := ih (i + 1) (by omega)
      rw [kept_succ g i (by omega)] at this
      split at this <;> omega
  have kk : ∀ i, i ≤ l.length → kept g i = i := fun i hi => by
    have := up (l.length - i) i (by omega)
    have := jE g i
    omega
  have hf : ∀ i, i < l.length → g.getD i false = false := fun i hi => by
    have := kept_succ g i (by omega)
    rw [kk i (by omega), kk (i + 1) (by omega)] at this
    cases hb : g.getD i false with
    | false => rfl
    | true => rw [if_pos hb] at this; omega
  refine ⟨?_, hf⟩
  apply List.ext_getElem he
  intro i h1 h2
  have := rest_at' l g hg i h2 (hf i h2)
  rw [kk i (by omega)] at this
  rw [get_of this h1]
  unfold jJ
  by_cases hc : hasB l[i].f0 32 = true
  · rw [if_pos hc]
    have ht := ju R i h2 hc
    rw [kk i (by omega), kk (tgt l i) (by omega), ht.2]
    have : (i : Int) + l[i].f1 - (i : Int) = l[i].f1 := by omega
    rw [this]
  · rw [if_neg hc]
theorem pigeon : ∀ (n : Nat) (f : Nat → Nat), (∀ k, k ≤ n → f k < n) → ∃ a b, a < b ∧ b ≤ n ∧ f a = f b := by
  intro n
  induction n with
  | zero => intro f h; exact absurd (h 0 (Nat.le_refl _)) (by omega)
  | succ n ih =>
    intro f h
    by_cases hx : ∃ k, k ≤ n ∧ f k = f (n + 1)
    · obtain ⟨k, hk, e⟩ := hx
      exact ⟨k, n + 1, by omega, Nat.le_refl _, e⟩
    · have hn : ∀ k, k ≤ n → f k ≠ f (n + 1) := fun k hk e => hx ⟨k, hk, e⟩
      have hv := h (n + 1) (Nat.le_refl _)
      obtain ⟨a, b, hab, hb, e⟩ := ih (fun k => if f k = n then f (n + 1) else f k) (fun k hk => by
        have h1 := h k (by omega)
        have h2 := hn k hk
        show (if f k = n then f (n + 1) else f k) < n
        split <;> omega)
      have na := hn a (by omega)
      have nb := hn b hb
      refine ⟨a, b, hab, by omega, ?_⟩
      have e' : (if f a = n then f (n + 1) else f a) = (if f b = n then f (n + 1) else f b) := e
      split at e' <;> split at e' <;> omega
def posn (l : List S34) (p : Nat) : Nat → Nat
  | 0 => p
  | k + 1 => tgt l (posn l p k)
theorem posn_front (l : List S34) (p : Nat) : ∀ k, posn l (tgt l p) k = posn l p (k + 1) := by
  intro k
  induction k with
  | zero => rfl
  | succ k ih => show tgt l (posn l (tgt l p) k) = tgt l (posn l p (k + 1)); rw [ih]
theorem chain_none (l : List S34) : ∀ (m p : Nat), chain l m p = none ↔ ∀ k, k ≤ m → (l.getD (posn l p k) z34).f0 = 14 := by
  intro m
  induction m with
  | zero =>
    intro p
    unfold chain
    constructor
    · intro h k hk
      obtain rfl : k = 0 := by omega
      by_cases hc : (l.getD p z34).f0 = 14
      · exact hc
      · rw [if_neg hc] at h; cases h
    · intro h
      rw [if_pos (show (l.getD p z34).f0 = 14 from h 0 (Nat.le_refl _))]
  | succ m ih =>
    intro p
    unfold chain
    constructor
    · intro h k hk
      by_cases hc : (l.getD p z34).f0 = 14
      · rw [if_pos hc] at h
        cases k with
        | zero => exact hc
        | succ k => rw [← posn_front]; exact (ih _).1 h k (by omega)
      · rw [if_neg hc] at h; cases h
    · intro h
      rw [if_pos (show (l.getD p z34).f0 = 14 from h 0 (Nat.zero_le _))]
      exact (ih _).2 (fun k hk => by rw [posn_front]; exact h (k + 1) (by omega))
def Round (l : List S34) (p : Nat) : Prop := ∀ k, (l.getD (posn l p k) z34).f0 = 14
theorem posn_lt {l : List S34} (R : xl l) (p : Nat) (hp : p < l.length) (m : Nat) (h : ∀ k, k < m → (l.getD (posn l p k) z34).f0 = 14) : ∀ k, k ≤ m → posn l p k < l.length := by
  intro k
  induction k with
  | zero => intro _; exact hp
  | succ k ih =>
    intro hk
    have a := ih (by omega)
    have b := h k (by omega)
    rw [xu l _ a] at b
    exact (ju R _ a (by rw [b]; exact jump14)).1
theorem round_of {l : List S34} (R : xl l) (p : Nat) (hp : p < l.length) (h : chain l (l.length + 1) p = none) : Round l p := by
  have hj := (chain_none l _ p).1 h
  obtain ⟨a, b, hab, hb, e⟩ := pigeon l.length (posn l p) (fun k hk => posn_lt R p hp (l.length + 1) (fun k hk => hj k (by omega)) k (by omega))
  have per : ∀ j, posn l p (a + j) = posn l p (b + j) := by
    intro j
    induction j with
    | zero => exact e
    | succ j ih => show tgt l (posn l p (a + j)) = tgt l (posn l p (b + j)); rw [ih]
  intro k
  induction k using Nat.strongRecOn with
  | _ k ih =>
    by_cases hk : k ≤ l.length + 1
    · exact hj k hk
    · have := per (k - b)
      rw [show b + (k - b) = k by omega] at this
      rw [← this]
      exact ih _ (by omega)
theorem round_chain {l : List S34} {p : Nat} (h : Round l p) (m : Nat) : chain l m p = none := (chain_none l m p).2 (fun k _ => h k)
theorem round_next {l : List S34} {p : Nat} (h : Round l p) : Round l (tgt l p) := fun k => by rw [posn_front]; exact h (k + 1)
theorem thread_getD (l : List S34) (i : Nat) (h : i < l.length) : (zT l).getD i z34 = xL l i l[i] := by
  rw [List.getD_eq_getElem?_getD, threadF_get l i h]
  rfl
theorem round_kept {l : List S34} (R : xl l) {p : Nat} (hp : p < l.length) (h : Round l p) : (zT l).getD p z34 = l.getD p z34 := by
  rw [thread_getD l p hp, xu l p hp]
  unfold xL
  have h0 := h 0
  have e : endOf l p = none := round_chain (round_next h) _
  rw [e]
  split <;> rfl
theorem round_thread {l : List S34} (R : xl l) {p : Nat} (hp : p < l.length) (h : Round l p) : Round (zT l) p := by
  have hlt : ∀ k, posn l p k < l.length := fun k => posn_lt R p hp k (fun j _ => h j) k (Nat.le_refl _)
  have hr : ∀ k, Round l (posn l p k) := by
    intro k
    induction k with
    | zero => exact h
    | succ k ih => exact round_next ih
  have e : ∀ k, posn (zT l) p k = posn l p k := by
    intro k
    induction k with
    | zero => rfl
    | succ k ih =>
      show tgt (zT l) (posn (zT l) p k) = tgt l (posn l p k)
      rw [ih]
      unfold tgt
      rw [round_kept R (hlt k) (hr k)]
  intro k
  rw [e k, round_kept R (hlt k) (hr k)]
  exact h k
theorem thread_cases {l : List S34} (R : xl l) (i : Nat) (h : i < l.length) :
    ((zT l).getD i z34 = l[i] ∧ hasB l[i].f0 32 = false) ∨
    (hasB l[i].f0 32 = true ∧ Round l (tgt l i) ∧ (zT l).getD i z34 = l[i]) ∨
    (hasB l[i].f0 32 = true ∧ ∃ t, t < l.length ∧ l[i].f0 = 14 ∧ stops (l.getD t z34).f0 = true ∧ (zT l).getD i z34 = l.getD t z34) ∨
    (hasB l[i].f0 32 = true ∧ ∃ t, t < l.length ∧ (l.getD t z34).f0 ≠ 14 ∧ ¬ (stops (l.getD t z34).f0 = true ∧ l[i].f0 = 14) ∧ (zT l).getD i z34 = { l[i] with f1 := (t : Int) - (i : Int) }) := by
  rw [thread_getD l i h]
  unfold xL
  cases hg : hasB l[i].f0 32 with
  | false => left; exact ⟨by rw [if_neg (by decide)], rfl⟩
  | true =>
    right
    rw [if_pos rfl]
    cases he : endOf l i with
    | none => left; exact ⟨rfl, round_of R _ (ju R i h hg).1 he, rfl⟩
    | some t =>
      right
      obtain ⟨ht, hn⟩ := endOf_lt R i t h hg he
      simp only []
      by_cases hc : stops (l.getD t z34).f0 = true ∧ l[i].f0 = 14
      · left; rw [if_pos hc]; exact ⟨trivial, t, ht, hc.2, hc.1, rfl⟩
      · right; rw [if_neg hc]; exact ⟨trivial, t, ht, hn, hc, rfl⟩
theorem thread_op {l : List S34} (R : xl l) (t : Nat) (h : t < l.length) (hn : (l.getD t z34).f0 ≠ 14) : ((zT l).getD t z34).f0 = (l.getD t z34).f0 := by
  rw [xu l t h] at hn ⊢
  rcases thread_cases R t h with h1 | h1 | h1 | h1
  · rw [h1.1]
  · rw [h1.2.2]
  · obtain ⟨_, _, _, h2, _⟩ := h1; exact absurd h2 hn
  · obtain ⟨_, _, _, _, _, h2⟩ := h1; rw [h2]
theorem thread_idem {l : List S34} (R : xl l) : zT (zT l) = zT l := by
  apply List.ext_getElem (by rw [qp])
  intro i h1 h2
  have h : i < l.length := by rw [qp] at h2; exact h2
  have e1 : (zT (zT l))[i] = xL (zT l) i (zT l)[i] := get_of (threadF_get (zT l) i h2) h1
  have e2 : (zT l).getD i z34 = (zT l)[i] := xu _ i h2
  rw [e1]
  have et : tgt (zT l) i = ((i : Int) + ((zT l)[i]).f1).toNat := by unfold tgt; rw [e2]
  unfold xL
  rcases thread_cases R i h with h3 | h3 | h3 | h3
  · rw [← e2, h3.1, if_neg (by rw [h3.2]; decide)]
  · rw [← e2, h3.2.2, if_pos h3.1]
    have ht : tgt (zT l) i = tgt l i := by rw [et, ← e2, h3.2.2]; unfold tgt; rw [xu l i h]
    have : endOf (zT l) i = none := by
      unfold endOf
      rw [ht]
      exact round_chain (round_thread R (ju R i h h3.1).1 h3.2.1) _
    rw [this]
  · obtain ⟨_, t, ht, _, hs, h4⟩ := h3
    have := (stops_on _ hs).2.1
    rw [← e2, h4, if_neg (by rw [this]; decide)]
  · obtain ⟨hg, t, ht, hn, hc, h4⟩ := h3
    rw [← e2, h4, if_pos hg]
    have htt : tgt (zT l) i = t := by
      rw [et, ← e2, h4]
      simp only []
      omega
    have hop := thread_op R t ht hn
    have he : endOf (zT l) i = some t := by
      unfold endOf
      rw [htt]
      unfold chain
      rw [if_neg (by rw [hop]; exact hn)]
    rw [he]
    simp only []
    rw [if_neg (by rw [hop]; exact hc)]
def neqV (x y : S34) : Bool := !(x.f0 == y.f0) || (!(x.f1 == y.f1) || (!(x.f2 == y.f2) || (!(x.f3 == y.f3) || (!(x.f4.toList == y.f4.toList) || ((!(x.f5.f0 == y.f5.f0) || (!(x.f5.f1 == y.f5.f1) || (!(x.f5.f2 == y.f5.f2) || (!(x.f5.f3 == y.f5.f3))))))))))
theorem bytes_ext {s t : ByteArray} (h : s.toList = t.toList) : s = t := by
  rw [ByteArray.toList_eq, ByteArray.toList_eq] at h
  cases s; cases t
  congr 1
  exact Array.toList_inj.1 h
theorem neqV_iff (x y : S34) : neqV x y = false ↔ x = y := by
  constructor
  · intro h
    unfold neqV at h
    simp only [Bool.or_eq_false_iff, Bool.not_eq_false', beq_iff_eq] at h
    obtain ⟨h0, h1, h2, h3, h4, h5, h6, h7, h8⟩ := h
    obtain ⟨a0, a1, a2, a3, a4, a5, a6, a7, a8⟩ := x
    obtain ⟨b0, b1, b2, b3, b4, b5, b6, b7, b8⟩ := y
    simp only at h0 h1 h2 h3 h4 h5 h6 h7 h8
    have := bytes_ext h4
    subst h0; subst h1; subst h2; subst h3; subst this; subst h5; subst h6; subst h7; subst h8
    rfl
  · intro h
    subst h
    simp [neqV]
theorem neqV_true (x y : S34) : neqV x y = true ↔ x ≠ y := by
  have := neqV_iff x y
  cases h : neqV x y <;> simp_all
theorem same_loop (a b : List S34) (hab : a.length = b.length) (hl : a.length ≤ 8192) (d : Nat) : ∀ i : Nat, i + d = a.length → ∃ s : Bool, Ev (fun k => qO.l0 k a b (a.length : Int) (i : Int)) s ∧ Ev (fun k => zk.l0 k a b (i : Int)) s ∧ (s = true ↔ ∀ j, i ≤ j → j < a.length → a.getD j z34 = b.getD j z34) := by
  induction d with
  | zero =>
    intro i hi
    exact ⟨true, zy (fun k => qO.l0.eq_2 _ _ _ _ _) (ze (by omega) zm), zy (fun k => zk.l0.eq_2 _ _ _ _) (ze (by omega) zm), ⟨fun _ j h1 h2 => absurd h2 (by omega), fun _ => rfl⟩⟩
  | succ d ih =>
    intro i hi
    have hil : i < a.length := by omega
    have hw := qE (i := i) (by omega)
    have ra : za a (i : Int) = a.getD i z34 := by rw [rd34 a i hil, xu a i hil]
    have rb : za b (i : Int) = b.getD i z34 := by rw [rd34 b i (by omega), xu b i (by omega)]
    have pre : ∀ r, Ev (fun k => if neqV (a.getD i z34) (b.getD i z34) = true then some false else qO.l0 k a b (a.length : Int) ((i + 1 : Nat) : Int)) r → Ev (fun k => qO.l0 k a b (a.length : Int) (i : Int)) r := by
      intro r h
      refine zy (fun k => qO.l0.eq_2 _ _ _ _ _) (zd (by omega) (zd (by omega) (zd (by omega) (zd (by omega) ?_))))
      rw [ra, rb, hw]
      exact h
    have pre2 : ∀ r, Ev (fun k => if neqV (a.getD i z34) (b.getD i z34) = true then some false else zk.l0 k a b ((i + 1 : Nat) : Int)) r → Ev (fun k => zk.l0 k a b (i : Int)) r := by
      intro r h
      refine zy (fun k => zk.l0.eq_2 _ _ _ _) (zd (by omega) (zd (by omega) (zd (by omega) ?_)))
      rw [ra, rb, hw]
      exact h
    by_cases hn : neqV (a.getD i z34) (b.getD i z34) = true
    · exact ⟨false, pre _ (zd hn zm), pre2 _ (zd hn zm), ⟨(fun h => by cases h), fun h => absurd (h i (Nat.le_refl _) hil) ((neqV_true _ _).1 hn)⟩⟩
    · obtain ⟨s, h1, h2, h3⟩ := ih (i + 1) (by omega)
      have he : a.getD i z34 = b.getD i z34 := (neqV_iff _ _).1 (by simpa using hn)
      refine ⟨s, pre _ (ze hn h1), pre2 _ (ze hn h2), h3.trans ⟨fun h j hj hj2 => ?_, fun h j hj hj2 => h j (by omega) hj2⟩⟩
      by_cases e : j = i
      · subst e; exact he
      · exact h j (by omega) hj2
theorem same_ev (a b : List S34) (hl : a.length ≤ 8192) : ∃ s : Bool, Ev (fun k => jb.f k a b) s ∧ Ev (fun k => zk.f k a b) s ∧ (s = true ↔ a = b) := by
  by_cases hab : a.length = b.length
  · obtain ⟨s, h1, h2, h3⟩ := same_loop a b hab hl a.length 0 (by omega)
    refine ⟨s, ?_, ?_, h3.trans ⟨fun h => ?_, fun h j _ _ => by rw [h]⟩⟩
    · unfold jb.f qO.f
      exact zs (zd (by omega) h1) zm
    · unfold zk.f
      exact zd (by omega) h2
    · apply List.ext_getElem hab
      intro i i1 i2
      have := h i (Nat.zero_le _) i1
      rwa [xu a i i1, xu b i i2] at this
  · refine ⟨false, ?_, ?_, ⟨(fun h => by cases h), fun h => absurd (by rw [h]) hab⟩⟩
    · unfold jb.f qO.f
      exact zs (ze (by omega) zm) zm
    · unfold zk.f
      exact ze (by omega) zm
def nC : List S34 → Nat
  | [] => 0
  | x :: r => (if x.f0 = 15 then 1 else 0) + nC r
theorem nC_le : ∀ l : List S34, nC l ≤ l.length
  | [] => Nat.le_refl _
  | x :: r => by
    have := nC_le r
    simp only [nC, List.length_cons]
    split <;> omega
theorem cnt_le : ∀ (a b : List S34), a.length = b.length → (∀ i, (b.getD i z34).f0 = 15 → (a.getD i z34).f0 = 15) → nC b ≤ nC a ∧ ((∃ i, (a.getD i z34).f0 = 15 ∧ (b.getD i z34).f0 ≠ 15) → nC b < nC a)
  | [], [], _, _ => ⟨Nat.le_refl _, fun ⟨i, h, _⟩ => by simp at h; cases h⟩
  | [], _ :: _, h, _ => by simp at h
  | _ :: _, [], h, _ => by simp at h
  | x :: a, y :: b, h, hi => by
    obtain ⟨h1, h2⟩ := cnt_le a b (by simpa using h) (fun i hh => by have := hi (i + 1); simpa using this (by simpa using hh))
    have h0 : y.f0 = 15 → x.f0 = 15 := fun hh => by have := hi 0; simpa using this (by simpa using hh)
    simp only [nC]
    constructor
    · split <;> split <;> first | omega | (rename_i p q; exact absurd (h0 p) q)
    · rintro ⟨i, e1, e2⟩
      cases i with
      | zero =>
        have e1' : x.f0 = 15 := by simpa using e1
        have e2' : y.f0 ≠ 15 := by simpa using e2
        rw [if_pos e1', if_neg e2']
        omega
      | succ i =>
        have := h2 ⟨i, by simpa using e1, by simpa using e2⟩
        split <;> split <;> first | omega | (rename_i p q; exact absurd (h0 p) q)
theorem out_get (l : List S34) (i : Nat) (h : ¬ i < l.length) : l.getD i z34 = z34 := by rw [List.getD_eq_getElem?_getD, List.getElem?_eq_none (by omega)]; rfl
theorem tail_getD (l : List S34) (i : Nat) (h : i < l.length) : (jH l).getD i z34 = tailAt l i l[i] := by
  rw [List.getD_eq_getElem?_getD, tailF_get l i h]
  rfl
theorem tail_calls (l : List S34) : nC (jH l) ≤ nC l ∧ (jH l ≠ l → nC (jH l) < nC l) := by
  have hp : ∀ i, ((jH l).getD i z34).f0 = 15 → (l.getD i z34).f0 = 15 := by
    intro i h
    by_cases hi : i < l.length
    · rw [tail_getD l i hi] at h
      rw [xu l i hi]
      unfold tailAt at h
      split at h
      · simp at h
      · exact h
    · rw [out_get _ i (by rw [qP]; exact hi)] at h; exact absurd h (by decide)
  obtain ⟨h1, h2⟩ := cnt_le l (jH l) (qP l).symm hp
  refine ⟨h1, fun hne => h2 ?_⟩
  apply Classical.byContradiction
  intro hno
  apply hne
  apply List.ext_getElem (qP l)
  intro i i1 i2
  rw [get_of (tailF_get l i i2) i1]
  unfold tailAt
  by_cases hc : l[i].f0 = 15 ∧ (l.getD (i + 1) z34).f0 = 16
  · exfalso
    apply hno
    refine ⟨i, by rw [xu l i i2]; exact hc.1, ?_⟩
    rw [tail_getD l i i2]
    unfold tailAt
    rw [if_pos hc]
    simp
  · rw [if_neg hc]
theorem thread_calls {l : List S34} (R : xl l) : nC (zT l) ≤ nC l := by
  refine (cnt_le l (zT l) (qp l).symm (fun i h => ?_)).1
  by_cases hi : i < l.length
  · rw [xu l i hi]
    rcases thread_cases R i hi with h3 | h3 | h3 | h3
    · rw [h3.1] at h; exact h
    · rw [h3.2.2] at h; exact h
    · obtain ⟨_, t, ht, _, hs, h4⟩ := h3
      rw [h4] at h
      rw [h] at hs
      exact absurd hs (by decide)
    · obtain ⟨_, t, ht, _, _, h4⟩ := h3
      rw [h4] at h; exact h
  · rw [out_get _ i (by rw [qp]; exact hi)] at h; exact absurd h (by decide)
theorem live_closed (l : List S34) (G : Good l) : ∃ v : List Bool, Ev (fun k => qt.f k l) (v, 0) ∧ v.length = l.length ∧ v.getD 0 false = true ∧ ∀ i, i < l.length → v.getD i false = true → ∀ j : Nat, (j : Int) ∈ xK l i → v.getD j false = true := by
  have R := G.right
  obtain ⟨v, h1, h2, h3⟩ := live_ev l R (check_ok l R G.fit) (fun out w => (out.getD 0 false = true ∨ (0 : Int) ∈ w) ∧ ∀ i, i < l.length → out.getD i false = true → ∀ j : Nat, (j : Int) ∈ xK l i → out.getD j false = true ∨ (j : Int) ∈ w)
    (fun out w i hI hi hm => ⟨by
      rcases hI.1 with h | h
      · exact Or.inl h
      · rcases List.mem_append.1 h with h | h
        · exact Or.inr h
        · have : (0 : Int) = (i : Int) := by simpa using h
          have : i = 0 := by omega
          subst this; exact Or.inl hm, fun a ha ha2 j hj => by
      rcases hI.2 a ha ha2 j hj with h | h
      · exact Or.inl h
      · rcases List.mem_append.1 h with h | h
        · exact Or.inr h
        · have : (j : Int) = (i : Int) := by simpa using h
          have : j = i := by omega
          subst this; exact Or.inl hm⟩)
    (fun out w i hI hi hlen hm => by
      have same : (out.set i true).getD i false = true := by simp [List.getD_eq_getElem?_getD, hlen, hi]
      have other : ∀ j, out.getD j false = true → (out.set i true).getD j false = true := by
        intro j hj
        by_cases e : j = i
        · subst e; exact same
        · rw [List.getD_eq_getElem?_getD] at hj ⊢
          rw [List.getElem?_set_ne (fun z => e z.symm)]
          exact hj
      have back : ∀ j, j ≠ i → (out.set i true).getD j false = true → out.getD j false = true := by
        intro j e hj
        rw [List.getD_eq_getElem?_getD] at hj ⊢
        rwa [List.getElem?_set_ne (fun z => e z.symm)] at hj
      refine ⟨?_, fun a ha ha2 j hj => ?_⟩
      · rcases hI.1 with h | h
        · exact Or.inl (other 0 h)
        · rcases List.mem_append.1 h with h | h
          · exact Or.inr (List.mem_append.2 (Or.inl h))
          · have : (0 : Int) = (i : Int) := by simpa using h
            have : i = 0 := by omega
            subst this; exact Or.inl same
      · by_cases e : a = i
        · subst e
          exact Or.inr (List.mem_append.2 (Or.inr ((sort2_mem _ _).2 hj)))
        · rcases hI.2 a ha (back a e ha2) j hj with h | h
          · exact Or.inl (other j h)
          · rcases List.mem_append.1 h with h | h
            · exact Or.inr (List.mem_append.2 (Or.inl h))
            · have : (j : Int) = (i : Int) := by simpa using h
              have : j = i := by omega
              subst this; exact Or.inl same)
    ⟨Or.inr (by simp), fun i hi hm => by rw [List.getD_eq_getElem?_getD, List.getElem?_replicate, if_pos hi] at hm; cases hm⟩
  refine ⟨v, h1, h2, ?_, fun i hi hm j hj => ?_⟩
  · rcases h3.1 with h | h
    · exact h
    · cases h
  · rcases h3.2 i hi hm j hj with h | h
    · exact h
    · cases h
theorem notv (v : List Bool) (i : Nat) (h : i < v.length) : (v.map fun b => !b).getD i false = !(v.getD i false) := by
  simp [List.getD_eq_getElem?_getD, h]
theorem jumps_ev (l : List S34) (G : Good l) : ∃ h : List S34, Ev (fun k => (zY.f k l).bind fun y1 => (qX.f k y1).bind fun y2 => qR.f k y2) h ∧ Good h ∧ h.length ≤ l.length ∧
    (h.length = l.length → h = zT l ∧ (∃ v : List Bool, Ev (fun k => qt.f k h) (v, 0) ∧ v.length = h.length ∧ ∀ i, i < h.length → v.getD i false = true) ∧ ∀ (i : Nat), i < h.length → ¬ ((h.getD i z34).f0 = 14 ∧ (h.getD i z34).f1 = 1)) := by
  have R := G.right
  have T := good_thread l G
  obtain ⟨v, v1, v2, v3, v4⟩ := live_closed (zT l) T
  have gl : (v.map fun b => !b).length = (zT l).length := by simp [v2]
  have nf : ∀ i, i < (zT l).length → ((v.map fun b => !b).getD i false = false ↔ v.getD i false = true) := fun i hi => by
    rw [notv v i (by omega)]
    cases v.getD i false <;> simp
  have D : Good (rest (zT l) (v.map fun b => !b)) := by
    refine good_rest _ T _ gl ⟨0, T.right.pos, (nf 0 T.right.pos).2 v3⟩ (fun i hi hk hon => ?_) (fun i hi hk hg => ?_)
    · have hn := next_on T.right i hi hon
      refine ⟨i + 1, by omega, hn, (nf _ hn).2 (v4 i hi ((nf i hi).1 hk) (i + 1) ?_)⟩
      unfold xK
      rw [xu _ i hi, if_pos hon]
      simp
    · have ht := ju T.right i hi hg
      refine ⟨tgt (zT l) i, Nat.le_refl _, ht.1, (nf _ ht.1).2 (v4 i hi ((nf i hi).1 hk) _ ?_)⟩
      unfold xK
      rw [xu _ i hi]
      by_cases hc : hasB (zT l)[i].f0 64 = true ∧ (zT l)[i].f1 = 1
      · rw [if_pos hc.1]
        refine List.mem_append.2 (Or.inl ?_)
        have e := ht.2
        rw [hc.2] at e
        simp
        omega
      · rw [if_pos (c := hasB (zT l)[i].f0 32 = true ∧ ¬ (hasB (zT l)[i].f0 64 = true ∧ (zT l)[i].f1 = 1)) ⟨hg, hc⟩]
        exact List.mem_append.2 (Or.inr (by simp))
  have DR := D.right
  have hlast : (hopG (rest (zT l) (v.map fun b => !b))).getD ((rest (zT l) (v.map fun b => !b)).length - 1) false = false := by
    have hlt : (rest (zT l) (v.map fun b => !b)).length - 1 < (rest (zT l) (v.map fun b => !b)).length := by have := DR.pos; omega
    rw [List.getD_eq_getElem?_getD, hopG_get _ _ hlt]
    simp only [Option.getD_some, Bool.and_eq_false_iff, decide_eq_false_iff_not, beq_eq_false_iff_ne]
    by_cases h14 : (rest (zT l) (v.map fun b => !b))[(rest (zT l) (v.map fun b => !b)).length - 1].f0 = 14
    · right
      have := DR.goes _ hlt (by rw [h14]; exact jump14)
      omega
    · exact Or.inl h14
  have hlt : (rest (zT l) (v.map fun b => !b)).length - 1 < (rest (zT l) (v.map fun b => !b)).length := by have := DR.pos; omega
  have H : Good (rest (rest (zT l) (v.map fun b => !b)) (hopG (rest (zT l) (v.map fun b => !b)))) := by
    refine good_rest _ D _ (jM _) ⟨_, hlt, hlast⟩ (fun i hi hk hon => ⟨_, ?_, hlt, hlast⟩) (fun i hi hk hg => ⟨_, ?_, hlt, hlast⟩)
    · have := next_on DR i hi hon; omega
    · have := (ju DR i hi hg).1; omega
  have l1 := rest_len (zT l) _ gl
  have l2 := rest_len (rest (zT l) (v.map fun b => !b)) _ (jM _)
  have k1 := jE (v.map fun b => !b) (zT l).length
  have k2 := jE (hopG (rest (zT l) (v.map fun b => !b))) (rest (zT l) (v.map fun b => !b)).length
  have tl := qp l
  refine ⟨_, zs (threads_ev l R) (zs (dead_ev _ T.right v v2 v1) (hops_ev _ DR)), H, by omega, fun he => ?_⟩
  obtain ⟨e1, e2⟩ := rest_same (zT l) T.right _ gl (by omega)
  obtain ⟨e3, e4⟩ := rest_same _ DR _ (jM _) (by omega)
  have e5 : rest (rest (zT l) (v.map fun b => !b)) (hopG (rest (zT l) (v.map fun b => !b))) = zT l := e3.trans e1
  rw [e5]
  refine ⟨rfl, ⟨v, v1, v2, fun i hi => (nf i hi).1 (e2 i hi)⟩, fun i hi hc => ?_⟩
  have := e4 i (by rw [e1]; exact hi)
  rw [e1, List.getD_eq_getElem?_getD, hopG_get _ _ hi] at this
  rw [xu _ i hi] at hc
  simp [hc.1, hc.2] at this
def jA (a1 : Int) (l : List S34) : List S34 := if (Go.bits .and .i64 a1 32 != 0) = true then jH l else l
def simB (a1 : Int) (l : List S34) : List S34 := if (Go.bits .and .i64 a1 64 != 0) = true then zT (jA a1 l) else jA a1 l
def Facts (h : List S34) : Prop := (∃ v : List Bool, Ev (fun k => qt.f k h) (v, 0) ∧ v.length = h.length ∧ ∀ i, i < h.length → v.getD i false = true) ∧ ∀ (i : Nat), i < h.length → ¬ ((h.getD i z34).f0 = 14 ∧ (h.getD i z34).f1 = 1)
theorem good_tailB (a1 : Int) (l : List S34) (G : Good l) : Good (jA a1 l) := by
  unfold jA
  split
  · exact good_tail l G
  · exact G
theorem tailB_length (a1 : Int) (l : List S34) : (jA a1 l).length = l.length := by
  unfold jA
  split
  · exact qP l
  · rfl
theorem tailB_calls (a1 : Int) (l : List S34) : nC (jA a1 l) ≤ nC l ∧ (jA a1 l ≠ l → nC (jA a1 l) < nC l) := by
  unfold jA
  split
  · exact tail_calls l
  · exact ⟨Nat.le_refl _, fun h => absurd rfl h⟩
theorem round_ev (a1 : Int) (l : List S34) (G : Good l) : ∃ o : List S34, Ev (fun k => qf.round k l a1) o ∧ Good o ∧ o.length ≤ l.length ∧ (o.length = l.length → o = simB a1 l ∧ ((Go.bits .and .i64 a1 64 != 0) = true → Facts o)) := by
  have ht : Ev (fun k => if (Go.bits .and .i64 a1 32 != 0) = true then qH.f k l else some l) (jA a1 l) := by
    unfold jA
    by_cases h : (Go.bits .and .i64 a1 32 != 0) = true
    · rw [if_pos h]; exact zd h (tails_ev l G.right)
    · rw [if_neg h]; exact ze h zm
  have GT := good_tailB a1 l G
  have lt := tailB_length a1 l
  unfold qf.round simB
  by_cases h : (Go.bits .and .i64 a1 64 != 0) = true
  · obtain ⟨o, h1, h2, h3, h4⟩ := jumps_ev (jA a1 l) GT
    refine ⟨o, zs ht (zd h h1), h2, by omega, fun he => ?_⟩
    obtain ⟨e1, e2⟩ := h4 (by omega)
    rw [if_pos h]
    exact ⟨e1, fun _ => e2⟩
  · refine ⟨jA a1 l, zs ht (ze h zm), GT, by omega, fun he => ?_⟩
    rw [if_neg h]
    exact ⟨rfl, fun h' => absurd h' h⟩
theorem better_bad (a1 : Int) (l : List S34) (r : Int × Int) (hc : Ev (fun k => zC.f k l) r) (h : ¬ r.2 = 0) : Ev (fun k => qf.f k l a1) ([], r.2) := by
  unfold qf.f
  exact zs hc (ze h zm)
theorem better_range (a1 : Int) (l : List S34) (hl : l.length ≤ 8192) (hc : Ev (fun k => zC.f k l) (0, 0)) (h : ¬ (0 ≤ a1 ∧ a1 ≤ 127)) : Ev (fun k => qf.f k l a1) ([], 1) := by
  unfold qf.f
  refine zs hc (zd rfl ?_)
  by_cases h0 : 0 ≤ a1
  · exact zd h0 (ze (by omega) zm)
  · exact ze h0 zm
theorem clone_good (l : List S34) (r : Int × Int) (hs : ∀ x ∈ l, x.f4.size ≤ 140737488351232) (h : r = (0, 0) ∧ xl l ∧ ∀ (j : Nat) (h : j < l.length), Fit l[j]) : Good l := ⟨h.2.1, h.2.2, fun j hj => hs _ (List.getElem_mem hj)⟩
theorem copied_ev (l : List S34) (h : l.length ≤ 8192) : qM.f l = some l := by
  unfold qM.f
  simp only [Option.bind_some, List.length_nil, List.nil_append]
  rw [if_pos (by omega)]
theorem tails16_loop (l : List S34) (R : xl l) (d : Nat) : ∀ i : Nat, i + d + 1 = l.length → Ev (fun k => qa.l0 k l (mix (jH l) l i) (i : Int)) (jH l) := by
  have hl := R.len
  induction d with
  | zero =>
    intro i hi
    have hil : i < l.length := by omega
    refine zy (fun k => qa.l0.eq_2 _ _ _ _) ?_
    rw [qE (i := i) (by omega)]
    refine ze (by omega) ?_
    have hT := tailF_get l i hil
    have hz : l.getD (i + 1) z34 = z34 := by rw [List.getD_eq_getElem?_getD, List.getElem?_eq_none (by omega)]; rfl
    rw [mix_same (qP l) hil (by rw [hT]; unfold tailAt; rw [hz, if_neg (fun h => by have := h.2; cases this)]), show i + 1 = l.length by omega, mix_full (qP l)]
    exact zm
  | succ d ih =>
    intro i hi
    have hil : i < l.length := by omega
    have hi1 : i + 1 < l.length := by omega
    have hw := qE (i := i) (by omega)
    have hT := tailF_get l i hil
    have hn := ih (i + 1) (by omega)
    have hg : l.getD (i + 1) z34 = l[i + 1] := xu l _ hi1
    refine zy (fun k => qa.l0.eq_2 _ _ _ _) ?_
    rw [hw]
    refine zd (by omega) (zd (by omega) (zd (by omega) ?_))
    rw [rd34 l i hil, rd34 l (i + 1) hi1, rdm _ _ _ (qP l) hil]
    by_cases h15 : l[i].f0 = 15
    · refine zd h15 (zd (by omega) ?_)
      by_cases h16 : l[i + 1].f0 = 16
      · refine zd h16 (zd (by rw [ja (qP l) (by omega)]; omega) ?_)
        have ht : (jH l)[i]? = some (⟨14, l[i].f1, l[i].f2, l[i].f3, l[i].f4, ⟨l[i].f5.f0, l[i].f5.f1, l[i].f5.f2, l[i].f5.f3⟩⟩ : S34) := by
          rw [hT]; unfold tailAt; rw [if_pos ⟨h15, by rw [hg]; exact h16⟩]
        rw [Int.toNat_natCast, jy (qP l) hil _ ht]
        exact hn
      · refine ze h16 ?_
        rw [mix_same (qP l) hil (by rw [hT]; unfold tailAt; rw [if_neg (by rw [hg]; exact fun h => h16 h.2)])]
        exact hn
    · refine ze h15 ?_
      rw [mix_same (qP l) hil (by rw [hT]; unfold tailAt; rw [if_neg (fun h => h15 h.1)])]
      exact hn
theorem tails16_ev (l : List S34) (R : xl l) : Ev (fun k => qa.f k l) (jH l) := by
  unfold qa.f
  refine zA (copied_ev l R.len) ?_
  have hp := R.pos
  have := tails16_loop l R (l.length - 1) 0 (by omega)
  rwa [mix_zero] at this
theorem end16_l : ∀ (k : Nat) (x : List S34) (a b : Int), qm.l0 k x a b = xz.l0 k x a b
  | 0, _, _, _ => rfl
  | k + 1, x, a, b => by simp only [qm.l0, xz.l0, end16_l k]
theorem end16_ev (l : List S34) (R : xl l) (i : Nat) (hi : i < l.length) (hg : hasB l[i].f0 32 = true) : Ev (fun k => qm.f k l (i : Int)) (endR (endOf l i)) := by
  have h := end_ev l R i hi hg
  have e : (fun k => qm.f k l (i : Int)) = fun k => xz.f k l (i : Int) := by
    funext k
    simp only [qm.f, xz.f, end16_l]
  rw [e]
  exact h
theorem stop_plain (l : List S34) (G : Good l) (t : Nat) (ht : t < l.length) (hs : stops l[t].f0 = true) : l[t] = (⟨l[t].f0, 0, 0, 0, ⟨#[]⟩, ⟨0, 0, 0, 0⟩⟩ : S34) := by
  have hz := G.size t ht
  have hop := G.right.op t ht
  obtain ⟨nb, hn, _⟩ := name16 l[t].f4 hz
  obtain ⟨tb, hb⟩ := jC l[t].f4 hz
  have hv := ev_same (fits_val l[t] hop.1 hop.2 nb tb hn hb) (G.fit t ht)
  have hk : keepV l[t] = true := by
    cases h : keepV l[t] with
    | true => rfl
    | false => rw [h] at hv; cases hv
  have hm : hasB l[t].f0 1 = false ∧ hasB l[t].f0 2 = false ∧ hasB l[t].f0 4 = false ∧ hasB l[t].f0 8 = false ∧ hasB l[t].f0 16 = false := by
    have tab : ∀ op : Fin 21, stops (op.val : Int) = true → hasB (op.val : Int) 1 = false ∧ hasB (op.val : Int) 2 = false ∧ hasB (op.val : Int) 4 = false ∧ hasB (op.val : Int) 8 = false ∧ hasB (op.val : Int) 16 = false := by decide +kernel
    have e : ((l[t].f0.toNat : Nat) : Int) = l[t].f0 := by omega
    have := tab ⟨l[t].f0.toNat, by omega⟩
    simp only [e] at this
    exact this hs
  unfold keepV at hk
  rw [hm.1, hm.2.1, hm.2.2.1, hm.2.2.2.1, hm.2.2.2.2] at hk
  simp only [Bool.false_or, Bool.and_eq_true, beq_iff_eq] at hk
  obtain ⟨h1, h2, h3, h4, h5, h6, h7, h8⟩ := hk
  have h4' : l[t].f4 = ⟨#[]⟩ := bytes_ext (h4.trans nil_list.symm)
  generalize l[t] = x at *
  obtain ⟨a, b, c, d, e, ⟨f, g, h, i⟩⟩ := x
  simp only at h1 h2 h3 h4' h5 h6 h7 h8
  subst h1 h2 h3 h4' h5 h6 h7 h8
  rfl
theorem threads16_loop (l : List S34) (G : Good l) (d : Nat) : ∀ i : Nat, i + d = l.length → Ev (fun k => zx.l0 k l (mix (zT l) l i) (i : Int)) (zT l) := by
  have R := G.right
  have hl := R.len
  induction d with
  | zero =>
    intro i hi
    refine zy (fun k => zx.l0.eq_2 _ _ _ _) ?_
    refine ze (by omega) ?_
    obtain rfl : i = l.length := by omega
    rw [mix_full (qp l)]
    exact zm
  | succ d ih =>
    intro i hi
    have hil : i < l.length := by omega
    have hw := qE (i := i) (by omega)
    have hT := threadF_get l i hil
    have hn := ih (i + 1) (by omega)
    have hop := R.op i hil
    have hge := targets_val l[i].f0 hop.1 hop.2
    refine zy (fun k => zx.l0.eq_2 _ _ _ _) ?_
    refine zd (by omega) (zd (by omega) ?_)
    rw [rd34 l i hil, rdm _ _ _ (qp l) hil, hw]
    refine zA hge ?_
    cases hg : hasB l[i].f0 32 with
    | false =>
      refine ze (by decide) ?_
      rw [mix_same (qp l) hil (by rw [hT]; unfold xL; rw [hg]; rfl)]
      exact hn
    | true =>
      refine zd rfl ?_
      have hend := end16_ev l R i hil hg
      cases he : endOf l i with
      | none =>
        rw [he] at hend
        refine zs (y := (0, false)) hend ?_
        refine ze (by decide) ?_
        rw [mix_same (qp l) hil (by rw [hT]; unfold xL; rw [hg, he]; rfl)]
        exact hn
      | some t =>
        obtain ⟨ht, ht14⟩ := chain_lt R _ _ t (ju R i hil hg).1 he
        have htg := xu l t ht
        rw [he] at hend
        refine zs (y := ((t : Int), true)) hend ?_
        refine zd rfl ?_
        have hml := ja (qp l) (Nat.le_of_lt hil)
        refine zd (by rw [hml]; omega) ?_
        have hwt : wrap64 ((t : Int) - (i : Int)) = (t : Int) - (i : Int) := xh (by omega) (by omega)
        rw [hwt, Int.toNat_natCast]
        refine zA rfl ?_
        refine zd (by show 0 ≤ (t : Int); omega) (zd (by show (t : Int) < (l.length : Int); omega) ?_)
        rw [rd34 l t ht]
        have k2 : ¬ (stops l[t].f0 = true ∧ l[i].f0 = 14) → Ev (fun k => zx.l0 k l ((mix (zT l) l i).set i (⟨l[i].f0, (t : Int) - (i : Int), l[i].f2, l[i].f3, l[i].f4, ⟨l[i].f5.f0, l[i].f5.f1, l[i].f5.f2, l[i].f5.f3⟩⟩ : S34)) ((i + 1 : Nat) : Int)) (zT l) := by
          intro hns
          rw [jy (qp l) hil _ (by rw [hT]; unfold xL; rw [hg, he]; simp only [if_true]; rw [htg, if_neg hns])]
          exact hn
        have k1 : stops l[t].f0 = true → l[i].f0 = 14 → Ev (fun k => zx.l0 k l (((mix (zT l) l i).set i (⟨l[i].f0, (t : Int) - (i : Int), l[i].f2, l[i].f3, l[i].f4, ⟨l[i].f5.f0, l[i].f5.f1, l[i].f5.f2, l[i].f5.f3⟩⟩ : S34)).set i (⟨l[t].f0, 0, 0, 0, ⟨#[]⟩, ⟨0, 0, 0, 0⟩⟩ : S34)) ((i + 1 : Nat) : Int)) (zT l) := by
          intro hst h14
          rw [← stop_plain l G t ht hst, List.set_set, jy (qp l) hil _ (by rw [hT]; unfold xL; rw [hg, he]; simp only [if_true]; rw [htg, if_pos ⟨hst, h14⟩])]
          exact hn
        by_cases h14 : l[i].f0 = 14
        · refine zd h14 ?_
          by_cases h16 : l[t].f0 = 16
          · exact zd h16 (k1 (by unfold stops; rw [h16]; rfl) h14)
          · refine ze h16 ?_
            by_cases h17 : l[t].f0 = 17
            · exact zd h17 (k1 (by unfold stops; rw [h17]; rfl) h14)
            · refine ze h17 ?_
              by_cases h13 : l[t].f0 = 13
              · exact zd h13 (k1 (by unfold stops; rw [h13]; rfl) h14)
              · refine ze h13 ?_
                by_cases h12 : l[t].f0 = 12
                · exact zd h12 (k1 (by unfold stops; rw [h12]; rfl) h14)
                · refine ze h12 (k2 (fun h => ?_))
                  have := h.1
                  unfold stops at this
                  simp [h16, h17, h13, h12] at this
        · exact ze h14 (k2 (fun h => h14 h.2))
theorem threads16_ev (l : List S34) (G : Good l) : Ev (fun k => zx.f k l) (zT l) := by
  unfold zx.f
  refine zA (copied_ev l G.right.len) ?_
  have := threads16_loop l G l.length 0 (by omega)
  rwa [mix_zero] at this
theorem without16_l1 (l : List S34) (R : xl l) (g : List Bool) (hg : g.length = l.length) (b : List Int) (hb : Cnt g b l.length l.length) (d : Nat) : ∀ i : Nat, i + d = l.length →
    Ev (fun k => zp.l1 k l g b (restTo l g i) (i : Int)) (rest l g) := by
  have hl := R.len
  induction d with
  | zero =>
    intro i hi
    refine zy (fun k => zp.l1.eq_2 _ _ _ _ _ _) ?_
    refine ze (by omega) ?_
    obtain rfl : i = l.length := by omega
    exact zm
  | succ d ih =>
    intro i hi
    have hil : i < l.length := by omega
    have hw := qE (i := i) (by omega)
    have hop := R.op i hil
    have hge := targets_val l[i].f0 hop.1 hop.2
    have hn := ih (i + 1) (by omega)
    have hrl := restTo_length_le l g i
    rw [restTo_succ] at hn
    refine zy (fun k => zp.l1.eq_2 _ _ _ _ _ _) ?_
    refine zd (by omega) (zd (by omega) (zd (by omega) ?_))
    rw [rdBool, rd34 l i hil, hw]
    cases hgi : g.getD i false with
    | true =>
      have e : restAt l g i = none := by unfold restAt; rw [hgi]; rfl
      rw [e] at hn
      simp only [Option.toList_none, List.append_nil] at hn
      exact zd rfl hn
    | false =>
      have e : restAt l g i = some (jJ l g i l[i]) := by unfold restAt; rw [hgi, xu l i hil]; rfl
      rw [e] at hn
      simp only [Option.toList_some] at hn
      refine ze (by decide) (zA hge ?_)
      cases ho : hasB l[i].f0 32 with
      | true =>
        have ht := ju R i hil ho
        refine zd rfl ?_
        have hwt : wrap64 ((i : Int) + l[i].f1) = ((tgt l i : Nat) : Int) := by rw [xh (by omega) (by omega), ht.2]
        have k1 := jE g (tgt l i)
        have k2 := jE g i
        rw [hwt, hb.2 _ (by omega), hb.2 _ (by omega), xh (x := (kept g (tgt l i) : Int) - (kept g i : Int)) (by omega) (by omega)]
        have hbl := hb.1
        refine zd (by omega) (zd (by omega) (zd (by omega) (zd (by omega) ?_)))
        have em : jJ l g i l[i] = (⟨l[i].f0, (kept g (tgt l i) : Int) - (kept g i : Int), l[i].f2, l[i].f3, l[i].f4, ⟨l[i].f5.f0, l[i].f5.f1, l[i].f5.f2, l[i].f5.f3⟩⟩ : S34) := by unfold jJ; rw [ho]; rfl
        rw [← em]
        exact hn
      | false =>
        refine ze (by decide) (zd (by omega) ?_)
        have em : jJ l g i l[i] = l[i] := by unfold jJ; rw [ho]; rfl
        rw [eta34, ← em]
        rw [em]
        rw [em] at hn
        exact hn
theorem without16_l0 (l : List S34) (R : xl l) (g : List Bool) (hg : g.length = l.length) (d : Nat) : ∀ (i : Nat) (b : List Int), i + d = l.length → Cnt g b l.length i →
    Ev (fun k => zp.l0 k l g b (i : Int)) (rest l g) := by
  have hl := R.len
  induction d with
  | zero =>
    intro i b hi hb
    obtain rfl : i = l.length := by omega
    refine zy (fun k => zp.l0.eq_2 _ _ _ _ _) ?_
    refine ze (by omega) ?_
    exact without16_l1 l R g hg b hb l.length 0 (by omega)
  | succ d ih =>
    intro i b hi hb
    have hil : i < l.length := by omega
    have hw := qE (i := i) (by omega)
    have hbl := hb.1
    have hk := jE g i
    refine zy (fun k => zp.l0.eq_2 _ _ _ _ _) ?_
    rw [hw]
    refine zd (by omega) (zd (by omega) (zd (by omega) (zd (by omega) (zd (by omega) ?_))))
    refine zA rfl (zd (by omega) ?_)
    rw [rdBool, Int.toNat_natCast, hb.2 i (Nat.le_refl _), jO _ _ _ (by omega)]
    have hks := kept_succ g i (by omega)
    cases hgi : g.getD i false with
    | true =>
      rw [hgi] at hks
      refine zd rfl (ih (i + 1) _ (by omega) ⟨by simpa using hbl, fun j hj => ?_⟩)
      by_cases e : j = i + 1
      · subst e
        rw [jO _ _ _ (by omega), hks]
        simp
      · rw [rd_set_ne _ _ _ _ e]
        exact hb.2 j (by omega)
    | false =>
      rw [hgi] at hks
      rw [xh (x := (kept g i : Int) + 1) (by omega) (by omega), List.set_set]
      refine ze (by decide) (ih (i + 1) _ (by omega) ⟨by simpa using hbl, fun j hj => ?_⟩)
      by_cases e : j = i + 1
      · subst e
        rw [jO _ _ _ (by omega), hks]
        simp
      · rw [rd_set_ne _ _ _ _ e]
        exact hb.2 j (by omega)
theorem without16_ev (l : List S34) (R : xl l) (g : List Bool) (hg : g.length = l.length) : Ev (fun k => zp.f k l g) (rest l g) := by
  have hl := R.len
  unfold zp.f
  rw [qE (i := l.length) (by omega), Int.toNat_natCast]
  refine zd (by omega) (zd (by omega) ?_)
  refine without16_l0 l R g hg l.length 0 _ (by omega) ⟨by simp, fun j hj => ?_⟩
  obtain rfl : j = 0 := by omega
  simp [rd, kept, List.getD_eq_getElem?_getD]
theorem hops16_loop (l : List S34) (R : xl l) (d : Nat) : ∀ i : Nat, i + d = l.length → Ev (fun k => zZ.l0 k l (mix (hopG l) (List.replicate l.length false) i) (i : Int)) (rest l (hopG l)) := by
  have hl := R.len
  have hrep : (hopG l).length = (List.replicate l.length false).length := by simp [hopG]
  induction d with
  | zero =>
    intro i hi
    obtain rfl : i = l.length := by omega
    refine zy (fun k => zZ.l0.eq_2 _ _ _ _) ?_
    refine ze (by omega) ?_
    have e : mix (hopG l) (List.replicate l.length false) l.length = hopG l := by have := mix_full hrep; simpa using this
    rw [e]
    exact zs (without16_ev l R (hopG l) (jM l)) zm
  | succ d ih =>
    intro i hi
    have hil : i < l.length := by omega
    have hir : i < (List.replicate l.length false).length := by simpa using hil
    have hw := qE (i := i) (by omega)
    have hT := hopG_get l i hil
    have hn := ih (i + 1) (by omega)
    have hml : (mix (hopG l) (List.replicate l.length false) i).length = l.length := by rw [ja hrep (by simp; omega)]; simp
    refine zy (fun k => zZ.l0.eq_2 _ _ _ _) ?_
    refine zd (by omega) (zd (by omega) ?_)
    rw [rd34 l i hil, hw, Int.toNat_natCast]
    by_cases h14 : l[i].f0 = 14
    · refine zd h14 (zd (by omega) ?_)
      rw [jy hrep hir _ (by rw [hT, decide_eq_true h14]; simp)]
      exact hn
    · refine ze h14 (zd (by omega) ?_)
      rw [jy hrep hir _ (by rw [hT, decide_eq_false h14]; simp)]
      exact hn
theorem hops16_ev (l : List S34) (R : xl l) : Ev (fun k => zZ.f k l) (rest l (hopG l)) := by
  have hl := R.len
  unfold zZ.f
  refine zd (by omega) (zd (by omega) ?_)
  have := hops16_loop l R l.length 0 (by omega)
  rw [mix_zero] at this
  rwa [Int.toNat_natCast]
theorem dead16_loop (l : List S34) (R : xl l) (v : List Bool) (hv : v.length = l.length) (d : Nat) : ∀ i : Nat, i + d = l.length →
    Ev (fun k => z8.l0 k l v (mix (v.map fun b => !b) (List.replicate l.length false) i) (i : Int)) (rest l (v.map fun b => !b)) := by
  have hl := R.len
  have hrep : (v.map fun b => !b).length = (List.replicate l.length false).length := by simp [hv]
  induction d with
  | zero =>
    intro i hi
    obtain rfl : i = l.length := by omega
    refine zy (fun k => z8.l0.eq_2 _ _ _ _ _) ?_
    refine ze (by omega) ?_
    have e : mix (v.map fun b => !b) (List.replicate l.length false) l.length = (v.map fun b => !b) := by have := mix_full hrep; simpa using this
    rw [e]
    exact zs (without16_ev l R _ (by simp [hv])) zm
  | succ d ih =>
    intro i hi
    have hil : i < l.length := by omega
    have hir : i < (List.replicate l.length false).length := by simpa using hil
    have hw := qE (i := i) (by omega)
    have hn := ih (i + 1) (by omega)
    have hml : (mix (v.map fun b => !b) (List.replicate l.length false) i).length = l.length := by rw [ja hrep (by simp; omega)]; simp
    refine zy (fun k => z8.l0.eq_2 _ _ _ _ _) ?_
    refine zd (by omega) (zd (by omega) (zd (by omega) (zd (by omega) ?_)))
    rw [hw, Int.toNat_natCast, rdBool, jy hrep hir _ (by
      have : i < v.length := by omega
      simp [List.getD_eq_getElem?_getD, List.getElem?_eq_getElem this])]
    exact hn
theorem dead16_ev (l : List S34) (R : xl l) (v : List Bool) (hv : v.length = l.length) (hlive : Ev (fun k => zE.f k l) (v, 0)) : Ev (fun k => z8.f k l) (rest l (v.map fun b => !b)) := by
  have hl := R.len
  unfold z8.f
  refine zs hlive ?_
  refine zd (by omega) (zd (by omega) ?_)
  have := dead16_loop l R v hv l.length 0 (by omega)
  rw [mix_zero] at this
  rwa [Int.toNat_natCast]
inductive Rch (l : List S34) : Nat → Prop
  | zero : Rch l 0
  | next (i j : Nat) : Rch l i → i < l.length → (j : Int) ∈ xK l i → Rch l j
theorem set_getD (out : List Bool) (i j : Nat) (h : i < out.length) : (out.set i true).getD j false = true ↔ j = i ∨ out.getD j false = true := by
  by_cases e : j = i
  · subst e; simp [List.getD_eq_getElem?_getD, h]
  · simp only [List.getD_eq_getElem?_getD, List.getElem?_set_ne (fun z => e z.symm)]
    simp [e]
theorem live_iff (l : List S34) (G : Good l) : ∃ v : List Bool, Ev (fun k => qt.f k l) (v, 0) ∧ v.length = l.length ∧ ∀ i, i < l.length → (v.getD i false = true ↔ Rch l i) := by
  have R := G.right
  obtain ⟨v, h1, h2, h3, h4⟩ := live_closed l G
  obtain ⟨v', s1, s2, s3⟩ := live_ev l R (check_ok l R G.fit) (fun out w => (∀ i, i < l.length → out.getD i false = true → Rch l i) ∧ ∀ i : Nat, (i : Int) ∈ w → Rch l i)
    (fun out w i hI hi hm => ⟨hI.1, fun j hj => hI.2 j (List.mem_append_left _ hj)⟩)
    (fun out w i hI hi hlen hm => by
      have hr := hI.2 i (by simp)
      refine ⟨fun j hj hm2 => ?_, fun j hj => ?_⟩
      · rcases (set_getD out i j (by omega)).1 hm2 with e | e
        · subst e; exact hr
        · exact hI.1 j hj e
      · rcases List.mem_append.1 hj with h | h
        · exact hI.2 j (List.mem_append_left _ h)
        · exact Rch.next i j hr hi ((sort2_mem _ _).1 h))
    ⟨fun i hi hm => (by rw [List.getD_eq_getElem?_getD, List.getElem?_replicate, if_pos hi] at hm; cases hm), fun i hi => (by
      have : i = 0 := by simpa using hi
      subst this; exact Rch.zero)⟩
  have e := ev_same h1 s1
  simp only [Prod.mk.injEq, and_true] at e
  subst e
  refine ⟨v, h1, h2, fun i hi => ⟨s3.1 i hi, fun hr => ?_⟩⟩
  clear hi
  induction hr with
  | zero => exact h3
  | next i j hri hi hn ih => exact h4 i hi ih j hn
theorem ways_j1 (op : Int) (h0 : 1 ≤ op) (h1 : op ≤ 20) (i T : Nat) (hi : i < 8192) (hT : T < 8192) (f1 : Int) (hf : (i : Int) + f1 = (T : Int)) (x6 : List Int) (hx : x6.length ≤ 1) (b n : Int) (s : ByteArray) (w0 w1 w2 w3 : Int) (o : Bool) (res : List Int)
    (hres : res = x6 ++ (if o = true then [((i + 1 : Nat) : Int)] else []) ++ (if hasB op 32 = true ∧ (i + 1 < T ∨ T = i + 1 ∧ o = false) then [(T : Int)] else [])) :
    Ev (fun k => zW.j1 k (i : Int) x6 o op f1 b n s w0 w1 w2 w3) res := by
  have hw := qE (i := i) (by omega)
  have ht : wrap64 ((i : Int) + f1) = (T : Int) := by rw [xh (by omega) (by omega), hf]
  have tv := targets_val op h0 h1
  refine zy (fun k => zW.j1.eq_2 _ _ _ _ _ _ _ _ _ _ _ _ _) ?_
  rw [hw, ht]
  cases o with
  | true =>
    refine zd rfl (zd (by omega) (zA rfl (zA tv ?_)))
    cases hg : hasB op 32 with
    | true =>
      refine zd rfl ?_
      by_cases h : i + 1 < T
      · have e : res = (x6 ++ [((i + 1 : Nat) : Int)]) ++ [(T : Int)] := by rw [hres, hg]; simp [h]
        rw [e]
        exact zd (by omega) (zd (by simp; omega) zm)
      · have e : res = x6 ++ [((i + 1 : Nat) : Int)] := by rw [hres, hg]; simp [h]
        rw [e]
        refine ze (by omega) ?_
        by_cases h2 : (T : Int) = ((i + 1 : Nat) : Int)
        · exact zd h2 zm
        · exact ze h2 zm
    | false =>
      have e : res = x6 ++ [((i + 1 : Nat) : Int)] := by rw [hres, hg]; simp
      rw [e]
      exact ze (by decide) zm
  | false =>
    refine ze (by decide) (zA tv ?_)
    cases hg : hasB op 32 with
    | true =>
      refine zd rfl ?_
      by_cases h : i + 1 < T
      · have e : res = x6 ++ [(T : Int)] := by rw [hres, hg]; simp [h]
        rw [e]
        exact zd (by omega) (zd (by omega) zm)
      · refine ze (by omega) ?_
        by_cases h2 : T = i + 1
        · have e : res = x6 ++ [(T : Int)] := by rw [hres, hg]; simp [h2]
          rw [e]
          exact zd (by omega) (zd (by omega) zm)
        · have e : res = x6 := by rw [hres, hg]; simp [h, h2]
          rw [e]
          exact ze (by omega) zm
    | false =>
      have e : res = x6 := by rw [hres, hg]; simp
      rw [e]
      exact ze (by decide) zm
theorem ways_ev (l : List S34) (R : xl l) (i : Nat) (hi : i < l.length) : ∃ W : List Int, Ev (fun k => zW.f k l (i : Int)) W ∧ (∀ x, x ∈ W ↔ x ∈ xK l i) ∧ W.length ≤ 3 := by
  have hl := R.len
  have hop := R.op i hi
  obtain ⟨u, u1, _, u3, _⟩ := uses_at l[i].f0 hop.1 hop.2
  have tv := targets_val l[i].f0 hop.1 hop.2
  have hw := qE (i := i) (by omega)
  unfold xK
  rw [xu l i hi]
  cases hg : hasB l[i].f0 32 with
  | true =>
    have ht := ju R i hi hg
    have hT : wrap64 ((i : Int) + l[i].f1) = ((tgt l i : Nat) : Int) := by rw [xh (by omega) (by omega), ht.2]
    have J := fun x6 hx => ways_j1 l[i].f0 hop.1 hop.2 i (tgt l i) (by omega) (by omega) l[i].f1 ht.2.symm x6 hx l[i].f2 l[i].f3 l[i].f4 l[i].f5.f0 l[i].f5.f1 l[i].f5.f2 l[i].f5.f3 (hasB l[i].f0 64) _ rfl
    refine ⟨(if tgt l i < i + 1 then [((tgt l i : Nat) : Int)] else []) ++ (if hasB l[i].f0 64 = true then [((i + 1 : Nat) : Int)] else []) ++ (if hasB l[i].f0 32 = true ∧ (i + 1 < tgt l i ∨ tgt l i = i + 1 ∧ hasB l[i].f0 64 = false) then [((tgt l i : Nat) : Int)] else []), ?_, ?_, ?_⟩
    · unfold zW.f
      refine zd (by omega) (zd (by omega) ?_)
      rw [rd34 l i hi, hT, hw]
      refine zA u1 (zA tv ?_)
      rw [hg]
      refine zd rfl ?_
      rw [u3]
      refine zy (fun k => zW.j0.eq_2 _ _ _ _ _ _ _ _ _ _ _ _ _ _) ?_
      rw [hT]
      by_cases h : tgt l i < i + 1
      · rw [if_pos h]
        rw [decide_eq_true (show ((tgt l i : Nat) : Int) < ((i + 1 : Nat) : Int) by omega)]
        refine zd rfl (zd (by simp) ?_)
        have := J [((tgt l i : Nat) : Int)] (by simp)
        rw [hg] at this
        exact this
      · rw [if_neg h]
        rw [decide_eq_false (show ¬ ((tgt l i : Nat) : Int) < ((i + 1 : Nat) : Int) by omega)]
        refine ze (by decide) ?_
        have := J [] (by simp)
        rw [hg] at this
        exact this
    · intro x
      have e1 : l[i].f1 = 1 ↔ tgt l i = i + 1 := by omega
      simp only [hg, true_and, e1, List.mem_append]
      by_cases ho : hasB l[i].f0 64 = true
      · simp only [ho, if_true, true_and, Bool.true_eq_false, and_false, or_false]
        by_cases h1 : tgt l i < i + 1
        · rw [if_pos h1, if_neg (show ¬ i + 1 < tgt l i by omega), if_pos (show ¬ tgt l i = i + 1 by omega)]
          simp only [List.mem_singleton, List.not_mem_nil, or_false]
          exact Or.comm
        · by_cases h2 : i + 1 < tgt l i
          · rw [if_neg h1, if_pos h2, if_pos (show ¬ tgt l i = i + 1 by omega)]
            simp
          · rw [if_neg h1, if_neg h2, if_neg (show ¬ ¬ tgt l i = i + 1 by omega)]
            simp
      · have ho' : hasB l[i].f0 64 = false := by simpa using ho
        simp only [ho', Bool.false_eq_true, if_false, false_and, not_false_eq_true, if_true, and_true]
        by_cases h1 : tgt l i < i + 1
        · rw [if_pos h1, if_neg (show ¬ (i + 1 < tgt l i ∨ tgt l i = i + 1) by omega)]
          simp
        · rw [if_neg h1, if_pos (show (i + 1 < tgt l i ∨ tgt l i = i + 1) by omega)]
          simp
    · simp only [List.length_append]
      repeat' split
      all_goals simp
  | false =>
    refine ⟨(if hasB l[i].f0 64 = true then [((i + 1 : Nat) : Int)] else []), ?_, ?_, ?_⟩
    · unfold zW.f
      refine zd (by omega) (zd (by omega) ?_)
      rw [rd34 l i hi]
      refine zA u1 (zA tv ?_)
      rw [hg]
      refine ze (by decide) ?_
      rw [u3]
      refine zy (fun k => zW.j0.eq_2 _ _ _ _ _ _ _ _ _ _ _ _ _ _) ?_
      refine ze (by decide) ?_
      refine zy (fun k => zW.j1.eq_2 _ _ _ _ _ _ _ _ _ _ _ _ _) ?_
      rw [hw]
      by_cases ho : hasB l[i].f0 64 = true
      · have e : (if hasB l[i].f0 64 = true then [((i + 1 : Nat) : Int)] else []) = [((i + 1 : Nat) : Int)] := if_pos ho
        rw [e]
        refine zd ho (zd (by simp) (zA rfl (zA tv ?_)))
        rw [hg]
        exact ze (by decide) zm
      · have e : (if hasB l[i].f0 64 = true then [((i + 1 : Nat) : Int)] else []) = [] := if_neg ho
        rw [e]
        refine ze ho (zA tv ?_)
        rw [hg]
        exact ze (by decide) zm
    · intro x
      simp
    · split <;> simp
def visit : List Bool → List Int → List Int → List Bool × List Int
  | out, w, [] => (out, w)
  | out, w, x :: r => if out.getD x.toNat false = true then visit out w r else visit (out.set x.toNat true) (w ++ [x]) r
theorem visit_spec (n : Nat) : ∀ (W : List Int) (out : List Bool) (w : List Int), out.length = n → (∀ x ∈ W, ∃ j : Nat, x = (j : Int) ∧ j < n) →
    (visit out w W).1.length = n ∧ lack (visit out w W).1 + (visit out w W).2.length = lack out + w.length ∧
    (∀ j, j < n → ((visit out w W).1.getD j false = true ↔ out.getD j false = true ∨ (j : Int) ∈ W)) ∧
    (∀ x ∈ (visit out w W).2, x ∈ w ∨ x ∈ W) ∧ (∀ x ∈ w, x ∈ (visit out w W).2) ∧
    (∀ j, j < n → (visit out w W).1.getD j false = true → out.getD j false = true ∨ (j : Int) ∈ (visit out w W).2)
  | [], out, w, ho, hW => ⟨ho, rfl, fun j hj => by simp [visit], fun x hx => Or.inl hx, fun x hx => hx, fun j hj h => Or.inl h⟩
  | x :: r, out, w, ho, hW => by
    obtain ⟨a, rfl, ha⟩ := hW x (by simp)
    have hr : ∀ y ∈ r, ∃ j : Nat, y = (j : Int) ∧ j < n := fun y hy => hW y (List.mem_cons_of_mem _ hy)
    unfold visit
    rw [Int.toNat_natCast]
    by_cases h : out.getD a false = true
    · rw [if_pos h]
      obtain ⟨q1, q2, q3, q4, q5, q6⟩ := visit_spec n r out w ho hr
      refine ⟨q1, q2, fun j hj => ?_, fun y hy => ?_, q5, q6⟩
      · rw [q3 j hj]
        constructor
        · rintro (z | z)
          · exact Or.inl z
          · exact Or.inr (List.mem_cons_of_mem _ z)
        · rintro (z | z)
          · exact Or.inl z
          · rcases List.mem_cons.1 z with e | e
            · have : j = a := by omega
              subst this; exact Or.inl h
            · exact Or.inr e
      · rcases q4 y hy with z | z
        · exact Or.inl z
        · exact Or.inr (List.mem_cons_of_mem _ z)
    · rw [if_neg h]
      have hlt : a < out.length := by omega
      obtain ⟨q1, q2, q3, q4, q5, q6⟩ := visit_spec n r (out.set a true) (w ++ [(a : Int)]) (by simpa using ho) hr
      have hs := lack_set out a (by
        simp [List.getD_eq_getElem?_getD, List.getElem?_eq_getElem hlt] at h ⊢
        exact h) hlt
      refine ⟨q1, by rw [q2]; simp; omega, fun j hj => ?_, fun y hy => ?_, fun y hy => q5 y (List.mem_append_left _ hy), fun j hj hm => ?_⟩
      · rw [q3 j hj, set_getD out a j hlt]
        constructor
        · rintro ((z | z) | z)
          · exact Or.inr (by rw [z]; exact List.mem_cons_self ..)
          · exact Or.inl z
          · exact Or.inr (List.mem_cons_of_mem _ z)
        · rintro (z | z)
          · exact Or.inl (Or.inr z)
          · rcases List.mem_cons.1 z with e | e
            · exact Or.inl (Or.inl (by omega))
            · exact Or.inr e
      · rcases q4 y hy with z | z
        · rcases List.mem_append.1 z with e | e
          · exact Or.inl e
          · exact Or.inr (by rw [List.mem_singleton.1 e]; exact List.mem_cons_self ..)
        · exact Or.inr (List.mem_cons_of_mem _ z)
      · rcases q6 j hj hm with z | z
        · rcases (set_getD out a j hlt).1 z with e | e
          · exact Or.inr (q5 _ (by rw [e]; simp))
          · exact Or.inl e
        · exact Or.inr z
theorem visit_l1 (l : List S34) (W : List Int) (hl : l.length ≤ 8192) (hWl : W.length ≤ 3) (hW : ∀ x ∈ W, ∃ j : Nat, x = (j : Int) ∧ j < l.length) (r : List Bool × Int) (d : Nat) : ∀ (i : Nat) (out : List Bool) (w : List Int), i + d = W.length → out.length = l.length → w.length + d ≤ 20000 →
    Ev (fun k => zE.l0 k l (visit out w (W.drop i)).1 (visit out w (W.drop i)).2) r → Ev (fun k => zE.l1 k l out w W (i : Int)) r := by
  induction d with
  | zero =>
    intro i out w hi ho hw h
    rw [List.drop_eq_nil_of_le (by omega)] at h
    exact zy (fun k => zE.l1.eq_2 _ _ _ _ _ _) (ze (by omega) h)
  | succ d ih =>
    intro i out w hi ho hw h
    have hil : i < W.length := by omega
    obtain ⟨a, ea, ha⟩ := hW W[i] (List.getElem_mem hil)
    have hrd : rd W (i : Int) = (a : Int) := by rw [← ea]; simp [rd, List.getD_eq_getElem?_getD, List.getElem?_eq_getElem hil]
    have hws := qE (i := i) (by omega)
    rw [List.drop_eq_getElem_cons hil, ea] at h
    unfold visit at h
    rw [Int.toNat_natCast] at h
    refine zy (fun k => zE.l1.eq_2 _ _ _ _ _ _) (zd (by omega) (zd (by omega) ?_))
    rw [hrd, hws, rdBool, Int.toNat_natCast]
    refine zd (by omega) (zd (by omega) ?_)
    by_cases hm : out.getD a false = true
    · rw [if_pos hm] at h
      exact zd hm (ih (i + 1) out w (by omega) ho (by omega) h)
    · rw [if_neg hm] at h
      exact ze hm (zd (by omega) (ih (i + 1) _ _ (by omega) (by simpa using ho) (by simp; omega) h))
structure Srch (l : List S34) (out : List Bool) (w : List Int) : Prop where
  len : out.length = l.length
  zero : out.getD 0 false = true
  sound : ∀ i, i < l.length → out.getD i false = true → Rch l i
  work : ∀ x ∈ w, ∃ j : Nat, x = (j : Int) ∧ j < l.length ∧ out.getD j false = true
  shut : ∀ i, i < l.length → out.getD i false = true → (i : Int) ∈ w ∨ ∀ j : Nat, (j : Int) ∈ xK l i → out.getD j false = true
theorem srch_step (l : List S34) (R : xl l) (out : List Bool) (p : Nat) (w : List Int) (S : Srch l out ((p : Int) :: w)) (W : List Int) (hW : ∀ x, x ∈ W ↔ x ∈ xK l p) : Srch l (visit out w W).1 (visit out w W).2 := by
  obtain ⟨p', e, hp, hpm⟩ := S.work (p : Int) (by simp)
  have : p' = p := by omega
  subst this
  have hWn : ∀ x ∈ W, ∃ j : Nat, x = (j : Int) ∧ j < l.length := fun x hx => nexts_lt R p' hp x ((hW x).1 hx)
  obtain ⟨q1, q2, q3, q4, q5, q6⟩ := visit_spec l.length W out w S.len hWn
  refine ⟨q1, (q3 0 R.pos).2 (Or.inl S.zero), fun i hi hm => ?_, fun x hx => ?_, fun i hi hm => ?_⟩
  · rcases (q3 i hi).1 hm with h | h
    · exact S.sound i hi h
    · exact Rch.next p' i (S.sound p' hp hpm) hp ((hW _).1 h)
  · rcases q4 x hx with h | h
    · obtain ⟨j, ej, hj, hjm⟩ := S.work x (List.mem_cons_of_mem _ h)
      exact ⟨j, ej, hj, (q3 j hj).2 (Or.inl hjm)⟩
    · obtain ⟨j, ej, hj⟩ := hWn x h
      exact ⟨j, ej, hj, (q3 j hj).2 (Or.inr (by rw [← ej]; exact h))⟩
  · rcases q6 i hi hm with h | h
    · rcases S.shut i hi h with z | z
      · rcases List.mem_cons.1 z with e2 | e2
        · have : i = p' := by omega
          subst this
          refine Or.inr (fun j hj => ?_)
          obtain ⟨j', ej, hj'⟩ := nexts_lt R i hi (j : Int) hj
          have : j' = j := by omega
          subst this
          exact (q3 j' hj').2 (Or.inr ((hW _).2 hj))
        · exact Or.inl (q5 _ e2)
      · refine Or.inr (fun j hj => ?_)
        obtain ⟨j', ej, hj'⟩ := nexts_lt R i hi (j : Int) hj
        have : j' = j := by omega
        subst this
        exact (q3 j' hj').2 (Or.inl (z j' hj))
    · exact Or.inl h
theorem live16_loop (l : List S34) (R : xl l) (m : Nat) : ∀ (out : List Bool) (w : List Int), Srch l out w → lack out + w.length ≤ m → lack out + w.length ≤ 9000 →
    ∃ v : List Bool, Ev (fun k => zE.l0 k l out w) (v, 0) ∧ Srch l v [] := by
  have hl := R.len
  induction m with
  | zero =>
    intro out w S hm _
    have : w = [] := List.eq_nil_of_length_eq_zero (by omega)
    subst this
    exact ⟨out, zy (fun k => zE.l0.eq_2 _ _ _ _) (ze (by simp) zm), S⟩
  | succ m ih =>
    intro out w S hm hb
    cases w with
    | nil => exact ⟨out, zy (fun k => zE.l0.eq_2 _ _ _ _) (ze (by simp) zm), S⟩
    | cons x w' =>
      obtain ⟨p, rfl, hp, hpm⟩ := S.work x (by simp)
      obtain ⟨W, w1, w2, w3⟩ := ways_ev l R p hp
      have hWn : ∀ x ∈ W, ∃ j : Nat, x = (j : Int) ∧ j < l.length := fun x hx => nexts_lt R p hp x ((w2 x).1 hx)
      have S2 := srch_step l R out p w' S W w2
      obtain ⟨q1, q2, _⟩ := visit_spec l.length W out w' S.len hWn
      simp only [List.length_cons] at hm hb
      obtain ⟨v, v1, v2⟩ := ih _ _ S2 (by omega) (by omega)
      refine ⟨v, ?_, v2⟩
      refine zy (fun k => zE.l0.eq_2 _ _ _ _) (zd (by simp only [List.length_cons]; omega) (zd (by simp only [List.length_cons]; omega) ?_))
      rw [show rd ((p : Int) :: w') 0 = (p : Int) from rfl]
      refine zs w1 (zd (by simp only [List.length_cons]; omega) ?_)
      rw [show ((p : Int) :: w').drop (1 : Int).toNat = w' from rfl]
      exact visit_l1 l W hl w3 hWn _ W.length 0 out w' (by omega) S.len (by omega) (by simpa using v1)
theorem check16_ok (l : List S34) (G : Good l) : Ev (fun k => zo.f k l) (0, 0) := by
  obtain ⟨r, c1, c2, _⟩ := check16 l (fun x hx => by
    obtain ⟨i, hi, rfl⟩ := List.getElem_of_mem hx
    exact G.size i hi)
  have e := ev_same c1 (check_ok l G.right G.fit)
  subst e
  exact c2
theorem live16_iff (l : List S34) (G : Good l) : ∃ v : List Bool, Ev (fun k => zE.f k l) (v, 0) ∧ v.length = l.length ∧ ∀ i, i < l.length → (v.getD i false = true ↔ Rch l i) := by
  have R := G.right
  have hl := R.len
  have hp := R.pos
  have hlk : lack (List.replicate l.length false) = l.length := by simp [lack]
  have hs := lack_set (List.replicate l.length false) 0 (by simp [List.getD_eq_getElem?_getD, List.getElem?_replicate, hp]) (by simpa using hp)
  have z0 : ∀ i, i < l.length → ((List.replicate l.length false).set 0 true).getD i false = true → i = 0 := fun i hi h => by
    rcases (set_getD _ 0 i (by simpa using hp)).1 h with e | e
    · exact e
    · rw [List.getD_eq_getElem?_getD, List.getElem?_replicate, if_pos hi] at e; cases e
  have S : Srch l ((List.replicate l.length false).set 0 true) [0] := by
    refine ⟨by simp, (set_getD _ 0 0 (by simpa using hp)).2 (Or.inl rfl), fun i hi h => ?_, fun x hx => ⟨0, by simpa using hx, hp, (set_getD _ 0 0 (by simpa using hp)).2 (Or.inl rfl)⟩, fun i hi h => Or.inl (by rw [z0 i hi h]; simp)⟩
    rw [z0 i hi h]; exact Rch.zero
  obtain ⟨v, v1, v2⟩ := live16_loop l R _ _ _ S (Nat.le_refl _) (by simp; omega)
  refine ⟨v, ?_, v2.len, fun i hi => ⟨v2.sound i hi, fun hr => ?_⟩⟩
  · unfold zE.f
    refine zs (check16_ok l G) (zd rfl (zd (by omega) (zd (by omega) ?_)))
    rw [Int.toNat_natCast]
    refine zA rfl (zd (by simpa using hp) ?_)
    exact v1
  · clear hi
    induction hr with
    | zero => exact v2.zero
    | next i j hri hi hn ih =>
      rcases v2.shut i hi ih with h | h
      · cases h
      · exact h j hn
theorem live_both (l : List S34) (G : Good l) : ∃ v : List Bool, Ev (fun k => qt.f k l) (v, 0) ∧ Ev (fun k => zE.f k l) (v, 0) ∧ v.length = l.length ∧ v.getD 0 false = true ∧ ∀ i, i < l.length → v.getD i false = true → ∀ j : Nat, (j : Int) ∈ xK l i → v.getD j false = true := by
  obtain ⟨v, a1, a2, a3⟩ := live_iff l G
  obtain ⟨u, b1, b2, b3⟩ := live16_iff l G
  obtain ⟨x, c1, c2, c3, c4⟩ := live_closed l G
  have e := ev_same a1 c1
  simp only [Prod.mk.injEq, and_true] at e
  subst e
  have e2 : u = v := by
    refine List.ext_getElem (by omega) (fun i hi hj => ?_)
    have h1 := a3 i (by omega)
    have h2 := b3 i (by omega)
    rw [List.getD_eq_getElem?_getD, List.getElem?_eq_getElem hj] at h1
    rw [List.getD_eq_getElem?_getD, List.getElem?_eq_getElem hi] at h2
    have h3 := h2.trans h1.symm
    simp only [Option.getD_some] at h3
    cases hu : u[i] <;> cases hv : v[i] <;> simp [hu, hv] at h3 ⊢
  subst e2
  exact ⟨u, a1, b1, a2, c3, c4⟩
theorem flag_tab2 : ∀ i : Fin 128, decide (Int.tmod (wrap64 (Int.tdiv (i.val : Int) 32)) 2 = 1) = (Go.bits .and .i64 (i.val : Int) 32 != 0) ∧ decide (Int.tmod (wrap64 (Int.tdiv (i.val : Int) 64)) 2 = 1) = (Go.bits .and .i64 (i.val : Int) 64 != 0) := by decide +kernel
theorem flag_both (a1 : Int) (h0 : 0 ≤ a1) (h1 : a1 ≤ 127) : (Int.tmod (wrap64 (Int.tdiv a1 32)) 2 = 1 ↔ (Go.bits .and .i64 a1 32 != 0) = true) ∧ (Int.tmod (wrap64 (Int.tdiv a1 64)) 2 = 1 ↔ (Go.bits .and .i64 a1 64 != 0) = true) := by
  have h := flag_tab2 ⟨a1.toNat, by omega⟩
  simp only [Int.toNat_of_nonneg h0] at h
  rw [← h.1, ← h.2]
  simp
theorem same16_l : ∀ (k : Nat) (a b : List S34) (i : Int), qi.l0 k a b i = zk.l0 k a b i
  | 0, _, _, _ => rfl
  | k + 1, a, b, i => by simp only [qi.l0, zk.l0, same16_l k]
theorem same16 (k : Nat) (a b : List S34) : qi.f k a b = zk.f k a b := by simp only [qi.f, zk.f, same16_l]
theorem same16_ev (a b : List S34) (hl : a.length ≤ 8192) : ∃ s : Bool, Ev (fun k => qi.f k a b) s ∧ (s = true ↔ a = b) := by
  obtain ⟨s, _, s2, s3⟩ := same_ev a b hl
  refine ⟨s, ?_, s3⟩
  have e : (fun k => qi.f k a b) = fun k => zk.f k a b := funext fun k => same16 k a b
  rw [e]
  exact s2
theorem dead_both (l : List S34) (T : Good l) : ∃ D : List S34, Ev (fun k => qX.f k l) D ∧ Ev (fun k => z8.f k l) D ∧ xl D ∧ D.length ≤ l.length := by
  obtain ⟨v, v1, v1', v2, v3, v4⟩ := live_both l T
  have gl : (v.map fun b => !b).length = l.length := by simp [v2]
  have nf : ∀ i, i < l.length → ((v.map fun b => !b).getD i false = false ↔ v.getD i false = true) := fun i hi => by
    rw [notv v i (by omega)]
    cases v.getD i false <;> simp
  have D : Good (rest l (v.map fun b => !b)) := by
    refine good_rest _ T _ gl ⟨0, T.right.pos, (nf 0 T.right.pos).2 v3⟩ (fun i hi hk hon => ?_) (fun i hi hk hg => ?_)
    · have hn := next_on T.right i hi hon
      refine ⟨i + 1, by omega, hn, (nf _ hn).2 (v4 i hi ((nf i hi).1 hk) (i + 1) ?_)⟩
      unfold xK
      rw [xu _ i hi, if_pos hon]
      simp
    · have ht := ju T.right i hi hg
      refine ⟨tgt l i, Nat.le_refl _, ht.1, (nf _ ht.1).2 (v4 i hi ((nf i hi).1 hk) _ ?_)⟩
      unfold xK
      rw [xu _ i hi]
      by_cases hc : hasB l[i].f0 64 = true ∧ l[i].f1 = 1
      · rw [if_pos hc.1]
        refine List.mem_append.2 (Or.inl ?_)
        have e := ht.2
        rw [hc.2] at e
        simp
        omega
      · rw [if_pos (c := hasB l[i].f0 32 = true ∧ ¬ (hasB l[i].f0 64 = true ∧ l[i].f1 = 1)) ⟨hg, hc⟩]
        exact List.mem_append.2 (Or.inr (by simp))
  have l1 := rest_len l _ gl
  have k1 := jE (v.map fun b => !b) l.length
  exact ⟨_, dead_ev l T.right v v2 v1, dead16_ev l T.right v v2 v1', D.right, by omega⟩
theorem jumps16 (l : List S34) (G : Good l) : ∃ D h : List S34, Ev (fun k => qX.f k (zT l)) D ∧ Ev (fun k => z8.f k (zT l)) D ∧ Ev (fun k => qR.f k D) h ∧ Ev (fun k => zZ.f k D) h := by
  obtain ⟨D, d1, d2, d3, _⟩ := dead_both (zT l) (good_thread l G)
  exact ⟨D, _, d1, d2, hops_ev D d3, hops16_ev D d3⟩
theorem round16 (a1 : Int) (h0 : 0 ≤ a1) (h1 : a1 ≤ 127) (l : List S34) (G : Good l) (o : List S34) (ho : Ev (fun k => qf.round k l a1) o) (hol : o.length ≤ 8192) (r : List S34 × Int) (hr : ∀ s : Bool, (s = true ↔ o = l) → Ev (fun k => if s = true then some (o, 0) else zq.l0 k o a1) r) :
    Ev (fun k => zq.l0 k l a1) r := by
  have fl := flag_both a1 h0 h1
  have ht : Ev (fun k => if (Go.bits .and .i64 a1 32 != 0) = true then qH.f k l else some l) (jA a1 l) := by
    unfold jA
    by_cases h : (Go.bits .and .i64 a1 32 != 0) = true
    · rw [if_pos h]; exact zd h (tails_ev l G.right)
    · rw [if_neg h]; exact ze h zm
  have GT := good_tailB a1 l G
  obtain ⟨s, s1, s2⟩ := same16_ev o l hol
  have J : Ev (fun k => zq.j2 k l a1 (jA a1 l)) r := by
    refine zy (fun k => zq.j2.eq_2 _ _ _ _) ?_
    by_cases hb : (Go.bits .and .i64 a1 64 != 0) = true
    · obtain ⟨D, h, d1, d2, e1, e2⟩ := jumps16 (jA a1 l) GT
      have e : o = h := by
        refine ev_same ho ?_
        unfold qf.round
        exact zs ht (zd hb (zs (threads_ev _ GT.right) (zs d1 e1)))
      subst e
      exact zd (fl.2.2 hb) (zs (threads16_ev _ GT) (zs d2 (zs e2 (zs s1 (hr s s2)))))
    · have e : o = jA a1 l := by
        refine ev_same ho ?_
        unfold qf.round
        exact zs ht (ze hb zm)
      rw [← e]
      exact ze (fun z => hb (fl.2.1 z)) (zs s1 (hr s s2))
  refine zy (fun k => zq.l0.eq_2 _ _ _) (zA (copied_ev l G.right.len) ?_)
  by_cases h : (Go.bits .and .i64 a1 32 != 0) = true
  · have e : jA a1 l = jH l := by unfold jA; rw [if_pos h]
    rw [e] at J
    exact zd (fl.1.2 h) (zs (tails16_ev l G.right) J)
  · have e : jA a1 l = l := by unfold jA; rw [if_neg h]
    rw [e] at J
    exact ze (fun z => h (fl.1.1 z)) J
theorem loop16 (a1 : Int) (h0 : 0 ≤ a1) (h1 : a1 ≤ 127) : ∀ (n : Nat) (l : List S34) (fl : Nat), Good l → (fl = 0 → zT l = l) → l.length * 20000 + 2 * nC l + fl ≤ n →
    ∃ o : List S34, Ev (fun k => qf.l0 k l a1) o ∧ Ev (fun k => zq.l0 k l a1) (o, 0) ∧ o.length ≤ 8192 := by
  intro n
  induction n using Nat.strongRecOn with
  | _ n ih =>
    intro l fl G hfl hn
    have hlen := G.right.len
    obtain ⟨o, e1, e2, e3, e4⟩ := round_ev a1 l G
    obtain ⟨s, s1, _, s3⟩ := same_ev l o hlen
    by_cases he : l = o
    · subst he
      have hs := s3.2 rfl
      subst hs
      refine ⟨l, ?_, round16 a1 h0 h1 l G l e1 hlen _ (fun s hs => zd (hs.2 rfl) zm), hlen⟩
      refine zy (fun k => qf.l0.eq_2 _ _ _) (zs e1 (zs s1 (zd rfl ?_)))
      rw [clone_ev l hlen]
      exact zm
    · have hs : s = false := by
        cases s with
        | false => rfl
        | true => exact absurd (s3.1 rfl) he
      subst hs
      have nc := nC_le o
      have key : ∃ fl', (fl' = 0 → zT o = o) ∧ o.length * 20000 + 2 * nC o + fl' < n := by
        by_cases hl : o.length < l.length
        · exact ⟨1, (fun h => by cases h), by omega⟩
        · have e := (e4 (by omega)).1
          have c1 := tailB_calls a1 l
          have RT := (good_tailB a1 l G).right
          have c2 := thread_calls RT
          by_cases hb : (Go.bits .and .i64 a1 64 != 0) = true
          · unfold simB at e
            rw [if_pos hb] at e
            refine ⟨0, fun _ => by rw [e]; exact thread_idem RT, ?_⟩
            by_cases hy : jA a1 l = l
            · have hf : fl ≠ 0 := fun h => he (by rw [e, hy]; exact (hfl h).symm)
              rw [← e] at c2
              rw [hy] at c2
              omega
            · have := c1.2 hy
              rw [← e] at c2
              omega
          · unfold simB at e
            rw [if_neg hb] at e
            have := c1.2 (fun h => he (by rw [e, h]))
            rw [← e] at this
            exact ⟨1, (fun h => by cases h), by omega⟩
      obtain ⟨fl', k1, k2⟩ := key
      obtain ⟨q, q1, q2, q3⟩ := ih _ k2 o fl' e2 k1 (Nat.le_refl _)
      refine ⟨q, ?_, round16 a1 h0 h1 l G o e1 e2.right.len _ (fun s hs => ze (fun z => he (hs.1 z).symm) q2), q3⟩
      exact zy (fun k => qf.l0.eq_2 _ _ _) (zs e1 (zs s1 (ze (by decide) q1)))
theorem better16 (a1 : Int) (l : List S34) (G : Good l) (h0 : 0 ≤ a1) (h1 : a1 ≤ 127) : ∃ o : List S34, Ev (fun k => qf.f k l a1) (o, 0) ∧ Ev (fun k => zq.f k l a1) (o, 0) ∧ o.length ≤ 8192 := by
  have hlen := G.right.len
  obtain ⟨o, q1, q2, q3⟩ := loop16 a1 h0 h1 _ l 1 G (fun h => by cases h) (Nat.le_refl _)
  refine ⟨o, ?_, ?_, q3⟩
  · unfold qf.f
    refine zs (check_ok l G.right G.fit) (zd rfl (zd h0 (zd h1 ?_)))
    rw [clone_ev l hlen]
    exact zA rfl (zs q1 zm)
  · unfold zq.f
    refine zs (check16_ok l G) (zd rfl (ze (by omega) ?_))
    rw [decide_eq_false (show ¬ a1 > 127 by omega)]
    exact zy (fun k => zq.j0.eq_2 _ _ _ _) (ze (by decide) q2)
theorem better16_bad (a1 : Int) (l : List S34) (r : Int × Int) (hc : Ev (fun k => zo.f k l) r) (h : ¬ r.2 = 0) : Ev (fun k => zq.f k l a1) ([], r.2) := by
  unfold zq.f
  exact zs hc (ze h zm)
theorem better16_range (a1 : Int) (l : List S34) (hc : Ev (fun k => zo.f k l) (0, 0)) (h : ¬ (0 ≤ a1 ∧ a1 ≤ 127)) : Ev (fun k => zq.f k l a1) ([], 1) := by
  unfold zq.f
  refine zs hc (zd rfl ?_)
  by_cases h0 : a1 < 0
  · exact zd h0 (zy (fun k => zq.j0.eq_2 _ _ _ _) (zd rfl zm))
  · refine ze h0 ?_
    rw [decide_eq_true (show a1 > 127 by omega)]
    exact zy (fun k => zq.j0.eq_2 _ _ _ _) (zd rfl zm)
theorem better_both (l : List S34) (a1 : Int) (hs : ∀ x ∈ l, x.f4.size ≤ 140737488351232) : ∃ q : List S34 × Int, Ev (fun k => qf.f k l a1) q ∧ Ev (fun k => zq.f k l a1) q ∧ q.1.length ≤ 8192 := by
  obtain ⟨r, c1, c2, c3⟩ := check16 l hs
  by_cases hr : r.2 = 0
  · have G := clone_good l r hs (c3 hr)
    have er := (c3 hr).1
    subst er
    by_cases hf : 0 ≤ a1 ∧ a1 ≤ 127
    · obtain ⟨o, b1, b2, b3⟩ := better16 a1 l G hf.1 hf.2
      exact ⟨_, b1, b2, b3⟩
    · exact ⟨_, better_range a1 l G.right.len c1 hf, better16_range a1 l c2 hf, by simp⟩
  · exact ⟨_, better_bad a1 l r c1 hr, better16_bad a1 l r c2 hr, by simp⟩
section
variable {p g : Nat → List S34 → Option (List S34)} (l : List S34) (hs : ∀ x ∈ l, x.f4.size ≤ 140737488351232)
theorem pass_both (hp : Good l → ∃ o, Ev (fun k => p k l) o ∧ Ev (fun k => g k l) o ∧ o.length ≤ 8192) (hs : ∀ x ∈ l, x.f4.size ≤ 140737488351232) : ∃ q : List S34 × Int,
    Ev (fun k => (zC.f k l).bind fun c => if c.2 = 0 then (p k l).bind fun t => some (t, (0 : Int)) else some ([], c.2)) q ∧ Ev (fun k => (zo.f k l).bind fun c => if c.2 = 0 then (g k l).bind fun t => some (t, (0 : Int)) else some ([], c.2)) q ∧ q.1.length ≤ 8192 := by
  obtain ⟨r, c1, c2, c3⟩ := check16 l hs
  by_cases hr : r.2 = 0
  · have G := clone_good l r hs (c3 hr)
    obtain ⟨o, o1, o2, o3⟩ := hp G
    exact ⟨(o, 0), zs c1 (zd hr (zs o1 zm)), zs c2 (zd hr (zs o2 zm)), o3⟩
  · exact ⟨([], r.2), zs c1 (ze hr zm), zs c2 (ze hr zm), by simp⟩
end
theorem bind_pair {α β : Type} (o : Option (α × β)) : (o.bind fun b => some (b.1, b.2)) = o := by cases o <;> rfl
theorem tails_both (l : List S34) (hs : ∀ x ∈ l, x.f4.size ≤ 140737488351232) : ∃ q : List S34 × Int, Ev (fun k => xD.f k l) q ∧ Ev (fun k => qS.f k l) q ∧ q.1.length ≤ 8192 := by
  simp only [xD.f, js.f, qS.f, bind_pair]
  exact pass_both (p := qH.f) (g := qa.f) l (fun G => ⟨_, tails_ev l G.right, tails16_ev l G.right, by rw [qP]; exact G.right.len⟩) hs
theorem threads_both (l : List S34) (hs : ∀ x ∈ l, x.f4.size ≤ 140737488351232) : ∃ q : List S34 × Int, Ev (fun k => xo.f k l) q ∧ Ev (fun k => qC.f k l) q ∧ q.1.length ≤ 8192 := by
  simp only [xo.f, xW.f, qC.f, bind_pair]
  exact pass_both (p := zY.f) (g := zx.f) l (fun G => ⟨_, threads_ev l G.right, threads16_ev l G, by rw [qp]; exact G.right.len⟩) hs
theorem deads_both (l : List S34) (hs : ∀ x ∈ l, x.f4.size ≤ 140737488351232) : ∃ q : List S34 × Int, Ev (fun k => xf.f k l) q ∧ Ev (fun k => qV.f k l) q ∧ q.1.length ≤ 8192 := by
  simp only [xf.f, jl.f, qV.f, bind_pair]
  exact pass_both (p := qX.f) (g := z8.f) l (fun G => by
    obtain ⟨D, d1, d2, _, d4⟩ := dead_both l G
    exact ⟨D, d1, d2, Nat.le_trans d4 G.right.len⟩) hs
theorem hops_both (l : List S34) (hs : ∀ x ∈ l, x.f4.size ≤ 140737488351232) : ∃ q : List S34 × Int, Ev (fun k => xM.f k l) q ∧ Ev (fun k => qW.f k l) q ∧ q.1.length ≤ 8192 := by
  simp only [xM.f, jD.f, qW.f, bind_pair]
  exact pass_both (p := qR.f) (g := zZ.f) l (fun G => ⟨_, hops_ev l G.right, hops16_ev l G.right, by
    have l1 := rest_len l _ (jM l)
    have k1 := jE (hopG l) l.length
    have := G.right.len
    omega⟩) hs
def code0 : List S34 := [⟨17, 0, 0, 0, ⟨#[]⟩, ⟨0, 0, 0, 0⟩⟩, ⟨16, 0, 0, 0, ⟨#[]⟩, ⟨0, 0, 0, 0⟩⟩]
theorem fit0 (op : Int) (h : op = 17 ∨ op = 16) : Fit ⟨op, 0, 0, 0, ⟨#[]⟩, ⟨0, 0, 0, 0⟩⟩ := by
  obtain ⟨nb, hn, _⟩ := name16 (⟨#[]⟩ : ByteArray) (by decide)
  obtain ⟨tb, hb⟩ := jC (⟨#[]⟩ : ByteArray) (by decide)
  have hv := fits_val ⟨op, 0, 0, 0, ⟨#[]⟩, ⟨0, 0, 0, 0⟩⟩ (by rcases h with rfl | rfl <;> decide) (by rcases h with rfl | rfl <;> decide) nb tb hn hb
  have e : (keepV ⟨op, 0, 0, 0, ⟨#[]⟩, ⟨0, 0, 0, 0⟩⟩ && tailV ⟨op, 0, 0, 0, ⟨#[]⟩, ⟨0, 0, 0, 0⟩⟩ nb tb) = true := by
    unfold keepV tailV
    rw [nil_list]
    rcases h with rfl | rfl <;> simp
  rw [e] at hv
  exact hv
theorem good0 : Good code0 := by
  refine ⟨⟨by decide, by decide, fun i h => ?_, fun i h hg => ?_, fun h => ?_⟩, fun j h => ?_, fun j h => ?_⟩
  · match i, h with
    | 0, _ => exact (show (1 : Int) ≤ 17 ∧ (17 : Int) ≤ 20 by decide)
    | 1, _ => exact (show (1 : Int) ≤ 16 ∧ (16 : Int) ≤ 20 by decide)
  · match i, h with
    | 0, _ => exact absurd hg (show ¬ hasB 17 32 = true by decide +kernel)
    | 1, _ => exact absurd hg (show ¬ hasB 16 32 = true by decide +kernel)
  · show hasB 16 64 = false
    decide +kernel
  · match j, h with
    | 0, _ => exact fit0 17 (Or.inl rfl)
    | 1, _ => exact fit0 16 (Or.inr rfl)
  · match j, h with
    | 0, _ => exact Nat.zero_le _
    | 1, _ => exact Nat.zero_le _
theorem rch0 (i : Nat) (h : Rch code0 i) : i = 0 := by
  induction h with
  | zero => rfl
  | next i j _ _ hn ih =>
    subst ih
    have e : xK code0 0 = [] := by decide +kernel
    rw [e] at hn
    cases hn
theorem lives_ev2 : Ev (fun k => zV.f k) true := by
  obtain ⟨v, v1, v2, v3⟩ := live_iff code0 good0
  have hv : v = [true, false] := by
    match v, v2, v3 with
    | [a, b], _, v3 =>
      have h0 := (v3 0 (by decide)).2 Rch.zero
      have h1 := fun h => rch0 1 ((v3 1 (by decide)).1 h)
      simp at h0 h1
      rw [h0, h1]
  subst hv
  have hd : Ev (fun k => xf.f k code0) ([⟨17, 0, 0, 0, ⟨#[]⟩, ⟨0, 0, 0, 0⟩⟩], 0) := by
    simp only [xf.f, jl.f, bind_pair]
    exact zs (check_ok code0 good0.right good0.fit) (zd rfl (zs (dead_ev code0 good0.right _ rfl v1) zm))
  unfold zV.f
  exact zs hd (zd rfl (zd rfl (zd (by decide) zm)))
theorem samecode_refl_l (l : List S34) (hl : l.length ≤ 4611686018427387904) (d : Nat) : ∀ i : Nat, i + d = l.length → Ev (fun k => zk.l0 k l l (i : Int)) true := by
  induction d with
  | zero =>
    intro i hi
    exact zy (fun k => zk.l0.eq_2 _ _ _ _) (ze (by omega) zm)
  | succ d ih =>
    intro i hi
    refine zy (fun k => zk.l0.eq_2 _ _ _ _) (zd (by omega) (zd (by omega) (zd (by omega) ?_)))
    rw [qE (i := i) (by omega)]
    exact ze (by have := (neqV_iff (za l (i : Int)) (za l (i : Int))).2 rfl; unfold neqV at this; rw [this]; decide) (ih (i + 1) (by omega))
theorem jq (l : List S34) (hl : l.length ≤ 4611686018427387904) : Ev (fun k => zk.f k l l) true := by
  unfold zk.f
  exact zd rfl (samecode_refl_l l hl l.length 0 (by omega))
theorem kept_ev (l : List S34) (hl : l.length ≤ 4611686018427387904) : Ev (fun k => qc.f k l l) true := by
  unfold qc.f
  exact zs (jq l hl) zm
theorem lend_ev (l : List S34) (hl : l.length < 1759218604440) : zG.f l = some l := by
  unfold zG.f
  simp only [Option.bind_some, List.length_nil, List.nil_append, List.length_append, List.length_cons, Int.toNat_natCast]
  rw [if_pos (by omega), if_pos (by omega), if_pos (by omega), if_pos (by omega)]
  simp
theorem spoil_l (m : Int) (d : Nat) : ∀ (i : Nat) (x : List S34), i + d = x.length → x.length ≤ 8192 → Ev (fun k => zN.l0 k x m (i : Int)) () := by
  induction d with
  | zero =>
    intro i x hi hx
    exact zy (fun k => zN.l0.eq_2 _ _ _ _) (ze (by omega) (zd (by omega) zm))
  | succ d ih =>
    intro i x hi hx
    refine zy (fun k => zN.l0.eq_2 _ _ _ _) (zd (by omega) (zd (by omega) ?_))
    rw [qE (i := i) (by omega)]
    exact ih (i + 1) _ (by simp; omega) (by simpa using hx)
theorem spoil_ev (x : List S34) (m : Int) (hx : x.length ≤ 8192) : Ev (fun k => zN.f k x m) () := by
  unfold zN.f
  exact spoil_l m x.length 0 x (by omega) hx
theorem lawBetter_ev (l : List S34) (a1 : Int) (hs : ∀ x ∈ l, x.f4.size ≤ 140737488351232) (hl : l.length < 1759218604440) : Ev (fun k => xj.f k l a1) true := by
  obtain ⟨q, q1, q2, q3⟩ := better_both l a1 hs
  unfold xj.f
  exact zA (lend_ev l hl) (zs q1 (zs q2 (zs lives_ev2 (zd rfl (zs (jq q.1 (by omega)) (zd rfl (zd rfl (zs (kept_ev l (by omega)) zm))))))))
theorem lawTails_ev (l : List S34) (hs : ∀ x ∈ l, x.f4.size ≤ 140737488351232) (hl : l.length < 1759218604440) : Ev (fun k => qT.f k l) true := by
  obtain ⟨q, q1, q2, q3⟩ := tails_both l hs
  obtain ⟨p, p1, p2, p3⟩ := threads_both l hs
  unfold qT.f
  exact zA (lend_ev l hl) (zs q1 (zs q2 (zs p1 (zs p2 (zs lives_ev2 (zd rfl (zs (jq q.1 (by omega)) (zd rfl (zd rfl (zs (jq p.1 (by omega)) (zd rfl (zd rfl (zs (kept_ev l (by omega)) zm)))))))))))))
theorem lawDead_ev (l : List S34) (hs : ∀ x ∈ l, x.f4.size ≤ 140737488351232) (hl : l.length < 1759218604440) : Ev (fun k => xe.f k l) true := by
  obtain ⟨q, q1, q2, q3⟩ := deads_both l hs
  obtain ⟨p, p1, p2, p3⟩ := hops_both l hs
  unfold xe.f
  exact zA (lend_ev l hl) (zs q1 (zs q2 (zs p1 (zs p2 (zs lives_ev2 (zd rfl (zs (jq q.1 (by omega)) (zd rfl (zd rfl (zs (jq p.1 (by omega)) (zd rfl (zd rfl (zs (kept_ev l (by omega)) zm)))))))))))))
theorem lawOwn_ev (l : List S34) (a1 : Int) (hs : ∀ x ∈ l, x.f4.size ≤ 140737488351232) (hl : l.length < 1759218604440) : Ev (fun k => qb.f k l a1) true := by
  obtain ⟨q1, a1', _, b1⟩ := tails_both l hs
  obtain ⟨q2, a2, _, b2⟩ := threads_both l hs
  obtain ⟨q3, a3, _, b3⟩ := deads_both l hs
  obtain ⟨q4, a4, _, b4⟩ := hops_both l hs
  obtain ⟨q5, a5, _, b5⟩ := better_both l a1 hs
  have e2 : Ev (fun k => qb.l0 k l a1 l 2) true := zy (fun k => qb.l0.eq_2 _ _ _ _ _) (ze (by decide) (zs (lawTails_ev l hs hl) (zd rfl (zs (lawDead_ev l hs hl) (zd rfl (zs (lawBetter_ev l a1 hs hl) (zd rfl (zs (kept_ev l (by omega)) zm))))))))
  have st : ∀ (i j : Int), i < 2 → wrap64 (i + 1) = j → Ev (fun k => qb.l0 k l a1 l j) true → Ev (fun k => qb.l0 k l a1 l i) true := fun i j hi hj h => by
    subst hj
    exact zy (fun k => qb.l0.eq_2 _ _ _ _ _) (zd hi (zs a1' (zs (spoil_ev q1.1 (-3) b1) (zs a2 (zs (spoil_ev q2.1 (-4) b2) (zs a3 (zs (spoil_ev q3.1 (-5) b3) (zs a4 (zs (spoil_ev q4.1 (-6) b4) (zs a5 (zs (spoil_ev q5.1 (-7) b5) h)))))))))))
  unfold qb.f
  exact zA (lend_ev l hl) (st 0 1 (by decide) w01 (st 1 2 (by decide) w11 e2))
theorem size34 : Tryd.prog.bytesOf 34 = 80 := by kernel_rfl
end Go.Proofs.YtnpeabmlcakegaaDoor.PAll
namespace Go.Proofs.YtnpeabmlcakegaaDoor.Pure
set_option linter.unusedVariables false
open Go.RowKit Go.Proofs.YtnpeabmlcakegaaDoorW.PrintWords Go.Proofs.YtnpeabmlcakegaaDoor.PAll
theorem PeepOwn (l : List S34) (a1 : Int) {P : Prop} (h : l.length ≤ 9223372036854775807 ∧ l.length * Tryd.prog.bytesOf 34 ≤ 140737488351232 ∧ ∀ y ∈ l, ok34 y) (hw : P) : ∃ k, qb.f k l a1 = some true :=
  (lawOwn_ev l a1 (fun x hx => (h.2.2 x hx).2.2.2.2.1) (by have := h.2.1; rw [size34] at this; omega)).rounds
end Go.Proofs.YtnpeabmlcakegaaDoor.Pure
namespace Go.Proofs.YtnpeabmlcakegaaDoor.peepOwn
open Go.ChangeShapes Go.WideShapes Go.ChangeAt Go.RowKit Go.Proofs.YtnpeabmlcakegaaDoor.PAll
open Go.Proofs.YtnpeabmlcakegaaDoorW.PrintWords
open Go.ChangeMaps (open_string shut_string)
set_option linter.unusedVariables false
theorem own : ownKnob Tryd.prog.godebug = none := by kernel_rfl
theorem laidOut : laidOutB Tryd.prog = true := by kernel_rfl
theorem glob_harrow_instr_uses : Tryd.prog.globalNamed "harrow/instr.uses" = some 0 := by kernel_rfl
theorem globt_harrow_instr_uses : (Tryd.prog.globals[0]?).map (·.type) = some 57 := by kernel_rfl
theorem door_met (os : Os) (args : Array Value) : laidMetH Tryd.prog [("harrow/instr.uses", Rows.laid_harrow_instr_uses)] ((World.doorLaid Tryd.prog 600 os).forCall (fun _ _ => 0) ⟨#[], args, []⟩).memory :=
  laidMetH_of_parts3 (fuel := 8) (laidMet_of_run' 8 (by kernel_rfl) (by kernel_rfl)) (by kernel_rfl) (by kernel_rfl)
theorem gw_of {W : World} (h : laidMetH Tryd.prog [("harrow/instr.uses", Rows.laid_harrow_instr_uses)] W) : GW W := by
  have h' : laidMet Tryd.prog [("harrow/instr.uses", Rows.laid_harrow_instr_uses)] W := h
  obtain ⟨ps, hl, _⟩ := h'
  obtain ⟨g, t, cs, fuel, p, q, hg, ht, hvar, hd, _, _⟩ := hl
  obtain rfl := Option.some.inj (glob_harrow_instr_uses.symm.trans hg)
  obtain rfl := Option.some.inj (globt_harrow_instr_uses.symm.trans ht)
  have hd' : DataW.trod _ Tryd.prog W 0 _ false fuel 57 cs.toList = some (.agg (usesTab.map fun x => .lit (.int .i64 x)), p) := hd
  have hcs := table_cells (n := 21) (e := 3) (k := .i64) (tab := usesTab) Tryd.underlying57 Tryd.underlying3 (by kernel_rfl) (by kernel_rfl) hd'
  have hc0 := World.var?_cell glob_harrow_instr_uses hvar
  exact GW.of_cells hcs hc0
set_option maxRecDepth 100000 in
theorem lifted (os : Os) (started : os.Started) (H : Type) (enc : TypeId × Value → H) :
    ReturnsInHanded {} Tryd.checked os 6 .any (fun w args => (Rows.peepOwnSpec.pre enc Tryd.prog Tryd.f6 [] false w args ∧ laidMetH Tryd.prog [("harrow/instr.uses", Rows.laid_harrow_instr_uses)] w) ∧ sizedMet enc Tryd.prog Tryd.f6 (OpenSpec.ofChange Rows.peepOwnSpec) false w args) (Rows.peepOwnSpec.post enc Tryd.prog Tryd.f6 false true false false) := by
  refine returnsInHanded_of_change_and (C := Tryd.checked) (X := fun w _ => laidMetH Tryd.prog [("harrow/instr.uses", Rows.laid_harrow_instr_uses)] w) (fun _ _ _ hh h => h.of_heap hh) own started (by kernel_rfl) Tryd.func6
    (ChangeSpec.witness_shaped (enc := enc) (C := Tryd.checked) (os := os) (X := fun w _ => laidMetH Tryd.prog [("harrow/instr.uses", Rows.laid_harrow_instr_uses)] w) false (World.doorLaid Tryd.prog 600 os) #[(.slice none 0 0), (.int .i64 0)] 8 rfl (World.shaped_of_RefB (by kernel_rfl) (by kernel_rfl)) (by kernel_rfl) (by kernel_rfl) (by kernel_rfl) (door_met os _)) ?_
  intro W base args ds gs before hval0 hW hcnd hsz0 hL _
  have hsz : (DataW.weightsEach Tryd.prog (Tryd.f6.params.toList ++ Rows.peepOwnSpec.plain.varTypes Tryd.prog) (ds ++ gs)).all (· ≤ reachBytes) = true := hsz0
  have hval : ∀ (j : Nat) t v, Tryd.f6.params[j]? = some t → args[j]? = some v → Value.okWide Tryd.prog W .any base t v := hval0
  have hW' := hW
  obtain ⟨p, q, hA0, hV, rfl, hfz, hnd⟩ := hW
  have hA : DataW.TrodAll enc Tryd.prog W 0 (fun _ => true) true Tryd.f6.params.toList args.toList ds p := hA0
  rw [Tryd.params6] at hA hval hsz
  obtain ⟨v0, vs0, d0, ds0, p0, q0, hargs, rfl, rfl, h0, r0⟩ := trodAll_cons hA
  obtain ⟨v1, vs1, d1, ds1, p1, q1, rfl, rfl, rfl, h1, r1⟩ := trodAll_cons r0
  obtain ⟨rfl, rfl, rfl⟩ := trodAll_nil r1
  obtain rfl : args = #[v0, v1] := by cases args; simp_all
  obtain ⟨rfl, rfl⟩ := trodVars_none hV
  obtain ⟨a0, len0, cap0, rfl⟩ := okWide_slice Tryd.underlying22 (hval 0 22 v0 rfl rfl)
  have lt0 : ∀ x ∈ p0, x.block < W.heap.size := by obtain ⟨m, hm⟩ := h0; exact DataW.trod_lt m _ _ _ hm
  obtain ⟨l0, ⟨A0, c0, hcs0, hc0, hr0⟩, hg0⟩ := xH.arg (j := 0) (x := d0) (xH.slice Tryd.underlying22 (by kernel_rfl) opens34) h0 hsz rfl rfl
  obtain ⟨rfl, rfl, rfl⟩ : a0 = A0 ∧ len0 = l0.length ∧ cap0 = c0 := by simpa [Value.cells] using hcs0
  obtain ⟨a1, rfl, _, _, hw1⟩ := open_int Tryd.underlying3 (hval 1 3 v1 rfl rfl) h1
  have lt1 : ∀ x ∈ p1, x.block < W.heap.size := by obtain ⟨m, hm⟩ := h1; exact DataW.trod_lt m _ _ _ hm
  clear hA0 hval0 hsz0 hsz hval
  have hP := YtnpeabmlcakegaaDoor.Pure.PeepOwn l0 a1 hg0 hw1
  have hP2 : ∃ k, qb.f k l0 a1 = some true := hP
  obtain ⟨k, hP3⟩ := hP2
  refine (qb.calls k _ _ l0 a1 true W (gw_of hL) hr0 hc0 hP3).mono fun e W' ⟨he, bel0⟩ => ?_
  have bel : Below W.heap.size W W' := bel0
  subst he
  exact ⟨_, rfl, _, _, _, [], _, [], hW', trodAll_mk1 (shut_bool Tryd.underlying4 _), (trodAll_cons_mk (Below.trod laidOut (by kernel_rfl) (of_decide_eq_true (by kernel_rfl)) h0 bel lt0) (trodAll_cons_mk (Below.trod laidOut (by kernel_rfl) (of_decide_eq_true (by kernel_rfl)) h1 bel lt1) trodAll_mk0)), rfl, bel.frame _, fun h => by cases h⟩
theorem over : Rows.peepOwnRow.holds Tryd.pinned (OpenSpec.ofChange Rows.peepOwnSpec) :=
  OpenClaim.holds_of_wide 6 Tryd.f6 rfl rfl rfl rfl rfl rfl rfl ⟨rfl, rfl, rfl, rfl, rfl⟩ rfl rfl rfl rfl rfl (by kernel_rfl) Tryd.func6 (by kernel_rfl)
    (of_decide_eq_true (by kernel_rfl)) (by unfold Func.isWrapper; first | (rw [if_pos (by decide +kernel)]; kernel_rfl) | (rw [if_neg (by decide +kernel)]; exact ⟨rfl, rfl⟩))
    (fun os started H enc _ => lifted os started H enc)
theorem proved : Rows.PeepOwnSaid := over
theorem card : Rows.PeepOwnCardSaid :=
  Claim7.holds_tied_plain_at .later [] [.data] true (true, "611ae94eebb6ae570217e6de654773cbfa10b9b19f181010b422dec85e816cb8") false proved (fun _ h => by cases h) (by kernel_rfl) (fun _ h => by cases h) peepOwn_row_tie rfl ⟨rfl, rfl⟩ (by kernel_rfl) rfl
    (fun f fn hf hfn => by
      obtain rfl : f = 6 := Option.some.inj ((show Tryd.prog.funcNamed "harrow/harrowlaw20.PeepOwn" = some 6 by kernel_rfl).symm.trans hf) |>.symm
      obtain rfl : fn = Tryd.f6 := (Option.some.inj (Tryd.func6.symm.trans hfn)).symm
      exact ⟨by kernel_rfl, fun j t ht => by
        rw [Tryd.params6] at ht
        have h3 : t ∈ [22, 3] := by
          have := List.mem_of_getElem? (by simpa using ht : ([22, 3] : List Nat)[j]? = some t)
          exact this
        simp only [List.mem_cons, List.not_mem_nil, or_false] at h3
        rcases h3 with rfl | rfl
        all_goals first | exact (show Tryd.prog.wantsStandIn 3 = false by kernel_rfl) | exact (show Tryd.prog.wantsStandIn 22 = false by kernel_rfl)⟩)
    (by kernel_rfl)
#print axioms card
end Go.Proofs.YtnpeabmlcakegaaDoor.peepOwn
namespace Go.Proofs.YtnpeabmlcakegaaDoor
theorem peepOwn_holds : Rows.PeepOwnCardSaid := peepOwn.card
end Go.Proofs.YtnpeabmlcakegaaDoor
