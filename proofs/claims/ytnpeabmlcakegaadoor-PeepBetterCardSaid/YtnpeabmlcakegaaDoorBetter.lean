/- The statement 'PeepBetter': the row, out of the plain law (theorem PeepBetter of the text PurePeepBetter) and the walks. Conditions: those of the row alone. -/
import Derived.Test.YtnpeabmlcakegaaDoorBetter5
import Derived.Test.YtnpeabmlcakegaaDoorRows
import Derived.Test.YtnpeabmlcakegaaDoorCards
import Derived.Test.YtnpeabmlcakegaaDoorTie
set_option maxHeartbeats 8000000
set_option maxRecDepth 100000
namespace Go.Proofs.YtnpeabmlcakegaaDoor.PAll
open Go.RowKit Go.Proofs.YtnpeabmlcakegaaDoorW.PrintWords
set_option linter.unusedVariables false
set_option linter.unusedSimpArgs false
inductive Rch (l : List S34) : Nat → Prop
  | zero : Rch l 0
  | next (i j : Nat) : Rch l i → i < l.length → (j : Int) ∈ xA l i → Rch l j
theorem set_getD (out : List Bool) (i j : Nat) (h : i < out.length) : (out.set i true).getD j false = true ↔ j = i ∨ out.getD j false = true := by
  by_cases e : j = i
  · subst e; simp [List.getD_eq_getElem?_getD, h]
  · simp only [List.getD_eq_getElem?_getD, List.getElem?_set_ne (fun z => e z.symm)]
    simp [e]
theorem live_iff (l : List S34) (G : Good l) : ∃ v : List Bool, Ev (fun k => qj.f k l) (v, 0) ∧ v.length = l.length ∧ ∀ i, i < l.length → (v.getD i false = true ↔ Rch l i) := by
  have R := G.right
  obtain ⟨v, h1, h2, h3, h4⟩ := live_closed l G
  obtain ⟨v', s1, s2, s3⟩ := live_ev l R (check_ok l R G.fit) (fun out w => (∀ i, i < l.length → out.getD i false = true → Rch l i) ∧ ∀ i : Nat, (i : Int) ∈ w → Rch l i)
    (fun out w i hI hi hm => ⟨hI.1, fun j hj => hI.2 j (List.mem_append_left _ hj)⟩)
    (fun out w i hI hi hlen hm => by
      have hr := hI.2 i (by simp)
      refine ⟨fun j hj hm2 => ?_, fun j hj => ?_⟩
      · rcases (set_getD out i j (by omega)).1 hm2 with e | e
        · subst e; exact hr
        · exact hI.1 j hj e
      · rcases List.mem_append.1 hj with h | h
        · exact hI.2 j (List.mem_append_left _ h)
        · exact Rch.next i j hr hi ((sort2_mem _ _).1 h))
    ⟨fun i hi hm => (by rw [List.getD_eq_getElem?_getD, List.getElem?_replicate, if_pos hi] at hm; cases hm), fun i hi => (by
      have : i = 0 := by simpa using hi
      subst this; exact Rch.zero)⟩
  have e := ev_same h1 s1
  simp only [Prod.mk.injEq, and_true] at e
  subst e
  refine ⟨v, h1, h2, fun i hi => ⟨s3.1 i hi, fun hr => ?_⟩⟩
  clear hi
  induction hr with
  | zero => exact h3
  | next i j hri hi hn ih => exact h4 i hi ih j hn
theorem ways_j1 (op : Int) (h0 : 1 ≤ op) (h1 : op ≤ 20) (i T : Nat) (hi : i < 8192) (hT : T < 8192) (f1 : Int) (hf : (i : Int) + f1 = (T : Int)) (x6 : List Int) (hx : x6.length ≤ 1) (b n : Int) (s : ByteArray) (w0 w1 w2 w3 : Int) (o : Bool) (res : List Int)
    (hres : res = x6 ++ (if o = true then [((i + 1 : Nat) : Int)] else []) ++ (if hasB op 32 = true ∧ (i + 1 < T ∨ T = i + 1 ∧ o = false) then [(T : Int)] else [])) :
    Ev (fun k => zP.j1 k (i : Int) x6 o op f1 b n s w0 w1 w2 w3) res := by
  have hw := qC (i := i) (by omega)
  have ht : wrap64 ((i : Int) + f1) = (T : Int) := by rw [qZ (by omega) (by omega), hf]
  have tv := targets_val op h0 h1
  refine zu (fun k => zP.j1.eq_2 _ _ _ _ _ _ _ _ _ _ _ _ _) ?_
  rw [hw, ht]
  cases o with
  | true =>
    refine zc rfl (zc (by omega) (zx rfl (zx tv ?_)))
    cases hg : hasB op 32 with
    | true =>
      refine zc rfl ?_
      by_cases h : i + 1 < T
      · have e : res = (x6 ++ [((i + 1 : Nat) : Int)]) ++ [(T : Int)] := by rw [hres, hg]; simp [h]
        rw [e]
        exact zc (by omega) (zc (by simp; omega) zn)
      · have e : res = x6 ++ [((i + 1 : Nat) : Int)] := by rw [hres, hg]; simp [h]
        rw [e]
        refine ze (by omega) ?_
        by_cases h2 : (T : Int) = ((i + 1 : Nat) : Int)
        · exact zc h2 zn
        · exact ze h2 zn
    | false =>
      have e : res = x6 ++ [((i + 1 : Nat) : Int)] := by rw [hres, hg]; simp
      rw [e]
      exact ze (by decide) zn
  | false =>
    refine ze (by decide) (zx tv ?_)
    cases hg : hasB op 32 with
    | true =>
      refine zc rfl ?_
      by_cases h : i + 1 < T
      · have e : res = x6 ++ [(T : Int)] := by rw [hres, hg]; simp [h]
        rw [e]
        exact zc (by omega) (zc (by omega) zn)
      · refine ze (by omega) ?_
        by_cases h2 : T = i + 1
        · have e : res = x6 ++ [(T : Int)] := by rw [hres, hg]; simp [h2]
          rw [e]
          exact zc (by omega) (zc (by omega) zn)
        · have e : res = x6 := by rw [hres, hg]; simp [h, h2]
          rw [e]
          exact ze (by omega) zn
    | false =>
      have e : res = x6 := by rw [hres, hg]; simp
      rw [e]
      exact ze (by decide) zn
theorem ways_ev (l : List S34) (R : xb l) (i : Nat) (hi : i < l.length) : ∃ W : List Int, Ev (fun k => zP.f k l (i : Int)) W ∧ (∀ x, x ∈ W ↔ x ∈ xA l i) ∧ W.length ≤ 3 := by
  have hl := R.len
  have hop := R.op i hi
  obtain ⟨u, u1, _, u3, _⟩ := uses_at l[i].f0 hop.1 hop.2
  have tv := targets_val l[i].f0 hop.1 hop.2
  have hw := qC (i := i) (by omega)
  unfold xA
  rw [xh l i hi]
  cases hg : hasB l[i].f0 32 with
  | true =>
    have ht := jb R i hi hg
    have hT : wrap64 ((i : Int) + l[i].f1) = ((tgt l i : Nat) : Int) := by rw [qZ (by omega) (by omega), ht.2]
    have J := fun x6 hx => ways_j1 l[i].f0 hop.1 hop.2 i (tgt l i) (by omega) (by omega) l[i].f1 ht.2.symm x6 hx l[i].f2 l[i].f3 l[i].f4 l[i].f5.f0 l[i].f5.f1 l[i].f5.f2 l[i].f5.f3 (hasB l[i].f0 64) _ rfl
    refine ⟨(if tgt l i < i + 1 then [((tgt l i : Nat) : Int)] else []) ++ (if hasB l[i].f0 64 = true then [((i + 1 : Nat) : Int)] else []) ++ (if hasB l[i].f0 32 = true ∧ (i + 1 < tgt l i ∨ tgt l i = i + 1 ∧ hasB l[i].f0 64 = false) then [((tgt l i : Nat) : Int)] else []), ?_, ?_, ?_⟩
    · unfold zP.f
      refine zc (by omega) (zc (by omega) ?_)
      rw [rd34 l i hi, hT, hw]
      refine zx u1 (zx tv ?_)
      rw [hg]
      refine zc rfl ?_
      rw [u3]
      refine zu (fun k => zP.j0.eq_2 _ _ _ _ _ _ _ _ _ _ _ _ _ _) ?_
      rw [hT]
      by_cases h : tgt l i < i + 1
      · rw [if_pos h]
        rw [decide_eq_true (show ((tgt l i : Nat) : Int) < ((i + 1 : Nat) : Int) by omega)]
        refine zc rfl (zc (by simp) ?_)
        have := J [((tgt l i : Nat) : Int)] (by simp)
        rw [hg] at this
        exact this
      · rw [if_neg h]
        rw [decide_eq_false (show ¬ ((tgt l i : Nat) : Int) < ((i + 1 : Nat) : Int) by omega)]
        refine ze (by decide) ?_
        have := J [] (by simp)
        rw [hg] at this
        exact this
    · intro x
      have e1 : l[i].f1 = 1 ↔ tgt l i = i + 1 := by omega
      simp only [hg, true_and, e1, List.mem_append]
      by_cases ho : hasB l[i].f0 64 = true
      · simp only [ho, if_true, true_and, Bool.true_eq_false, and_false, or_false]
        by_cases h1 : tgt l i < i + 1
        · rw [if_pos h1, if_neg (show ¬ i + 1 < tgt l i by omega), if_pos (show ¬ tgt l i = i + 1 by omega)]
          simp only [List.mem_singleton, List.not_mem_nil, or_false]
          exact Or.comm
        · by_cases h2 : i + 1 < tgt l i
          · rw [if_neg h1, if_pos h2, if_pos (show ¬ tgt l i = i + 1 by omega)]
            simp
          · rw [if_neg h1, if_neg h2, if_neg (show ¬ ¬ tgt l i = i + 1 by omega)]
            simp
      · have ho' : hasB l[i].f0 64 = false := by simpa using ho
        simp only [ho', Bool.false_eq_true, if_false, false_and, not_false_eq_true, if_true, and_true]
        by_cases h1 : tgt l i < i + 1
        · rw [if_pos h1, if_neg (show ¬ (i + 1 < tgt l i ∨ tgt l i = i + 1) by omega)]
          simp
        · rw [if_neg h1, if_pos (show (i + 1 < tgt l i ∨ tgt l i = i + 1) by omega)]
          simp
    · simp only [List.length_append]
      repeat' split
      all_goals simp
  | false =>
    refine ⟨(if hasB l[i].f0 64 = true then [((i + 1 : Nat) : Int)] else []), ?_, ?_, ?_⟩
    · unfold zP.f
      refine zc (by omega) (zc (by omega) ?_)
      rw [rd34 l i hi]
      refine zx u1 (zx tv ?_)
      rw [hg]
      refine ze (by decide) ?_
      rw [u3]
      refine zu (fun k => zP.j0.eq_2 _ _ _ _ _ _ _ _ _ _ _ _ _ _) ?_
      refine ze (by decide) ?_
      refine zu (fun k => zP.j1.eq_2 _ _ _ _ _ _ _ _ _ _ _ _ _) ?_
      rw [hw]
      by_cases ho : hasB l[i].f0 64 = true
      · have e : (if hasB l[i].f0 64 = true then [((i + 1 : Nat) : Int)] else []) = [((i + 1 : Nat) : Int)] := if_pos ho
        rw [e]
        refine zc ho (zc (by simp) (zx rfl (zx tv ?_)))
        rw [hg]
        exact ze (by decide) zn
      · have e : (if hasB l[i].f0 64 = true then [((i + 1 : Nat) : Int)] else []) = [] := if_neg ho
        rw [e]
        refine ze ho (zx tv ?_)
        rw [hg]
        exact ze (by decide) zn
    · intro x
      simp
    · split <;> simp
def visit : List Bool → List Int → List Int → List Bool × List Int
  | out, w, [] => (out, w)
  | out, w, x :: r => if out.getD x.toNat false = true then visit out w r else visit (out.set x.toNat true) (w ++ [x]) r
theorem visit_spec (n : Nat) : ∀ (W : List Int) (out : List Bool) (w : List Int), out.length = n → (∀ x ∈ W, ∃ j : Nat, x = (j : Int) ∧ j < n) →
    (visit out w W).1.length = n ∧ lack (visit out w W).1 + (visit out w W).2.length = lack out + w.length ∧
    (∀ j, j < n → ((visit out w W).1.getD j false = true ↔ out.getD j false = true ∨ (j : Int) ∈ W)) ∧
    (∀ x ∈ (visit out w W).2, x ∈ w ∨ x ∈ W) ∧ (∀ x ∈ w, x ∈ (visit out w W).2) ∧
    (∀ j, j < n → (visit out w W).1.getD j false = true → out.getD j false = true ∨ (j : Int) ∈ (visit out w W).2)
  | [], out, w, ho, hW => ⟨ho, rfl, fun j hj => by simp [visit], fun x hx => Or.inl hx, fun x hx => hx, fun j hj h => Or.inl h⟩
  | x :: r, out, w, ho, hW => by
    obtain ⟨a, rfl, ha⟩ := hW x (by simp)
    have hr : ∀ y ∈ r, ∃ j : Nat, y = (j : Int) ∧ j < n := fun y hy => hW y (List.mem_cons_of_mem _ hy)
    unfold visit
    rw [Int.toNat_natCast]
    by_cases h : out.getD a false = true
    · rw [if_pos h]
      obtain ⟨q1, q2, q3, q4, q5, q6⟩ := visit_spec n r out w ho hr
      refine ⟨q1, q2, fun j hj => ?_, fun y hy => ?_, q5, q6⟩
      · rw [q3 j hj]
        constructor
        · rintro (z | z)
          · exact Or.inl z
          · exact Or.inr (List.mem_cons_of_mem _ z)
        · rintro (z | z)
          · exact Or.inl z
          · rcases List.mem_cons.1 z with e | e
            · have : j = a := by omega
              subst this; exact Or.inl h
            · exact Or.inr e
      · rcases q4 y hy with z | z
        · exact Or.inl z
        · exact Or.inr (List.mem_cons_of_mem _ z)
    · rw [if_neg h]
      have hlt : a < out.length := by omega
      obtain ⟨q1, q2, q3, q4, q5, q6⟩ := visit_spec n r (out.set a true) (w ++ [(a : Int)]) (by simpa using ho) hr
      have hs := lack_set out a (by
        simp [List.getD_eq_getElem?_getD, List.getElem?_eq_getElem hlt] at h ⊢
        exact h) hlt
      refine ⟨q1, by rw [q2]; simp; omega, fun j hj => ?_, fun y hy => ?_, fun y hy => q5 y (List.mem_append_left _ hy), fun j hj hm => ?_⟩
      · rw [q3 j hj, set_getD out a j hlt]
        constructor
        · rintro ((z | z) | z)
          · exact Or.inr (by rw [z]; exact List.mem_cons_self ..)
          · exact Or.inl z
          · exact Or.inr (List.mem_cons_of_mem _ z)
        · rintro (z | z)
          · exact Or.inl (Or.inr z)
          · rcases List.mem_cons.1 z with e | e
            · exact Or.inl (Or.inl (by omega))
            · exact Or.inr e
      · rcases q4 y hy with z | z
        · rcases List.mem_append.1 z with e | e
          · exact Or.inl e
          · exact Or.inr (by rw [List.mem_singleton.1 e]; exact List.mem_cons_self ..)
        · exact Or.inr (List.mem_cons_of_mem _ z)
      · rcases q6 j hj hm with z | z
        · rcases (set_getD out a j hlt).1 z with e | e
          · exact Or.inr (q5 _ (by rw [e]; simp))
          · exact Or.inl e
        · exact Or.inr z
theorem visit_l1 (l : List S34) (W : List Int) (hl : l.length ≤ 8192) (hWl : W.length ≤ 3) (hW : ∀ x ∈ W, ∃ j : Nat, x = (j : Int) ∧ j < l.length) (r : List Bool × Int) (d : Nat) : ∀ (i : Nat) (out : List Bool) (w : List Int), i + d = W.length → out.length = l.length → w.length + d ≤ 20000 →
    Ev (fun k => zz.l0 k l (visit out w (W.drop i)).1 (visit out w (W.drop i)).2) r → Ev (fun k => zz.l1 k l out w W (i : Int)) r := by
  induction d with
  | zero =>
    intro i out w hi ho hw h
    rw [List.drop_eq_nil_of_le (by omega)] at h
    exact zu (fun k => zz.l1.eq_2 _ _ _ _ _ _) (ze (by omega) h)
  | succ d ih =>
    intro i out w hi ho hw h
    have hil : i < W.length := by omega
    obtain ⟨a, ea, ha⟩ := hW W[i] (List.getElem_mem hil)
    have hrd : rd W (i : Int) = (a : Int) := by rw [← ea]; simp [rd, List.getD_eq_getElem?_getD, List.getElem?_eq_getElem hil]
    have hws := qC (i := i) (by omega)
    rw [List.drop_eq_getElem_cons hil, ea] at h
    unfold visit at h
    rw [Int.toNat_natCast] at h
    refine zu (fun k => zz.l1.eq_2 _ _ _ _ _ _) (zc (by omega) (zc (by omega) ?_))
    rw [hrd, hws, rdBool, Int.toNat_natCast]
    refine zc (by omega) (zc (by omega) ?_)
    by_cases hm : out.getD a false = true
    · rw [if_pos hm] at h
      exact zc hm (ih (i + 1) out w (by omega) ho (by omega) h)
    · rw [if_neg hm] at h
      exact ze hm (zc (by omega) (ih (i + 1) _ _ (by omega) (by simpa using ho) (by simp; omega) h))
structure Srch (l : List S34) (out : List Bool) (w : List Int) : Prop where
  len : out.length = l.length
  zero : out.getD 0 false = true
  sound : ∀ i, i < l.length → out.getD i false = true → Rch l i
  work : ∀ x ∈ w, ∃ j : Nat, x = (j : Int) ∧ j < l.length ∧ out.getD j false = true
  shut : ∀ i, i < l.length → out.getD i false = true → (i : Int) ∈ w ∨ ∀ j : Nat, (j : Int) ∈ xA l i → out.getD j false = true
theorem srch_step (l : List S34) (R : xb l) (out : List Bool) (p : Nat) (w : List Int) (S : Srch l out ((p : Int) :: w)) (W : List Int) (hW : ∀ x, x ∈ W ↔ x ∈ xA l p) : Srch l (visit out w W).1 (visit out w W).2 := by
  obtain ⟨p', e, hp, hpm⟩ := S.work (p : Int) (by simp)
  have : p' = p := by omega
  subst this
  have hWn : ∀ x ∈ W, ∃ j : Nat, x = (j : Int) ∧ j < l.length := fun x hx => nexts_lt R p' hp x ((hW x).1 hx)
  obtain ⟨q1, q2, q3, q4, q5, q6⟩ := visit_spec l.length W out w S.len hWn
  refine ⟨q1, (q3 0 R.pos).2 (Or.inl S.zero), fun i hi hm => ?_, fun x hx => ?_, fun i hi hm => ?_⟩
  · rcases (q3 i hi).1 hm with h | h
    · exact S.sound i hi h
    · exact Rch.next p' i (S.sound p' hp hpm) hp ((hW _).1 h)
  · rcases q4 x hx with h | h
    · obtain ⟨j, ej, hj, hjm⟩ := S.work x (List.mem_cons_of_mem _ h)
      exact ⟨j, ej, hj, (q3 j hj).2 (Or.inl hjm)⟩
    · obtain ⟨j, ej, hj⟩ := hWn x h
      exact ⟨j, ej, hj, (q3 j hj).2 (Or.inr (by rw [← ej]; exact h))⟩
  · rcases q6 i hi hm with h | h
    · rcases S.shut i hi h with z | z
      · rcases List.mem_cons.1 z with e2 | e2
        · have : i = p' := by omega
          subst this
          refine Or.inr (fun j hj => ?_)
          obtain ⟨j', ej, hj'⟩ := nexts_lt R i hi (j : Int) hj
          have : j' = j := by omega
          subst this
          exact (q3 j' hj').2 (Or.inr ((hW _).2 hj))
        · exact Or.inl (q5 _ e2)
      · refine Or.inr (fun j hj => ?_)
        obtain ⟨j', ej, hj'⟩ := nexts_lt R i hi (j : Int) hj
        have : j' = j := by omega
        subst this
        exact (q3 j' hj').2 (Or.inl (z j' hj))
    · exact Or.inl h
theorem live16_loop (l : List S34) (R : xb l) (m : Nat) : ∀ (out : List Bool) (w : List Int), Srch l out w → lack out + w.length ≤ m → lack out + w.length ≤ 9000 →
    ∃ v : List Bool, Ev (fun k => zz.l0 k l out w) (v, 0) ∧ Srch l v [] := by
  have hl := R.len
  induction m with
  | zero =>
    intro out w S hm _
    have : w = [] := List.eq_nil_of_length_eq_zero (by omega)
    subst this
    exact ⟨out, zu (fun k => zz.l0.eq_2 _ _ _ _) (ze (by simp) zn), S⟩
  | succ m ih =>
    intro out w S hm hb
    cases w with
    | nil => exact ⟨out, zu (fun k => zz.l0.eq_2 _ _ _ _) (ze (by simp) zn), S⟩
    | cons x w' =>
      obtain ⟨p, rfl, hp, hpm⟩ := S.work x (by simp)
      obtain ⟨W, w1, w2, w3⟩ := ways_ev l R p hp
      have hWn : ∀ x ∈ W, ∃ j : Nat, x = (j : Int) ∧ j < l.length := fun x hx => nexts_lt R p hp x ((w2 x).1 hx)
      have S2 := srch_step l R out p w' S W w2
      obtain ⟨q1, q2, _⟩ := visit_spec l.length W out w' S.len hWn
      simp only [List.length_cons] at hm hb
      obtain ⟨v, v1, v2⟩ := ih _ _ S2 (by omega) (by omega)
      refine ⟨v, ?_, v2⟩
      refine zu (fun k => zz.l0.eq_2 _ _ _ _) (zc (by simp only [List.length_cons]; omega) (zc (by simp only [List.length_cons]; omega) ?_))
      rw [show rd ((p : Int) :: w') 0 = (p : Int) from rfl]
      refine zA w1 (zc (by simp only [List.length_cons]; omega) ?_)
      rw [show ((p : Int) :: w').drop (1 : Int).toNat = w' from rfl]
      exact visit_l1 l W hl w3 hWn _ W.length 0 out w' (by omega) S.len (by omega) (by simpa using v1)
theorem check16_ok (l : List S34) (G : Good l) : Ev (fun k => zt.f k l) (0, 0) := by
  obtain ⟨r, c1, c2, _⟩ := check16 l (fun x hx => by
    obtain ⟨i, hi, rfl⟩ := List.getElem_of_mem hx
    exact G.size i hi)
  have e := ev_same c1 (check_ok l G.right G.fit)
  subst e
  exact c2
theorem live16_iff (l : List S34) (G : Good l) : ∃ v : List Bool, Ev (fun k => zz.f k l) (v, 0) ∧ v.length = l.length ∧ ∀ i, i < l.length → (v.getD i false = true ↔ Rch l i) := by
  have R := G.right
  have hl := R.len
  have hp := R.pos
  have hlk : lack (List.replicate l.length false) = l.length := by simp [lack]
  have hs := lack_set (List.replicate l.length false) 0 (by simp [List.getD_eq_getElem?_getD, List.getElem?_replicate, hp]) (by simpa using hp)
  have z0 : ∀ i, i < l.length → ((List.replicate l.length false).set 0 true).getD i false = true → i = 0 := fun i hi h => by
    rcases (set_getD _ 0 i (by simpa using hp)).1 h with e | e
    · exact e
    · rw [List.getD_eq_getElem?_getD, List.getElem?_replicate, if_pos hi] at e; cases e
  have S : Srch l ((List.replicate l.length false).set 0 true) [0] := by
    refine ⟨by simp, (set_getD _ 0 0 (by simpa using hp)).2 (Or.inl rfl), fun i hi h => ?_, fun x hx => ⟨0, by simpa using hx, hp, (set_getD _ 0 0 (by simpa using hp)).2 (Or.inl rfl)⟩, fun i hi h => Or.inl (by rw [z0 i hi h]; simp)⟩
    rw [z0 i hi h]; exact Rch.zero
  obtain ⟨v, v1, v2⟩ := live16_loop l R _ _ _ S (Nat.le_refl _) (by simp; omega)
  refine ⟨v, ?_, v2.len, fun i hi => ⟨v2.sound i hi, fun hr => ?_⟩⟩
  · unfold zz.f
    refine zA (check16_ok l G) (zc rfl (zc (by omega) (zc (by omega) ?_)))
    rw [Int.toNat_natCast]
    refine zx rfl (zc (by simpa using hp) ?_)
    exact v1
  · clear hi
    induction hr with
    | zero => exact v2.zero
    | next i j hri hi hn ih =>
      rcases v2.shut i hi ih with h | h
      · cases h
      · exact h j hn
theorem live_both (l : List S34) (G : Good l) : ∃ v : List Bool, Ev (fun k => qj.f k l) (v, 0) ∧ Ev (fun k => zz.f k l) (v, 0) ∧ v.length = l.length ∧ v.getD 0 false = true ∧ ∀ i, i < l.length → v.getD i false = true → ∀ j : Nat, (j : Int) ∈ xA l i → v.getD j false = true := by
  obtain ⟨v, a1, a2, a3⟩ := live_iff l G
  obtain ⟨u, b1, b2, b3⟩ := live16_iff l G
  obtain ⟨x, c1, c2, c3, c4⟩ := live_closed l G
  have e := ev_same a1 c1
  simp only [Prod.mk.injEq, and_true] at e
  subst e
  have e2 : u = v := by
    refine List.ext_getElem (by omega) (fun i hi hj => ?_)
    have h1 := a3 i (by omega)
    have h2 := b3 i (by omega)
    rw [List.getD_eq_getElem?_getD, List.getElem?_eq_getElem hj] at h1
    rw [List.getD_eq_getElem?_getD, List.getElem?_eq_getElem hi] at h2
    have h3 := h2.trans h1.symm
    simp only [Option.getD_some] at h3
    cases hu : u[i] <;> cases hv : v[i] <;> simp [hu, hv] at h3 ⊢
  subst e2
  exact ⟨u, a1, b1, a2, c3, c4⟩
end Go.Proofs.YtnpeabmlcakegaaDoor.PAll
namespace Go.Proofs.YtnpeabmlcakegaaDoor.PAll
open Go.RowKit Go.Proofs.YtnpeabmlcakegaaDoorW.PrintWords Go.Proofs.YtnpeabmlcakegaaDoorW.PrintLast Go.Proofs.YtnpeabmlcakegaaDoorW.PrintMore
attribute [local go_sem] zW z4 qd qR qO xd xe qD qB qQ qP
set_option linter.unusedVariables false
set_option linter.unusedSimpArgs false
def qW.l0 : Nat → List (S34) → Int → Int → Option (Unit)
 | 0, _, _, _ => none
 | k + 1, x0, x1, x4 => if x4 < (x0.length : Int) then (if 0 ≤ x4 then (qW.l0 k (x0.set (x4 : Int).toNat (⟨x1, 0, 0, 0, (⟨#[]⟩ : ByteArray), (⟨0, 0, 0, 0⟩ : S32)⟩ : S34)) x1 (wrap64 (x4 + 1))) else (none)) else (if x0.length < 1759218604441 then (some ()) else (none))
def qW.f (k : Nat) (l0 : List (S34)) (a1 : Int) : Option (Unit) := qW.l0 k l0 a1 0
def harrowref20_Tails.f (k : Nat) (l0 : List (S34)) : Option ((List (S34)) × Int) := (zt.f k l0).bind fun bt608 => (if bt608.2 = 0 then ((z6.f k l0).bind fun t610 => (some (t610, 0))) else (some (([] : List (S34)), bt608.2)))
def harrowref20_Threads.f (k : Nat) (l0 : List (S34)) : Option ((List (S34)) × Int) := (zt.f k l0).bind fun bt613 => (if bt613.2 = 0 then ((zv.f k l0).bind fun t615 => (some (t615, 0))) else (some (([] : List (S34)), bt613.2)))
def harrowlaw20_PeepTails.f (k : Nat) (l0 : List (S34)) : Option (Bool) := (qt.f l0).bind fun t618 => ((peep_Tails.f k t618).bind fun bt621 => ((harrowref20_Tails.f k l0).bind fun bt625 => ((peep_Threads.f k t618).bind fun bt629 => ((harrowref20_Threads.f k l0).bind fun bt633 => ((qJ.f k).bind fun t637 => (if t637 = true then ((zo.f k bt621.1 bt625.1).bind fun t638 => (if t638 = true then (if bt621.2 = bt625.2 then ((zo.f k bt629.1 bt633.1).bind fun t639 => (if t639 = true then (if bt629.2 = bt633.2 then ((qm.f k t618 l0).bind fun t640 => (some t640)) else (some false)) else (some false))) else (some false)) else (some false))) else (some false)))))))
def harrowref20_Dead.f (k : Nat) (l0 : List (S34)) : Option ((List (S34)) × Int) := (zt.f k l0).bind fun bt641 => (if bt641.2 = 0 then ((z5.f k l0).bind fun t643 => (some (t643, 0))) else (some (([] : List (S34)), bt641.2)))
def harrowref20_Hops.f (k : Nat) (l0 : List (S34)) : Option ((List (S34)) × Int) := (zt.f k l0).bind fun bt646 => (if bt646.2 = 0 then ((z3.f k l0).bind fun t648 => (some (t648, 0))) else (some (([] : List (S34)), bt646.2)))
def harrowlaw20_PeepDead.f (k : Nat) (l0 : List (S34)) : Option (Bool) := (qt.f l0).bind fun t651 => ((xK.f k t651).bind fun bt654 => ((harrowref20_Dead.f k l0).bind fun bt658 => ((peep_Hops.f k t651).bind fun bt662 => ((harrowref20_Hops.f k l0).bind fun bt666 => ((qJ.f k).bind fun t670 => (if t670 = true then ((zo.f k bt654.1 bt658.1).bind fun t671 => (if t671 = true then (if bt654.2 = bt658.2 then ((zo.f k bt662.1 bt666.1).bind fun t672 => (if t672 = true then (if bt662.2 = bt666.2 then ((qm.f k t651 l0).bind fun t673 => (some t673)) else (some false)) else (some false))) else (some false)) else (some false))) else (some false)))))))
def jn.l0 : Nat → List (S34) → Int → List (S34) → Int → Option (Bool)
 | 0, _, _, _, _ => none
 | k + 1, x0, x1, x5, x6 => if x6 < 2 then ((peep_Tails.f k x5).bind fun bt677 => ((qW.f k bt677.1 (-3)).bind fun _ => ((peep_Threads.f k x5).bind fun bt681 => ((qW.f k bt681.1 (-4)).bind fun _ => ((xK.f k x5).bind fun bt685 => ((qW.f k bt685.1 (-5)).bind fun _ => ((peep_Hops.f k x5).bind fun bt689 => ((qW.f k bt689.1 (-6)).bind fun _ => ((z7.f k x5 x1).bind fun bt693 => ((qW.f k bt693.1 (-7)).bind fun _ => (jn.l0 k x0 x1 x5 (wrap64 (x6 + 1))))))))))))) else ((harrowlaw20_PeepTails.f k x0).bind fun t697 => (if t697 = true then ((harrowlaw20_PeepDead.f k x0).bind fun t698 => (if t698 = true then ((qN.f k x0 x1).bind fun t699 => (if t699 = true then ((qm.f k x5 x0).bind fun t700 => (some t700)) else (some false))) else (some false))) else (some false)))
def jn.f (k : Nat) (l0 : List (S34)) (a1 : Int) : Option (Bool) := (qt.f l0).bind fun t674 => (jn.l0 k l0 a1 t674 0)
end Go.Proofs.YtnpeabmlcakegaaDoor.PAll
namespace Go.Proofs.YtnpeabmlcakegaaDoor.PAll
open Go.RowKit Go.Proofs.YtnpeabmlcakegaaDoorW.PrintWords
set_option linter.unusedVariables false
set_option linter.unusedSimpArgs false
theorem flag_tab2 : ∀ i : Fin 128, decide (Int.tmod (wrap64 (Int.tdiv (i.val : Int) 32)) 2 = 1) = (Go.bits .and .i64 (i.val : Int) 32 != 0) ∧ decide (Int.tmod (wrap64 (Int.tdiv (i.val : Int) 64)) 2 = 1) = (Go.bits .and .i64 (i.val : Int) 64 != 0) := by decide +kernel
theorem flag_both (a1 : Int) (h0 : 0 ≤ a1) (h1 : a1 ≤ 127) : (Int.tmod (wrap64 (Int.tdiv a1 32)) 2 = 1 ↔ (Go.bits .and .i64 a1 32 != 0) = true) ∧ (Int.tmod (wrap64 (Int.tdiv a1 64)) 2 = 1 ↔ (Go.bits .and .i64 a1 64 != 0) = true) := by
  have h := flag_tab2 ⟨a1.toNat, by omega⟩
  simp only [Int.toNat_of_nonneg h0] at h
  rw [← h.1, ← h.2]
  simp
theorem same16_l : ∀ (k : Nat) (a b : List S34) (i : Int), z9.l0 k a b i = zo.l0 k a b i
  | 0, _, _, _ => rfl
  | k + 1, a, b, i => by simp only [z9.l0, zo.l0, same16_l k]
theorem same16 (k : Nat) (a b : List S34) : z9.f k a b = zo.f k a b := by simp only [z9.f, zo.f, same16_l]
theorem same16_ev (a b : List S34) (hl : a.length ≤ 8192) : ∃ s : Bool, Ev (fun k => z9.f k a b) s ∧ (s = true ↔ a = b) := by
  obtain ⟨s, _, s2, s3⟩ := same_ev a b hl
  refine ⟨s, ?_, s3⟩
  have e : (fun k => z9.f k a b) = fun k => zo.f k a b := funext fun k => same16 k a b
  rw [e]
  exact s2
theorem dead_both (l : List S34) (T : Good l) : ∃ D : List S34, Ev (fun k => qU.f k l) D ∧ Ev (fun k => z5.f k l) D ∧ xb D ∧ D.length ≤ l.length := by
  obtain ⟨v, v1, v1', v2, v3, v4⟩ := live_both l T
  have gl : (v.map fun b => !b).length = l.length := by simp [v2]
  have nf : ∀ i, i < l.length → ((v.map fun b => !b).getD i false = false ↔ v.getD i false = true) := fun i hi => by
    rw [notv v i (by omega)]
    cases v.getD i false <;> simp
  have D : Good (rest l (v.map fun b => !b)) := by
    refine good_rest _ T _ gl ⟨0, T.right.pos, (nf 0 T.right.pos).2 v3⟩ (fun i hi hk hon => ?_) (fun i hi hk hg => ?_)
    · have hn := next_on T.right i hi hon
      refine ⟨i + 1, by omega, hn, (nf _ hn).2 (v4 i hi ((nf i hi).1 hk) (i + 1) ?_)⟩
      unfold xA
      rw [xh _ i hi, if_pos hon]
      simp
    · have ht := jb T.right i hi hg
      refine ⟨tgt l i, Nat.le_refl _, ht.1, (nf _ ht.1).2 (v4 i hi ((nf i hi).1 hk) _ ?_)⟩
      unfold xA
      rw [xh _ i hi]
      by_cases hc : hasB l[i].f0 64 = true ∧ l[i].f1 = 1
      · rw [if_pos hc.1]
        refine List.mem_append.2 (Or.inl ?_)
        have e := ht.2
        rw [hc.2] at e
        simp
        omega
      · rw [if_pos (c := hasB l[i].f0 32 = true ∧ ¬ (hasB l[i].f0 64 = true ∧ l[i].f1 = 1)) ⟨hg, hc⟩]
        exact List.mem_append.2 (Or.inr (by simp))
  have l1 := rest_len l _ gl
  have k1 := jv (v.map fun b => !b) l.length
  exact ⟨_, dead_ev l T.right v v2 v1, dead16_ev l T.right v v2 v1', D.right, by omega⟩
theorem jumps16 (l : List S34) (G : Good l) : ∃ D h : List S34, Ev (fun k => qU.f k (zN l)) D ∧ Ev (fun k => z5.f k (zN l)) D ∧ Ev (fun k => qS.f k D) h ∧ Ev (fun k => z3.f k D) h := by
  obtain ⟨D, d1, d2, d3, _⟩ := dead_both (zN l) (good_thread l G)
  exact ⟨D, _, d1, d2, hops_ev D d3, hops16_ev D d3⟩
theorem round16 (a1 : Int) (h0 : 0 ≤ a1) (h1 : a1 ≤ 127) (l : List S34) (G : Good l) (o : List S34) (ho : Ev (fun k => z7.round k l a1) o) (hol : o.length ≤ 8192) (r : List S34 × Int) (hr : ∀ s : Bool, (s = true ↔ o = l) → Ev (fun k => if s = true then some (o, 0) else zm.l0 k o a1) r) :
    Ev (fun k => zm.l0 k l a1) r := by
  have fl := flag_both a1 h0 h1
  have ht : Ev (fun k => if (Go.bits .and .i64 a1 32 != 0) = true then qK.f k l else some l) (je a1 l) := by
    unfold je
    by_cases h : (Go.bits .and .i64 a1 32 != 0) = true
    · rw [if_pos h]; exact zc h (tails_ev l G.right)
    · rw [if_neg h]; exact ze h zn
  have GT := good_tailB a1 l G
  obtain ⟨s, s1, s2⟩ := same16_ev o l hol
  have J : Ev (fun k => zm.j2 k l a1 (je a1 l)) r := by
    refine zu (fun k => zm.j2.eq_2 _ _ _ _) ?_
    by_cases hb : (Go.bits .and .i64 a1 64 != 0) = true
    · obtain ⟨D, h, d1, d2, e1, e2⟩ := jumps16 (je a1 l) GT
      have e : o = h := by
        refine ev_same ho ?_
        unfold z7.round
        exact zA ht (zc hb (zA (threads_ev _ GT.right) (zA d1 e1)))
      subst e
      exact zc (fl.2.2 hb) (zA (threads16_ev _ GT) (zA d2 (zA e2 (zA s1 (hr s s2)))))
    · have e : o = je a1 l := by
        refine ev_same ho ?_
        unfold z7.round
        exact zA ht (ze hb zn)
      rw [← e]
      exact ze (fun z => hb (fl.2.1 z)) (zA s1 (hr s s2))
  refine zu (fun k => zm.l0.eq_2 _ _ _) (zx (copied_ev l G.right.len) ?_)
  by_cases h : (Go.bits .and .i64 a1 32 != 0) = true
  · have e : je a1 l = jq l := by unfold je; rw [if_pos h]
    rw [e] at J
    exact zc (fl.1.2 h) (zA (tails16_ev l G.right) J)
  · have e : je a1 l = l := by unfold je; rw [if_neg h]
    rw [e] at J
    exact ze (fun z => h (fl.1.1 z)) J
theorem loop16 (a1 : Int) (h0 : 0 ≤ a1) (h1 : a1 ≤ 127) : ∀ (n : Nat) (l : List S34) (fl : Nat), Good l → (fl = 0 → zN l = l) → l.length * 20000 + 2 * nC l + fl ≤ n →
    ∃ o : List S34, Ev (fun k => z7.l0 k l a1) o ∧ Ev (fun k => zm.l0 k l a1) (o, 0) ∧ o.length ≤ 8192 := by
  intro n
  induction n using Nat.strongRecOn with
  | _ n ih =>
    intro l fl G hfl hn
    have hlen := G.right.len
    obtain ⟨o, e1, e2, e3, e4⟩ := round_ev a1 l G
    obtain ⟨s, s1, _, s3⟩ := same_ev l o hlen
    by_cases he : l = o
    · subst he
      have hs := s3.2 rfl
      subst hs
      refine ⟨l, ?_, round16 a1 h0 h1 l G l e1 hlen _ (fun s hs => zc (hs.2 rfl) zn), hlen⟩
      refine zu (fun k => z7.l0.eq_2 _ _ _) (zA e1 (zA s1 (zc rfl ?_)))
      rw [clone_ev l hlen]
      exact zn
    · have hs : s = false := by
        cases s with
        | false => rfl
        | true => exact absurd (s3.1 rfl) he
      subst hs
      have nc := nC_le o
      have key : ∃ fl', (fl' = 0 → zN o = o) ∧ o.length * 20000 + 2 * nC o + fl' < n := by
        by_cases hl : o.length < l.length
        · exact ⟨1, (fun h => by cases h), by omega⟩
        · have e := (e4 (by omega)).1
          have c1 := tailB_calls a1 l
          have RT := (good_tailB a1 l G).right
          have c2 := thread_calls RT
          by_cases hb : (Go.bits .and .i64 a1 64 != 0) = true
          · unfold simB at e
            rw [if_pos hb] at e
            refine ⟨0, fun _ => by rw [e]; exact thread_idem RT, ?_⟩
            by_cases hy : je a1 l = l
            · have hf : fl ≠ 0 := fun h => he (by rw [e, hy]; exact (hfl h).symm)
              rw [← e] at c2
              rw [hy] at c2
              omega
            · have := c1.2 hy
              rw [← e] at c2
              omega
          · unfold simB at e
            rw [if_neg hb] at e
            have := c1.2 (fun h => he (by rw [e, h]))
            rw [← e] at this
            exact ⟨1, (fun h => by cases h), by omega⟩
      obtain ⟨fl', k1, k2⟩ := key
      obtain ⟨q, q1, q2, q3⟩ := ih _ k2 o fl' e2 k1 (Nat.le_refl _)
      refine ⟨q, ?_, round16 a1 h0 h1 l G o e1 e2.right.len _ (fun s hs => ze (fun z => he (hs.1 z).symm) q2), q3⟩
      exact zu (fun k => z7.l0.eq_2 _ _ _) (zA e1 (zA s1 (ze (by decide) q1)))
theorem better16 (a1 : Int) (l : List S34) (G : Good l) (h0 : 0 ≤ a1) (h1 : a1 ≤ 127) : ∃ o : List S34, Ev (fun k => z7.f k l a1) (o, 0) ∧ Ev (fun k => zm.f k l a1) (o, 0) ∧ o.length ≤ 8192 := by
  have hlen := G.right.len
  obtain ⟨o, q1, q2, q3⟩ := loop16 a1 h0 h1 _ l 1 G (fun h => by cases h) (Nat.le_refl _)
  refine ⟨o, ?_, ?_, q3⟩
  · unfold z7.f
    refine zA (check_ok l G.right G.fit) (zc rfl (zc h0 (zc h1 ?_)))
    rw [clone_ev l hlen]
    exact zx rfl (zA q1 zn)
  · unfold zm.f
    refine zA (check16_ok l G) (zc rfl (ze (by omega) ?_))
    rw [decide_eq_false (show ¬ a1 > 127 by omega)]
    exact zu (fun k => zm.j0.eq_2 _ _ _ _) (ze (by decide) q2)
theorem better16_bad (a1 : Int) (l : List S34) (r : Int × Int) (hc : Ev (fun k => zt.f k l) r) (h : ¬ r.2 = 0) : Ev (fun k => zm.f k l a1) ([], r.2) := by
  unfold zm.f
  exact zA hc (ze h zn)
theorem better16_range (a1 : Int) (l : List S34) (hc : Ev (fun k => zt.f k l) (0, 0)) (h : ¬ (0 ≤ a1 ∧ a1 ≤ 127)) : Ev (fun k => zm.f k l a1) ([], 1) := by
  unfold zm.f
  refine zA hc (zc rfl ?_)
  by_cases h0 : a1 < 0
  · exact zc h0 (zu (fun k => zm.j0.eq_2 _ _ _ _) (zc rfl zn))
  · refine ze h0 ?_
    rw [decide_eq_true (show a1 > 127 by omega)]
    exact zu (fun k => zm.j0.eq_2 _ _ _ _) (zc rfl zn)
theorem better_both (l : List S34) (a1 : Int) (hs : ∀ x ∈ l, x.f4.size ≤ 140737488351232) : ∃ q : List S34 × Int, Ev (fun k => z7.f k l a1) q ∧ Ev (fun k => zm.f k l a1) q ∧ q.1.length ≤ 8192 := by
  obtain ⟨r, c1, c2, c3⟩ := check16 l hs
  by_cases hr : r.2 = 0
  · have G := clone_good l r hs (c3 hr)
    have er := (c3 hr).1
    subst er
    by_cases hf : 0 ≤ a1 ∧ a1 ≤ 127
    · obtain ⟨o, b1, b2, b3⟩ := better16 a1 l G hf.1 hf.2
      exact ⟨_, b1, b2, b3⟩
    · exact ⟨_, better_range a1 l G.right.len c1 hf, better16_range a1 l c2 hf, by simp⟩
  · exact ⟨_, better_bad a1 l r c1 hr, better16_bad a1 l r c2 hr, by simp⟩
theorem bind_pair {α β : Type} (o : Option (α × β)) : (o.bind fun b => some (b.1, b.2)) = o := by cases o <;> rfl
def code0 : List S34 := [⟨17, 0, 0, 0, ⟨#[]⟩, ⟨0, 0, 0, 0⟩⟩, ⟨16, 0, 0, 0, ⟨#[]⟩, ⟨0, 0, 0, 0⟩⟩]
theorem fit0 (op : Int) (h : op = 17 ∨ op = 16) : Fit ⟨op, 0, 0, 0, ⟨#[]⟩, ⟨0, 0, 0, 0⟩⟩ := by
  obtain ⟨nb, hn, _⟩ := name16 (⟨#[]⟩ : ByteArray) (by decide)
  obtain ⟨tb, hb⟩ := jh (⟨#[]⟩ : ByteArray) (by decide)
  have hv := fits_val ⟨op, 0, 0, 0, ⟨#[]⟩, ⟨0, 0, 0, 0⟩⟩ (by rcases h with rfl | rfl <;> decide) (by rcases h with rfl | rfl <;> decide) nb tb hn hb
  have e : (keepV ⟨op, 0, 0, 0, ⟨#[]⟩, ⟨0, 0, 0, 0⟩⟩ && tailV ⟨op, 0, 0, 0, ⟨#[]⟩, ⟨0, 0, 0, 0⟩⟩ nb tb) = true := by
    unfold keepV tailV
    rw [nil_list]
    rcases h with rfl | rfl <;> simp
  rw [e] at hv
  exact hv
theorem good0 : Good code0 := by
  refine ⟨⟨by decide, by decide, fun i h => ?_, fun i h hg => ?_, fun h => ?_⟩, fun j h => ?_, fun j h => ?_⟩
  · match i, h with
    | 0, _ => exact (show (1 : Int) ≤ 17 ∧ (17 : Int) ≤ 20 by decide)
    | 1, _ => exact (show (1 : Int) ≤ 16 ∧ (16 : Int) ≤ 20 by decide)
  · match i, h with
    | 0, _ => exact absurd hg (show ¬ hasB 17 32 = true by decide +kernel)
    | 1, _ => exact absurd hg (show ¬ hasB 16 32 = true by decide +kernel)
  · show hasB 16 64 = false
    decide +kernel
  · match j, h with
    | 0, _ => exact fit0 17 (Or.inl rfl)
    | 1, _ => exact fit0 16 (Or.inr rfl)
  · match j, h with
    | 0, _ => exact Nat.zero_le _
    | 1, _ => exact Nat.zero_le _
theorem rch0 (i : Nat) (h : Rch code0 i) : i = 0 := by
  induction h with
  | zero => rfl
  | next i j _ _ hn ih =>
    subst ih
    have e : xA code0 0 = [] := by decide +kernel
    rw [e] at hn
    cases hn
theorem lives_ev2 : Ev (fun k => qJ.f k) true := by
  obtain ⟨v, v1, v2, v3⟩ := live_iff code0 good0
  have hv : v = [true, false] := by
    match v, v2, v3 with
    | [a, b], _, v3 =>
      have h0 := (v3 0 (by decide)).2 Rch.zero
      have h1 := fun h => rch0 1 ((v3 1 (by decide)).1 h)
      simp at h0 h1
      rw [h0, h1]
  subst hv
  have hd : Ev (fun k => xK.f k code0) ([⟨17, 0, 0, 0, ⟨#[]⟩, ⟨0, 0, 0, 0⟩⟩], 0) := by
    simp only [xK.f, jl.f, bind_pair]
    exact zA (check_ok code0 good0.right good0.fit) (zc rfl (zA (dead_ev code0 good0.right _ rfl v1) zn))
  unfold qJ.f
  exact zA hd (zc rfl (zc rfl (zc (by decide) zn)))
theorem samecode_refl_l (l : List S34) (hl : l.length ≤ 4611686018427387904) (d : Nat) : ∀ i : Nat, i + d = l.length → Ev (fun k => zo.l0 k l l (i : Int)) true := by
  induction d with
  | zero =>
    intro i hi
    exact zu (fun k => zo.l0.eq_2 _ _ _ _) (ze (by omega) zn)
  | succ d ih =>
    intro i hi
    refine zu (fun k => zo.l0.eq_2 _ _ _ _) (zc (by omega) (zc (by omega) (zc (by omega) ?_)))
    rw [qC (i := i) (by omega)]
    exact ze (by have := (neqV_iff (za l (i : Int)) (za l (i : Int))).2 rfl; unfold neqV at this; rw [this]; decide) (ih (i + 1) (by omega))
theorem samecode_refl (l : List S34) (hl : l.length ≤ 4611686018427387904) : Ev (fun k => zo.f k l l) true := by
  unfold zo.f
  exact zc rfl (samecode_refl_l l hl l.length 0 (by omega))
theorem kept_ev (l : List S34) (hl : l.length ≤ 4611686018427387904) : Ev (fun k => qm.f k l l) true := by
  unfold qm.f
  exact zA (samecode_refl l hl) zn
theorem lend_ev (l : List S34) (hl : l.length < 1759218604440) : qt.f l = some l := by
  unfold qt.f
  simp only [Option.bind_some, List.length_nil, List.nil_append, List.length_append, List.length_cons, Int.toNat_natCast]
  rw [if_pos (by omega), if_pos (by omega), if_pos (by omega), if_pos (by omega)]
  simp
theorem lawBetter_ev (l : List S34) (a1 : Int) (hs : ∀ x ∈ l, x.f4.size ≤ 140737488351232) (hl : l.length < 1759218604440) : Ev (fun k => qN.f k l a1) true := by
  obtain ⟨q, q1, q2, q3⟩ := better_both l a1 hs
  unfold qN.f
  exact zx (lend_ev l hl) (zA q1 (zA q2 (zA lives_ev2 (zc rfl (zA (samecode_refl q.1 (by omega)) (zc rfl (zc rfl (zA (kept_ev l (by omega)) zn))))))))
theorem size34 : Tryd.prog.bytesOf 34 = 80 := by kernel_rfl
end Go.Proofs.YtnpeabmlcakegaaDoor.PAll
namespace Go.Proofs.YtnpeabmlcakegaaDoor.Pure
set_option linter.unusedVariables false
open Go.RowKit Go.Proofs.YtnpeabmlcakegaaDoorW.PrintWords Go.Proofs.YtnpeabmlcakegaaDoor.PAll
theorem PeepBetter (l : List S34) (a1 : Int) {P : Prop} (h : l.length ≤ 9223372036854775807 ∧ l.length * Tryd.prog.bytesOf 34 ≤ 140737488351232 ∧ ∀ y ∈ l, ok34 y) (hw : P) : ∃ k, qN.f k l a1 = some true :=
  (lawBetter_ev l a1 (fun x hx => (h.2.2 x hx).2.2.2.2.1) (by have := h.2.1; rw [size34] at this; omega)).rounds
end Go.Proofs.YtnpeabmlcakegaaDoor.Pure
namespace Go.Proofs.YtnpeabmlcakegaaDoor.peepBetter
open Go.ChangeShapes Go.WideShapes Go.ChangeAt Go.RowKit Go.Proofs.YtnpeabmlcakegaaDoor.PAll
open Go.Proofs.YtnpeabmlcakegaaDoorW.PrintWords
open Go.ChangeMaps (open_string shut_string)
set_option linter.unusedVariables false
theorem own : ownKnob Tryd.prog.godebug = none := by kernel_rfl
theorem laidOut : laidOutB Tryd.prog = true := by kernel_rfl
theorem glob_harrow_instr_uses : Tryd.prog.globalNamed "harrow/instr.uses" = some 0 := by kernel_rfl
theorem globt_harrow_instr_uses : (Tryd.prog.globals[0]?).map (·.type) = some 57 := by kernel_rfl
theorem door_met (os : Os) (args : Array Value) : laidMetH Tryd.prog [("harrow/instr.uses", Rows.laid_harrow_instr_uses)] ((World.doorLaid Tryd.prog 600 os).forCall (fun _ _ => 0) ⟨#[], args, []⟩).memory :=
  laidMetH_of_parts3 (fuel := 8) (laidMet_of_run' 8 (by kernel_rfl) (by kernel_rfl)) (by kernel_rfl) (by kernel_rfl)
theorem gw_of {W : World} (h : laidMetH Tryd.prog [("harrow/instr.uses", Rows.laid_harrow_instr_uses)] W) : GW W := by
  have h' : laidMet Tryd.prog [("harrow/instr.uses", Rows.laid_harrow_instr_uses)] W := h
  obtain ⟨ps, hl, _⟩ := h'
  obtain ⟨g, t, cs, fuel, p, q, hg, ht, hvar, hd, _, _⟩ := hl
  obtain rfl := Option.some.inj (glob_harrow_instr_uses.symm.trans hg)
  obtain rfl := Option.some.inj (globt_harrow_instr_uses.symm.trans ht)
  have hd' : DataW.trod _ Tryd.prog W 0 _ false fuel 57 cs.toList = some (.agg (usesTab.map fun x => .lit (.int .i64 x)), p) := hd
  have hcs := table_cells (n := 21) (e := 3) (k := .i64) (tab := usesTab) Tryd.underlying57 Tryd.underlying3 (by kernel_rfl) (by kernel_rfl) hd'
  have hc0 := World.var?_cell glob_harrow_instr_uses hvar
  exact GW.of_cells hcs hc0
set_option maxRecDepth 100000 in
theorem lifted (os : Os) (started : os.Started) (H : Type) (enc : TypeId × Value → H) :
    ReturnsInHanded {} Tryd.checked os 4 .any (fun w args => (Rows.peepBetterSpec.pre enc Tryd.prog Tryd.f4 [] false w args ∧ laidMetH Tryd.prog [("harrow/instr.uses", Rows.laid_harrow_instr_uses)] w) ∧ sizedMet enc Tryd.prog Tryd.f4 (OpenSpec.ofChange Rows.peepBetterSpec) false w args) (Rows.peepBetterSpec.post enc Tryd.prog Tryd.f4 false true false false) := by
  refine returnsInHanded_of_change_and (C := Tryd.checked) (X := fun w _ => laidMetH Tryd.prog [("harrow/instr.uses", Rows.laid_harrow_instr_uses)] w) (fun _ _ _ hh h => h.of_heap hh) own started (by kernel_rfl) Tryd.func4
    (ChangeSpec.witness_shaped (enc := enc) (C := Tryd.checked) (os := os) (X := fun w _ => laidMetH Tryd.prog [("harrow/instr.uses", Rows.laid_harrow_instr_uses)] w) false (World.doorLaid Tryd.prog 600 os) #[(.slice none 0 0), (.int .i64 0)] 8 rfl (World.shaped_of_RefB (by kernel_rfl) (by kernel_rfl)) (by kernel_rfl) (by kernel_rfl) (by kernel_rfl) (door_met os _)) ?_
  intro W base args ds gs before hval0 hW hcnd hsz0 hL _
  have hsz : (DataW.weightsEach Tryd.prog (Tryd.f4.params.toList ++ Rows.peepBetterSpec.plain.varTypes Tryd.prog) (ds ++ gs)).all (· ≤ reachBytes) = true := hsz0
  have hval : ∀ (j : Nat) t v, Tryd.f4.params[j]? = some t → args[j]? = some v → Value.okWide Tryd.prog W .any base t v := hval0
  have hW' := hW
  obtain ⟨p, q, hA0, hV, rfl, hfz, hnd⟩ := hW
  have hA : DataW.TrodAll enc Tryd.prog W 0 (fun _ => true) true Tryd.f4.params.toList args.toList ds p := hA0
  rw [Tryd.params4] at hA hval hsz
  obtain ⟨v0, vs0, d0, ds0, p0, q0, hargs, rfl, rfl, h0, r0⟩ := trodAll_cons hA
  obtain ⟨v1, vs1, d1, ds1, p1, q1, rfl, rfl, rfl, h1, r1⟩ := trodAll_cons r0
  obtain ⟨rfl, rfl, rfl⟩ := trodAll_nil r1
  obtain rfl : args = #[v0, v1] := by cases args; simp_all
  obtain ⟨rfl, rfl⟩ := trodVars_none hV
  obtain ⟨a0, len0, cap0, rfl⟩ := okWide_slice Tryd.underlying22 (hval 0 22 v0 rfl rfl)
  have lt0 : ∀ x ∈ p0, x.block < W.heap.size := by obtain ⟨m, hm⟩ := h0; exact DataW.trod_lt m _ _ _ hm
  obtain ⟨l0, ⟨A0, c0, hcs0, hc0, hr0⟩, hg0⟩ := xw.arg (j := 0) (x := d0) (xw.slice Tryd.underlying22 (by kernel_rfl) opens34) h0 hsz rfl rfl
  obtain ⟨rfl, rfl, rfl⟩ : a0 = A0 ∧ len0 = l0.length ∧ cap0 = c0 := by simpa [Value.cells] using hcs0
  obtain ⟨a1, rfl, _, _, hw1⟩ := open_int Tryd.underlying3 (hval 1 3 v1 rfl rfl) h1
  have lt1 : ∀ x ∈ p1, x.block < W.heap.size := by obtain ⟨m, hm⟩ := h1; exact DataW.trod_lt m _ _ _ hm
  clear hA0 hval0 hsz0 hsz hval
  have hP := YtnpeabmlcakegaaDoor.Pure.PeepBetter l0 a1 hg0 hw1
  have hP2 : ∃ k, qN.f k l0 a1 = some true := hP
  obtain ⟨k, hP3⟩ := hP2
  refine (qN.calls k _ _ l0 a1 true W (gw_of hL) hr0 hc0 hP3).mono fun e W' ⟨he, bel0⟩ => ?_
  have bel : Below W.heap.size W W' := bel0
  subst he
  exact ⟨_, rfl, _, _, _, [], _, [], hW', trodAll_mk1 (shut_bool Tryd.underlying4 _), (trodAll_cons_mk (Below.trod laidOut (by kernel_rfl) (of_decide_eq_true (by kernel_rfl)) h0 bel lt0) (trodAll_cons_mk (Below.trod laidOut (by kernel_rfl) (of_decide_eq_true (by kernel_rfl)) h1 bel lt1) trodAll_mk0)), rfl, bel.frame _, fun h => by cases h⟩
theorem over : Rows.peepBetterRow.holds Tryd.pinned (OpenSpec.ofChange Rows.peepBetterSpec) :=
  OpenClaim.holds_of_wide 4 Tryd.f4 rfl rfl rfl rfl rfl rfl rfl ⟨rfl, rfl, rfl, rfl, rfl⟩ rfl rfl rfl rfl rfl (by kernel_rfl) Tryd.func4 (by kernel_rfl)
    (of_decide_eq_true (by kernel_rfl)) (by unfold Func.isWrapper; first | (rw [if_pos (by decide +kernel)]; kernel_rfl) | (rw [if_neg (by decide +kernel)]; exact ⟨rfl, rfl⟩))
    (fun os started H enc _ => lifted os started H enc)
theorem proved : Rows.PeepBetterSaid := over
theorem card : Rows.PeepBetterCardSaid :=
  Claim7.holds_tied_plain_at .later [] [.data] true (true, "611ae94eebb6ae570217e6de654773cbfa10b9b19f181010b422dec85e816cb8") false proved (fun _ h => by cases h) (by kernel_rfl) (fun _ h => by cases h) peepBetter_row_tie rfl ⟨rfl, rfl⟩ (by kernel_rfl) rfl
    (fun f fn hf hfn => by
      obtain rfl : f = 4 := Option.some.inj ((show Tryd.prog.funcNamed "harrow/harrowlaw20.PeepBetter" = some 4 by kernel_rfl).symm.trans hf) |>.symm
      obtain rfl : fn = Tryd.f4 := (Option.some.inj (Tryd.func4.symm.trans hfn)).symm
      exact ⟨by kernel_rfl, fun j t ht => by
        rw [Tryd.params4] at ht
        have h3 : t ∈ [22, 3] := by
          have := List.mem_of_getElem? (by simpa using ht : ([22, 3] : List Nat)[j]? = some t)
          exact this
        simp only [List.mem_cons, List.not_mem_nil, or_false] at h3
        rcases h3 with rfl | rfl
        all_goals first | exact (show Tryd.prog.wantsStandIn 3 = false by kernel_rfl) | exact (show Tryd.prog.wantsStandIn 22 = false by kernel_rfl)⟩)
    (by kernel_rfl)
#print axioms card
end Go.Proofs.YtnpeabmlcakegaaDoor.peepBetter
namespace Go.Proofs.YtnpeabmlcakegaaDoor
theorem peepBetter_holds : Rows.PeepBetterCardSaid := peepBetter.card
end Go.Proofs.YtnpeabmlcakegaaDoor
