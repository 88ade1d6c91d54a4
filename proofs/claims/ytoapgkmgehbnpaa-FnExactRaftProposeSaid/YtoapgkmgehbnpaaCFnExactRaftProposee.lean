/- Part 5 of the proof that the law FnExactRaftPropose holds of the program: words, the data machine and its soundness, the program's functions as pure functions, and the plain law; no condition is added. -/
import Derived.Test.YtoapgkmgehbnpaaCFnExactRaftProposed
/- Nodes that are right, as a whole: both sides say the same. -/
set_option linter.unusedVariables false
set_option linter.unusedSimpArgs false
set_option linter.unusedSectionVars false
set_option maxRecDepth 10000
namespace Go.TM
open Go

abbrev rOf (r : RaftT) : Int := r.2.1
abbrev rRole (r : RaftT) : Int := r.2.2.1
abbrev rCom (r : RaftT) : Int := r.2.2.2.1
abbrev rHard (r : RaftT) : HardT := r.2.2.2.2.1
abbrev rLog (r : RaftT) : List EntT := r.2.2.2.2.1.2.2
abbrev rYes (r : RaftT) : List Int := r.2.2.2.2.2.1
abbrev rNext (r : RaftT) : List Int := r.2.2.2.2.2.2.1
abbrev rMat (r : RaftT) : List Int := r.2.2.2.2.2.2.2
abbrev rEnd (r : RaftT) : Int := (r.2.2.2.2.1.2.2.length : Int)
def roleO (r : RaftT) : Bool := bif decide (rRole r = 3) then ((rNext r).all (fun v => inR v 1 (rEnd r + 1)) && decide (((rNext r).length : Int) = rOf r)) && ((rMat r).all (fun v => inR v 0 (rEnd r)) && decide (((rMat r).length : Int) = rOf r)) else decide (((rNext r).length : Int) = 0) && decide (((rMat r).length : Int) = 0)
def yesO (r : RaftT) : Bool := !hasI (rYes r) r.1 && (decide (rRole r = 2) || decide (((rYes r).length : Int) = 0))
def voteO (r : RaftT) : Bool := decide (rRole r = 1) || (decide (1 ≤ (rHard r).1) && decide ((rHard r).2.1 = r.1 + 1))
def raftO (r : RaftT) : Bool := ofOk (rOf r) && (inR r.1 0 (rOf r - 1) && (inR (rRole r) 1 3 && (hardO (rHard r) && (inR (rCom r) 0 (rEnd r) && (ascO (rOf r) (-1) (rYes r) && (yesO r && (voteO r && roleO r)))))))
/-- Small enough for what runs over it. -/
def RaftS (r : RaftT) : Prop := (rLog r).length ≤ 1048576 ∧ (rYes r).length ≤ 1048576 ∧ (rNext r).length ≤ 1048576 ∧ (rMat r).length ≤ 1048576
theorem spec_l10End_eq (r : RaftT) : spec_l10End r = some (rEnd r) := by
  rw [spec_l10End_def]; rfl
theorem all_len0 {f : Int → Bool} (l : List Int) : (l.all f && decide ((l.length : Int) = 0)) = decide ((l.length : Int) = 0) := by
  cases l with
  | nil => rfl
  | cons a r =>
    have : decide (((a :: r).length : Int) = 0) = false := decide_eq_false (by simp only [List.length_cons]; omega)
    rw [this, Bool.and_false]
theorem gt0 (l : List Int) : decide ((l.length : Int) > 0) = !decide ((l.length : Int) = 0) := by
  cases l with
  | nil => rfl
  | cons a r =>
    rw [decide_eq_true (show (((a :: r).length : Int) > 0) by simp only [List.length_cons]; omega), decide_eq_false (show ¬ (((a :: r).length : Int) = 0) by simp only [List.length_cons]; omega)]
    rfl
theorem ge1 (x : Int) : decide (x < 1) = !decide (1 ≤ x) := by
  by_cases h : 1 ≤ x
  · rw [decide_eq_true h, decide_eq_false (by omega)]; rfl
  · rw [decide_eq_false h, decide_eq_true (by omega)]; rfl
theorem impl_RaftOk_eq (r : RaftT) (hs : RaftS r) : impl_RaftOk r = some (raftO r) := by
  obtain ⟨s1, s2, s3, s4⟩ := hs
  rw [impl_RaftOk_def]
  unfold raftO
  cases h1 : ofOk (rOf r) with
  | false => simp only [impl_RaftOk_d, impl_RaftOk_be, impl_RaftOk_r, impl_isOf_eq, h1, some_bind', Bool.not_false, cond_true, Bool.false_and]
  | true =>
    have hof := ofOk_iff.1 h1
    have w1 : wr .i64 (rOf r - 1) = rOf r - 1 := wr64 (by omega)
    cases h2 : inR r.1 0 (rOf r - 1) with
    | false => simp only [impl_RaftOk_d, impl_RaftOk_be, impl_RaftOk_r, impl_isOf_eq, h1, w1, impl_within_eq, h2, some_bind', Bool.not_false, Bool.not_true, cond_true, cond_false, Bool.false_and, Bool.and_false]
    | true =>
      have h2' := inR_iff.1 h2
      have w2 : wr .i64 (r.1 + 1) = r.1 + 1 := wr64 (by omega)
      have w3 : wr .i64 (rEnd r + 1) = rEnd r + 1 := wr64 (by have : rEnd r = ((rLog r).length : Int) := rfl; omega)
      simp only [impl_RaftOk_d, impl_RaftOk_be, impl_RaftOk_r, impl_isOf_eq, h1, w1, impl_within_eq, h2, some_bind', Bool.not_true, cond_false, impl_HardOk_eq (rHard r) s1, impl_nodesAscend_eq (rYes r) (rOf r) h1 s2, contains_eq (rYes r) r.1 s2, w2, w3, numbersIn_eq (rNext r) _ _ _ s3, numbersIn_eq (rMat r) _ _ _ s4, all_len0, gt0, ge_iff_le]
      unfold yesO voteO roleO
      cases inR (rRole r) 1 3 with
      | false => rfl
      | true =>
        cases hardO (rHard r) with
        | false => rfl
        | true =>
          cases inR (rCom r) 0 (rEnd r) with
          | false => rfl
          | true =>
            cases ascO (rOf r) (-1) (rYes r) with
            | false => rfl
            | true =>
              cases hasI (rYes r) r.1 with
              | true => rfl
              | false =>
                by_cases e1 : rRole r = 1
                · have e2 : decide (rRole r = 2) = false := decide_eq_false (by omega)
                  have e3 : decide (rRole r = 3) = false := decide_eq_false (by omega)
                  simp only [decide_eq_true e1, e2, e3]
                  generalize decide (((rYes r).length : Int) = 0) = b1
                  generalize decide (((rNext r).length : Int) = 0) = b2
                  generalize decide (((rMat r).length : Int) = 0) = b3
                  cases b1 <;> cases b2 <;> cases b3 <;> rfl
                · by_cases e2 : rRole r = 2
                  · have e3 : decide (rRole r = 3) = false := decide_eq_false (by omega)
                    simp only [decide_eq_false e1, decide_eq_true e2, e3]
                    generalize decide (((rYes r).length : Int) = 0) = b1
                    generalize decide (((rNext r).length : Int) = 0) = b2
                    generalize decide (((rMat r).length : Int) = 0) = b3
                    generalize decide (1 ≤ (rHard r).1) = b4
                    generalize decide ((rHard r).2.1 = r.1 + 1) = b5
                    cases b1 <;> cases b2 <;> cases b3 <;> cases b4 <;> cases b5 <;> rfl
                  · simp only [decide_eq_false e1, decide_eq_false e2]
                    generalize decide (((rYes r).length : Int) = 0) = b1
                    generalize decide (((rNext r).length : Int) = 0) = b2
                    generalize decide (((rMat r).length : Int) = 0) = b3
                    generalize decide (1 ≤ (rHard r).1) = b4
                    generalize decide ((rHard r).2.1 = r.1 + 1) = b5
                    generalize ((rNext r).all (fun v => inR v 1 (rEnd r + 1)) && decide (((rNext r).length : Int) = rOf r)) = b6
                    generalize ((rMat r).all (fun v => inR v 0 (rEnd r)) && decide (((rMat r).length : Int) = rOf r)) = b7
                    cases b1 <;> cases b4 <;> cases b5 <;> cases b6 <;> cases b7 <;> cases decide (rRole r = 3) <;> cases b2 <;> cases b3 <;> rfl
theorem ok10_go (r : RaftT) (hof : ofOk (rOf r) = true) (hl : (rLog r).length ≤ 80) (h1 : ((rNext r).length : Int) = rOf r) (h2 : ((rMat r).length : Int) = rOf r) : ∀ (j i : Nat), (i : Int) + j = rOf r → Ev (fun n => spec_RaftOk_l10 n r (i : Int)) (((rNext r).drop i).all (fun v => inR v 1 (rEnd r + 1)) && ((rMat r).drop i).all (fun v => inR v 0 (rEnd r)))
  | 0, i, hi => by
    have d : decide ((i : Int) < rOf r) = false := decide_eq_false (by omega)
    rw [List.drop_of_length_le (by omega), List.drop_of_length_le (by omega)]
    refine Ev.step (g := fun _ => some true) (fun n => ?_) Ev.const
    simp only [spec_RaftOk_l10, spec_RaftOk_ls, spec_RaftOk_b10, spec_RaftOk_r, d, cond_false]
  | j + 1, i, hi => by
    have hof' := ofOk_iff.1 hof
    have d : decide ((i : Int) < rOf r) = true := decide_eq_true (by omega)
    have w := wnat i (by omega)
    have w3 : wr .i64 (rEnd r + 1) = rEnd r + 1 := wr64 (by have : rEnd r = ((rLog r).length : Int) := rfl; omega)
    obtain ⟨v, hv, hv2⟩ := idx_get (xs := rNext r) (i := (i : Int)) (by omega) (by omega)
    obtain ⟨u, hu, hu2⟩ := idx_get (xs := rMat r) (i := (i : Int)) (by omega) (by omega)
    rw [Int.toNat_natCast] at hv2 hu2
    have ih := ok10_go r hof hl h1 h2 j (i + 1) (by omega)
    have e1 : (rNext r).drop i = v :: (rNext r).drop (i + 1) := by
      obtain ⟨hlt, rfl⟩ := List.getElem?_eq_some_iff.1 hv2
      exact List.drop_eq_getElem_cons hlt
    have e2 : (rMat r).drop i = u :: (rMat r).drop (i + 1) := by
      obtain ⟨hlt, rfl⟩ := List.getElem?_eq_some_iff.1 hu2
      exact List.drop_eq_getElem_cons hlt
    rw [e1, e2, List.all_cons, List.all_cons]
    cases q1 : inR v 1 (rEnd r + 1) with
    | false =>
      refine Ev.step (g := fun _ => some false) (fun n => ?_) Ev.const
      simp only [spec_RaftOk_l10, spec_RaftOk_ls, spec_RaftOk_b10, spec_RaftOk_r, d, cond_true, hv, some_bind', spec_l10End_eq, w3, spec_l1In_eq, q1, Bool.not_false]
    | true =>
      cases q2 : inR u 0 (rEnd r) with
      | false =>
        rw [Bool.false_and, Bool.and_false]
        refine Ev.step (g := fun _ => some false) (fun n => ?_) Ev.const
        simp only [spec_RaftOk_l10, spec_RaftOk_ls, spec_RaftOk_b10, spec_RaftOk_r, d, cond_true, hv, hu, some_bind', spec_l10End_eq, w3, spec_l1In_eq, q1, q2, Bool.not_false, Bool.not_true, cond_false]
      | true =>
        rw [Bool.true_and, Bool.true_and]
        refine Ev.step (fun n => ?_) ih
        simp only [spec_RaftOk_l10, spec_RaftOk_ls, spec_RaftOk_b10, spec_RaftOk_r, d, cond_true, hv, hu, some_bind', spec_l10End_eq, w3, spec_l1In_eq, q1, q2, Bool.not_true, cond_false, w]
theorem spec_RaftOk_eq (r : RaftT) (hs : RaftS r) : spec_RaftOk r = some (raftO r) := by
  obtain ⟨s1, s2, s3, s4⟩ := hs
  rw [spec_RaftOk_def]
  unfold raftO
  cases h1 : ofOk (rOf r) with
  | false =>
    refine lim_of 0 fun n => ?_
    simp only [spec_RaftOk_be, spec_RaftOk_r, spec_l7Of_eq, h1, some_bind', Bool.not_false, cond_true, Bool.false_and]
  | true =>
    have hof := ofOk_iff.1 h1
    have w1 : wr .i64 (rOf r - 1) = rOf r - 1 := wr64 (by omega)
    cases h2 : inR r.1 0 (rOf r - 1) with
    | false =>
      refine lim_of 0 fun n => ?_
      simp only [spec_RaftOk_be, spec_RaftOk_r, spec_l7Of_eq, h1, w1, spec_l1In_eq, h2, some_bind', Bool.not_false, Bool.not_true, cond_true, cond_false, Bool.false_and, Bool.and_false]
    | true =>
      have h2' := inR_iff.1 h2
      have w2 : wr .i64 (r.1 + 1) = r.1 + 1 := wr64 (by omega)
      cases h3 : inR (rRole r) 1 3 with
      | false =>
        refine lim_of 0 fun n => ?_
        simp only [spec_RaftOk_be, spec_RaftOk_r, spec_l7Of_eq, h1, w1, spec_l1In_eq, h2, h3, some_bind', Bool.not_false, Bool.not_true, cond_true, cond_false, Bool.false_and, Bool.and_false]
      | true =>
        cases h4 : hardO (rHard r) with
        | false =>
          refine lim_of 0 fun n => ?_
          simp only [spec_RaftOk_be, spec_RaftOk_r, spec_l7Of_eq, h1, w1, spec_l1In_eq, h2, h3, spec_HardOk_eq, h4, some_bind', Bool.not_false, Bool.not_true, cond_true, cond_false, Bool.false_and, Bool.and_false]
        | true =>
          have hlog : (rLog r).length ≤ 80 := by
            unfold hardO at h4
            simp only [Bool.and_eq_true, decide_eq_true_eq] at h4
            have := h4.2.2.1
            have e : (rHard r).2.2.length = (rLog r).length := rfl
            omega
          cases h5 : inR (rCom r) 0 (rEnd r) with
          | false =>
            refine lim_of 0 fun n => ?_
            simp only [spec_RaftOk_be, spec_RaftOk_r, spec_l7Of_eq, h1, w1, spec_l1In_eq, h2, h3, spec_HardOk_eq, h4, spec_l10End_eq, h5, some_bind', Bool.not_false, Bool.not_true, cond_true, cond_false, Bool.false_and, Bool.and_false]
          | true =>
            have hlen : ascO (rOf r) (-1) (rYes r) = true → decide (((rYes r).length : Int) > rOf r) = false := fun ha => by
              have := ascO_len (rYes r) (-1) (by omega) (by omega) ha
              exact decide_eq_false (by omega)
            cases h6 : ascO (rOf r) (-1) (rYes r) with
            | false =>
              refine lim_of 0 fun n => ?_
              simp only [spec_RaftOk_be, spec_RaftOk_r, spec_l7Of_eq, h1, w1, spec_l1In_eq, h2, h3, spec_HardOk_eq, h4, spec_l10End_eq, h5, spec_l7Nodes_eq (rYes r) (rOf r) h1 s2, h6, some_bind', Bool.not_false, Bool.not_true, cond_true, cond_false, Bool.false_and, Bool.and_false]
              cases decide (((rYes r).length : Int) > rOf r) <;> rfl
            | true =>
              have h7 := hlen h6
              simp only [Bool.true_and]
              unfold yesO
              cases h8 : hasI (rYes r) r.1 with
              | true =>
                refine lim_of 0 fun n => ?_
                simp only [spec_RaftOk_be, spec_RaftOk_r, spec_l7Of_eq, h1, w1, spec_l1In_eq, h2, h3, spec_HardOk_eq, h4, spec_l10End_eq, h5, spec_l7Nodes_eq (rYes r) (rOf r) h1 s2, h6, h7, spec_l7Has_eq (rYes r) r.1 s2, h8, some_bind', Bool.not_true, cond_true, cond_false, Bool.false_and, Bool.and_false]
              | false =>
                have ev : Ev (fun n => bif !(decide (rRole r = 3)) then (bif decide (((rNext r).length : Int) = 0) then some (decide (((rMat r).length : Int) = 0)) else some false) else (bif !(decide (((rNext r).length : Int) = rOf r)) then some false else (bif !(decide (((rMat r).length : Int) = rOf r)) then some false else spec_RaftOk_l10 n r 0))) (roleO r) := by
                  unfold roleO
                  cases decide (rRole r = 3) with
                  | false =>
                    simp only [Bool.not_false, cond_true, cond_false]
                    cases decide (((rNext r).length : Int) = 0) <;> exact Ev.const
                  | true =>
                    simp only [Bool.not_true, cond_true, cond_false]
                    by_cases e1 : ((rNext r).length : Int) = rOf r
                    · by_cases e2 : ((rMat r).length : Int) = rOf r
                      · have := ok10_go r h1 hlog e1 e2 (rOf r).toNat 0 (by omega)
                        rw [List.drop_zero, List.drop_zero] at this
                        simp only [decide_eq_true e1, decide_eq_true e2, Bool.not_true, cond_false, Bool.and_true]
                        exact this
                      · simp only [decide_eq_true e1, decide_eq_false e2, Bool.not_true, Bool.not_false, cond_false, cond_true, Bool.and_true, Bool.and_false]
                        exact Ev.const
                    · simp only [decide_eq_false e1, Bool.not_false, cond_true, Bool.and_false, Bool.false_and]
                      exact Ev.const
                refine lim_ev ?_
                simp only [spec_RaftOk_be, spec_RaftOk_r, spec_l7Of_eq, h1, w1, spec_l1In_eq, h2, h3, spec_HardOk_eq, h4, spec_l10End_eq, h5, spec_l7Nodes_eq (rYes r) (rOf r) h1 s2, h6, h7, spec_l7Has_eq (rYes r) r.1 s2, h8, some_bind', Bool.not_true, Bool.not_false, cond_false, Bool.true_and, w2, gt0, ge1]
                unfold voteO
                by_cases e1 : rRole r = 1
                · have e2 : decide (rRole r = 2) = false := decide_eq_false (by omega)
                  simp only [decide_eq_true e1, e2, Bool.not_false, Bool.not_true, cond_true, cond_false, Bool.false_or, Bool.true_or, Bool.true_and] at ev ⊢
                  cases decide (((rYes r).length : Int) = 0) with
                  | false => exact Ev.const
                  | true => exact ev
                · cases decide (rRole r = 2) with
                  | true =>
                    simp only [decide_eq_false e1, Bool.not_false, Bool.not_true, cond_true, cond_false, Bool.false_or, Bool.true_or, Bool.true_and] at ev ⊢
                    cases decide (1 ≤ (rHard r).1) with
                    | false => exact Ev.const
                    | true =>
                      cases decide ((rHard r).2.1 = r.1 + 1) with
                      | false => exact Ev.const
                      | true => exact ev
                  | false =>
                    simp only [decide_eq_false e1, Bool.not_false, Bool.not_true, cond_true, cond_false, Bool.false_or, Bool.true_or, Bool.true_and] at ev ⊢
                    cases decide (((rYes r).length : Int) = 0) with
                    | false => exact Ev.const
                    | true =>
                      cases decide (1 ≤ (rHard r).1) with
                      | false => exact Ev.const
                      | true =>
                        cases decide ((rHard r).2.1 = r.1 + 1) with
                        | false => exact Ev.const
                        | true => exact ev
end Go.TM


/- What the election laws do beside the functions: sizes, copies, comparisons, marks. -/
set_option linter.unusedVariables false
set_option linter.unusedSimpArgs false
set_option linter.unusedSectionVars false
set_option maxRecDepth 100000
namespace Go.TM
open Go

theorem laws_szCmd_eq (c : CmdT) (l : Int) (hl : -1000 ≤ l ∧ l ≤ 9223372036854775807) (hs : c.2.2.2.2.size ≤ 140737488355328) : laws_szCmd c l = some (if l - (c.2.2.2.2.size : Int) < 0 then -1 else l - (c.2.2.2.2.size : Int)) := by
  rw [laws_szCmd_def]
  simp only [laws_szCmd_d, laws_szCmd_be, laws_szCmd_r, wr64 (x := l - (c.2.2.2.2.size : Int)) (by omega)]
  by_cases h : l - (c.2.2.2.2.size : Int) < 0
  · simp [h]
  · simp [h]
theorem laws_szEntry_eq (e : EntT) (l : Int) (hl : -1000 ≤ l ∧ l ≤ 9223372036854775807) (hs : e.2.2.2.2.2.size ≤ 140737488355328) : laws_szEntry e l = some (if l - (e.2.2.2.2.2.size : Int) < 0 then -1 else l - (e.2.2.2.2.2.size : Int)) := by
  rw [laws_szEntry_def]
  simp only [laws_szEntry_d, laws_szEntry_be, laws_szEntry_r, laws_szCmd_eq e.2 l hl hs, some_bind']
  by_cases h : l - (e.2.2.2.2.2.size : Int) < 0
  · simp [h]
  · simp [h]
theorem laws_szEntryS_eq (xs : List EntT) (l : Int) (hl : 0 ≤ l ∧ l ≤ 1152921504606846976) (hx : lok xs = true) (hs : ∀ e, e ∈ xs → e.2.2.2.2.2.size ≤ 140737488355328) : ∃ t, laws_szEntryS xs l = some t ∧ t ≤ l ∧ (t = -1 ∨ (0 ≤ t ∧ (xs.length : Int) ≤ l)) := by
  rw [laws_szEntryS_def]
  have hb := (lok_iff xs).1 hx
  simp only [laws_szEntryS_d, laws_szEntryS_be, laws_szEntryS_r, wr64 (x := l - (xs.length : Int)) (by omega)]
  by_cases h : l - (xs.length : Int) < 0
  · exact ⟨-1, by simp [h], by omega, .inl rfl⟩
  · have key : ∀ (ys : List EntT) (s : Int), (∀ e, e ∈ ys → e.2.2.2.2.2.size ≤ 140737488355328) → 0 ≤ s ∧ s ≤ l → ∃ t, foldE (fun v (s : Int) => laws_szEntryS_G v s) (fun (s : Int) => laws_szEntryS_fin s) ys s = some t ∧ t ≤ l ∧ (t = -1 ∨ 0 ≤ t) := by
      intro ys
      induction ys with
      | nil => intro s _ h; exact ⟨s, rfl, h.2, .inr h.1⟩
      | cons v ys ih =>
        intro s h1 h2
        rw [foldE]
        have e1 := laws_szEntry_eq v s (by omega) (h1 v List.mem_cons_self)
        by_cases h3 : s - (v.2.2.2.2.2.size : Int) < 0
        · rw [if_pos h3] at e1
          have e2 : laws_szEntryS_G v s = some (.inr (-1)) := by simp only [laws_szEntryS_G, e1, some_bind']; rfl
          exact ⟨-1, by rw [e2]; rfl, by omega, .inl rfl⟩
        · rw [if_neg h3] at e1
          have e2 : laws_szEntryS_G v s = some (.inl (s - (v.2.2.2.2.2.size : Int))) := by
            simp only [laws_szEntryS_G, e1, some_bind', decide_eq_false h3, cond_false]
          obtain ⟨t, h4, h5⟩ := ih _ (fun e he => h1 e (List.mem_cons_of_mem _ he)) (show 0 ≤ s - (v.2.2.2.2.2.size : Int) ∧ s - (v.2.2.2.2.2.size : Int) ≤ l by omega)
          exact ⟨t, by rw [e2]; exact h4, h5⟩
    obtain ⟨t, h1, h2, h3⟩ := key xs (l - (xs.length : Int)) hs (by omega)
    refine ⟨t, ?_, h2, h3.imp id (fun h => ⟨h, by omega⟩)⟩
    rw [decide_eq_false h]
    simp only [cond_false, laws_szEntryS_c, hx, decide_true, Bool.and_self, cond_true]
    exact h1

theorem laws_toCmd_eq (c : CmdT) : laws_toCmd c = some c := by
  rw [laws_toCmd_def]; rfl
theorem laws_toEntry_eq (e : EntT) : laws_toEntry e = some e := by
  rw [laws_toEntry_def]
  simp only [laws_toEntry_d, laws_toEntry_be, laws_toEntry_r, laws_toCmd_eq, some_bind']
theorem laws_toEntryS_eq (xs : List EntT) (h : xs.length ≤ 1048576) : laws_toEntryS xs = some xs := by
  rw [laws_toEntryS_def]
  have h1 : decide ((xs.length : Int) * 56 ≤ 140737488355328) = true := by simp; omega
  have h2 : decide (0 ≤ (xs.length : Int)) = true := by simp
  refine lim_of (xs.length + 1) fun m => ?_
  simp only [laws_toEntryS_be, h1, h2, decide_true, Bool.and_self, cond_true]
  have := copyL xs (by omega) (fun v => v) (fun n i ys => laws_toEntryS_l3 n xs ys i) some (fun n ys hy => by simp only [laws_toEntryS_ls, laws_toEntryS_b3, laws_toEntryS_r, Int.lt_irrefl, decide_false, cond_false])
    (fun n i ys v hy h0 h1 hm hi hw => by
      have h2 : i < (ys.length : Int) := by rw [hy]; exact h1
      obtain ⟨u, hu, _⟩ := idx_get (xs := ys) h0 h2
      simp only [laws_toEntryS_ls, laws_toEntryS_b3, laws_toEntryS_r, h1, hi, hw, h0, h2, hu, decide_true, cond_true, Bool.and_self, some_bind', laws_toEntry_eq]) (List.replicate ((xs.length : Int)).toNat (0, 0, 0, 0, 0, ⟨#[]⟩)) (by simp) m
  rw [this]
  simp
theorem laws_eqCmd_eq (a b : CmdT) : laws_eqCmd a b = some (decide (a = b)) := by
  rw [laws_eqCmd_def]
  obtain ⟨a1, a2, a3, a4, a5⟩ := a
  obtain ⟨b1, b2, b3, b4, b5⟩ := b
  simp only [laws_eqCmd_d, laws_eqCmd_be, laws_eqCmd_r, strEq_dec, Prod.mk.injEq]
  by_cases h1 : a1 = b1
  case neg => simp [h1]
  by_cases h2 : a2 = b2
  case neg => simp [h2]
  by_cases h3 : a3 = b3
  case neg => simp [h3]
  by_cases h4 : a4 = b4
  case neg => simp [h4]
  by_cases h5 : a5 = b5 <;> simp [h1, h2, h3, h4, h5]
theorem laws_eqEntry_eq (a b : EntT) : laws_eqEntry a b = some (decide (a = b)) := by
  rw [laws_eqEntry_def]
  obtain ⟨a1, a2⟩ := a
  obtain ⟨b1, b2⟩ := b
  simp only [laws_eqEntry_d, laws_eqEntry_be, laws_eqEntry_r, laws_eqCmd_eq, some_bind', Prod.mk.injEq]
  by_cases h1 : a1 = b1
  case neg => simp [h1]
  by_cases h2 : a2 = b2 <;> simp [h1, h2]
theorem laws_eqEntryS_eq (a b : List EntT) (h : lok a = true) : laws_eqEntryS a b = some (decide (a = b)) := by
  rw [laws_eqEntryS_def]
  by_cases hl : a.length = b.length
  · have hb := (lok_iff a).1 h
    refine lim_of (a.length + 1) fun m => ?_
    have key := eqL a b hl hb (fun n i => laws_eqEntryS_l4 n a b i) (fun n => by simp only [laws_eqEntryS_ls, laws_eqEntryS_b4, laws_eqEntryS_r, Int.lt_irrefl, decide_false, cond_false])
      (fun n i v u h1 h2 h3 h4 => by
        simp only [laws_eqEntryS_ls, laws_eqEntryS_b4, laws_eqEntryS_r, h1, h2, h3, h4, decide_true, cond_true, some_bind', laws_eqEntry_eq]
        cases decide (v = u) <;> rfl) m
    have : decide ((a.length : Int) = (b.length : Int)) = true := by simp [hl]
    simp only [laws_eqEntryS_be, this, Bool.not_true, cond_false]
    exact key
  · have h1 : decide ((a.length : Int) = (b.length : Int)) = false := by simp; omega
    have h2 : decide (a = b) = false := by simp; intro e; exact hl (by rw [e])
    refine lim_of 0 fun m => ?_
    simp only [laws_eqEntryS_be, laws_eqEntryS_r, h1, h2, Bool.not_false, cond_true]
theorem laws_eqMsg_refl (m : MsgT) (h : lok m.2.2.2.2.2.2.2.2.2.2.2 = true) : laws_eqMsg m m = some true := by
  rw [laws_eqMsg_def]
  simp only [laws_eqMsg_d, laws_eqMsg_be, laws_eqMsg_r, laws_eqCmd_eq, laws_eqEntryS_eq _ _ h, some_bind', decide_true, Bool.not_true, cond_false, beq_self_eq_true, strEq_refl]

theorem markText_go : ∀ (d x : Nat) (acc : ByteArray), x < 10 ^ d → x < 9223372036854775808 → acc.size + d ≤ 1000 → ∃ t, ∀ m, laws_markText_l4 (d + 1 + m) (x : Int) acc = some t
  | d, x, acc, hx, h63, hl => by
    by_cases h : x = 0
    · subst h
      refine ⟨(⟨#[109]⟩ : ByteArray) ++ acc, fun m => ?_⟩
      have h2 : decide (1 + acc.size ≤ 9223372036854775807) = true := by simp; omega
      rw [show d + 1 + m = (d + m) + 1 from by omega]
      simp only [laws_markText_ls, laws_markText_b4, laws_markText_r]
      rw [show decide (((0 : Nat) : Int) > 0) = false from rfl, cond_false, h2, cond_true]
    · match d, hx with
      | 0, hx => simp at hx; omega
      | d + 1, hx =>
        have h1 : decide ((x : Int) > 0) = true := by simp; omega
        have h2 : Int.tdiv (x : Int) 10 = ((x / 10 : Nat) : Int) := by rw [Int.tdiv_eq_ediv_of_nonneg (by omega)]; omega
        have h3 : wr .i64 ((x / 10 : Nat) : Int) = ((x / 10 : Nat) : Int) := wr64 (by omega)
        have hs : ∀ v : Int, (ofBytes [v]).size = 1 := fun v => rfl
        have happ : ∀ a b : ByteArray, (a ++ b).size = a.size + b.size := fun a b => ByteArray.size_append
        obtain ⟨t, ht⟩ := markText_go d (x / 10) (ofBytes ([wr .u8 (wr .i64 (48 + (Int.tmod (x : Int) 10)))] : List Int) ++ acc) (by rw [Nat.pow_succ] at hx; exact Nat.div_lt_of_lt_mul (by rw [Nat.mul_comm]; exact hx)) (by omega) (by rw [happ, hs]; omega)
        refine ⟨t, fun m => ?_⟩
        rw [show d + 1 + 1 + m = (d + 1 + m) + 1 from by omega]
        have h4 : decide ((ofBytes ([wr .u8 (wr .i64 (48 + (Int.tmod (x : Int) 10)))] : List Int)).size + acc.size ≤ 9223372036854775807) = true := by rw [hs]; simp; omega
        simp only [laws_markText_ls, laws_markText_b4, laws_markText_r, h1, h2, h3, h4, cond_true]
        exact ht m
theorem markText_some (k : Int) (h : k ≤ 1000000000000) : ∃ t, laws_markText k = some t := by
  rw [laws_markText_def]
  by_cases h0 : k ≤ 0
  · exact ⟨⟨#[109, 48]⟩, lim_of 0 fun m => by simp [laws_markText_be, laws_markText_r, h0]⟩
  · obtain ⟨t, ht⟩ := markText_go 13 k.toNat ⟨#[]⟩ (by omega) (by omega) (by decide)
    rw [show ((k.toNat : Nat) : Int) = k from by omega] at ht
    refine ⟨t, lim_of 14 fun m => ?_⟩
    simp only [laws_markText_be, decide_eq_false h0, cond_false]
    exact ht m
noncomputable def mtx (k : Int) : ByteArray := (laws_markText k).getD ⟨#[]⟩
theorem markText_eq (k : Int) (h : k ≤ 1000000000000) : laws_markText k = some (mtx k) := by
  obtain ⟨t, ht⟩ := markText_some k h
  rw [mtx, ht]; rfl
noncomputable def gE (e : EntT) (k : Int) : EntT × Int := ((k, k + 1, k + 2, k + 3, k + 4, mtx (k + 5)), k + 6)
theorem laws_markEntryS_eq (xs : List EntT) (k : Int) (hx : xs.length ≤ 1048576) (hk : 0 ≤ k ∧ k ≤ 100000000000) : laws_markEntryS xs k = some ((mapSt gE xs k).2, (mapSt gE xs k).1) := by
  rw [laws_markEntryS_def]
  refine lim_of (xs.length + 1) fun m => ?_
  have := scanM xs (by omega) gE (fun n i ys s => laws_markEntryS_l2 n ys s i) (fun i s => i ≤ 1048576 → 0 ≤ s ∧ s ≤ 100000000000 + 6 * (i : Int)) (fun ys s => some (s, ys))
    (fun n ys s hy => by simp only [laws_markEntryS_ls, laws_markEntryS_b2, laws_markEntryS_r, hy, Int.lt_irrefl, decide_false, cond_false])
    (fun n i ys s v hy h0 h1 hi hw hinv => by
      have h2 : i < (ys.length : Int) := by rw [hy]; exact h1
      have hs := hinv (by omega)
      have w : ∀ x : Int, 0 ≤ x → x ≤ 9223372036854775807 → wr .i64 x = x := fun x a b => wr64 (by omega)
      have e1 : s + 1 + 1 = s + 2 := by omega
      have e2 : s + 2 + 1 = s + 3 := by omega
      have e3 : s + 3 + 1 = s + 4 := by omega
      have e4 : s + 4 + 1 = s + 5 := by omega
      have e5 : s + 5 + 1 = s + 6 := by omega
      refine ⟨?_, fun _ => ?_⟩
      · simp only [laws_markEntryS_ls, laws_markEntryS_b2, laws_markEntryS_r, h2, h0, hi, decide_true, cond_true, Bool.and_self, some_bind', List.length_set, List.set_set, idx_set h0 h2, w (s + 1) (by omega) (by omega), e1, w (s + 2) (by omega) (by omega), e2, w (s + 3) (by omega) (by omega), e3, w (s + 4) (by omega) (by omega), e4, w (s + 5) (by omega) (by omega), e5, w (s + 6) (by omega) (by omega), hw, markText_eq (s + 5) (by omega)]
        rfl
      · simp only [gE]; omega) k (fun _ => by omega) m
  simp only [laws_markEntryS_be]
  exact this
theorem mapSt_gE : ∀ (xs : List EntT) (k : Int), (mapSt gE xs k).2 = k + 6 * (xs.length : Int)
  | [], k => by simp [mapSt]
  | e :: xs, k => by
    simp only [mapSt, mapSt_gE xs, gE, List.length_cons]; omega

/-! ### Sizes -/
theorem laws_szIntS_eq (xs : List Int) (l : Int) (hl : 0 ≤ l ∧ l ≤ 1048576) (hx : xs.length ≤ 140737488355328) : ∃ t, laws_szIntS xs l = some t ∧ (t = -1 ∨ (0 ≤ t ∧ t ≤ l ∧ xs.length ≤ 1048576)) := by
  rw [laws_szIntS_def]
  simp only [laws_szIntS_d, laws_szIntS_be, laws_szIntS_r, wr64 (x := l - (xs.length : Int)) (by omega)]
  by_cases h : l - (xs.length : Int) < 0
  · rw [decide_eq_true h]; exact ⟨-1, rfl, .inl rfl⟩
  · rw [decide_eq_false h]; exact ⟨_, rfl, .inr (by omega)⟩
/-- What the machine's memory holds at most. -/
def RaftM (r : RaftT) : Prop := ((rLog r).length ≤ 140737488355328 ∧ ∀ e, e ∈ rLog r → e.2.2.2.2.2.size ≤ 140737488355328) ∧ (rYes r).length ≤ 140737488355328 ∧ (rNext r).length ≤ 140737488355328 ∧ (rMat r).length ≤ 140737488355328
theorem laws_szRaft_eq (r : RaftT) (h : RaftM r) (l : Int) (hl : 0 ≤ l ∧ l ≤ 1048576) : ∃ t, laws_szRaft r l = some t ∧ (t = -1 ∨ (0 ≤ t ∧ t ≤ l ∧ RaftS r)) := by
  obtain ⟨⟨h1, h2⟩, h3, h4, h5⟩ := h
  rw [laws_szRaft_def]
  simp only [laws_szRaft_d, laws_szRaft_be, laws_szRaft_r, laws_szHard_def, laws_szHard_d, laws_szHard_be, laws_szHard_r]
  obtain ⟨t1, e1, g1, k1⟩ := laws_szEntryS_eq (rLog r) l (by omega) ((lok_iff _).2 h1) h2
  rw [e1, some_bind']
  rcases k1 with rfl | ⟨k1, m1⟩
  · exact ⟨-1, rfl, .inl rfl⟩
  · have d1 : decide (t1 < 0) = false := decide_eq_false (by omega)
    simp only [d1, cond_false, some_bind']
    obtain ⟨t2, e2, k2⟩ := laws_szIntS_eq (rYes r) t1 (by omega) h3
    rw [e2, some_bind']
    rcases k2 with rfl | ⟨k2, m2, n2⟩
    · exact ⟨-1, rfl, .inl rfl⟩
    · have d2 : decide (t2 < 0) = false := decide_eq_false (by omega)
      simp only [d2, cond_false]
      obtain ⟨t3, e3, k3⟩ := laws_szIntS_eq (rNext r) t2 (by omega) h4
      rw [e3, some_bind']
      rcases k3 with rfl | ⟨k3, m3, n3⟩
      · exact ⟨-1, rfl, .inl rfl⟩
      · have d3 : decide (t3 < 0) = false := decide_eq_false (by omega)
        simp only [d3, cond_false]
        obtain ⟨t4, e4, k4⟩ := laws_szIntS_eq (rMat r) t3 (by omega) h5
        rw [e4, some_bind']
        rcases k4 with rfl | ⟨k4, m4, n4⟩
        · exact ⟨-1, rfl, .inl rfl⟩
        · have d4 : decide (t4 < 0) = false := decide_eq_false (by omega)
          simp only [d4, cond_false]
          exact ⟨t4, rfl, .inr ⟨k4, by omega, by omega, n2, n3, n4⟩⟩

/-! ### Copies -/
theorem laws_toIntS_eq (xs : List Int) (h : xs.length ≤ 1048576) : laws_toIntS xs = some xs := by
  rw [laws_toIntS_def]
  have h1 : decide ((xs.length : Int) * 8 ≤ 140737488355328) = true := by simp; omega
  have h2 : decide (0 ≤ (xs.length : Int)) = true := by simp
  refine lim_of (xs.length + 1) fun m => ?_
  simp only [laws_toIntS_be, h1, h2, decide_true, Bool.and_self, cond_true]
  have := copyL xs (by omega) (fun v => v) (fun n i ys => laws_toIntS_l3 n xs ys i) some (fun n ys hy => by simp only [laws_toIntS_l3, laws_toIntS_ls, laws_toIntS_b3, laws_toIntS_r, Int.lt_irrefl, decide_false, cond_false])
    (fun n i ys v hy h0 h1 hm hi hw => by
      have h2 : i < (ys.length : Int) := by rw [hy]; exact h1
      obtain ⟨u, hu, _⟩ := idx_get (xs := ys) h0 h2
      simp only [laws_toIntS_l3, laws_toIntS_ls, laws_toIntS_b3, laws_toIntS_r, h1, hi, hw, h0, h2, hu, decide_true, cond_true, Bool.and_self, some_bind']) (List.replicate ((xs.length : Int)).toNat 0) (by simp) m
  rw [this]
  simp
theorem laws_toRaft_eq (r : RaftT) (h : RaftS r) : laws_toRaft r = some r := by
  obtain ⟨h1, h2, h3, h4⟩ := h
  rw [laws_toRaft_def]
  simp only [laws_toRaft_d, laws_toRaft_be, laws_toRaft_r, laws_toHard_def, laws_toHard_d, laws_toHard_be, laws_toHard_r, laws_toEntryS_eq (rLog r) h1, laws_toIntS_eq (rYes r) h2, laws_toIntS_eq (rNext r) h3, laws_toIntS_eq (rMat r) h4, some_bind']

/-! ### Comparisons -/
theorem laws_eqIntS_refl (a : List Int) (h : a.length ≤ 100000000) : laws_eqIntS a a = some true := by
  rw [laws_eqIntS_def]
  refine lim_of (a.length + 1) fun m => ?_
  have key := eqL a a rfl (by omega) (fun n i => laws_eqIntS_l4 n a a i) (fun n => by simp only [laws_eqIntS_l4, laws_eqIntS_ls, laws_eqIntS_b4, laws_eqIntS_r, Int.lt_irrefl, decide_false, cond_false])
    (fun n i v u h1 h2 h3 h4 => by
      have hu : v = u := by rw [h2] at h3; injection h3
      subst hu
      simp only [laws_eqIntS_l4, laws_eqIntS_ls, laws_eqIntS_b4, laws_eqIntS_r, h1, h2, h4, decide_true, cond_true, some_bind', Bool.not_true, cond_false]) m
  simp only [laws_eqIntS_be, decide_true, Bool.not_true, cond_false]
  rw [key]
  simp
theorem laws_eqHard_refl (h : HardT) (hl : lok h.2.2 = true) : laws_eqHard h h = some true := by
  rw [laws_eqHard_def]
  simp only [laws_eqHard_d, laws_eqHard_be, laws_eqHard_r, laws_eqEntryS_eq _ _ hl, some_bind', decide_true, Bool.not_true, cond_false]
theorem lokS {α : Type} {xs : List α} (h : xs.length ≤ 100000000) : lok xs = true := (lok_iff xs).2 (by omega)
/-- A list compared with itself. -/
theorem reflL {α : Type} (xs : List α) (hb : xs.length ≤ 140737488355328) (L : Nat → Int → Option Bool) (hend : ∀ n, L (n + 1) (xs.length : Int) = some true) (hstep : ∀ n (i : Int) v, v ∈ xs → i < (xs.length : Int) → idx xs i = some v → wr .i64 (i + 1) = i + 1 → L (n + 1) i = L n (i + 1)) : ∀ m, L (xs.length + 1 + m) 0 = some true := by
  intro m
  have key : ∀ (suf pre : List α), xs = pre ++ suf → L (suf.length + 1 + m) (pre.length : Int) = some true := by
    intro suf
    induction suf with
    | nil =>
      intro pre hx
      have : (pre.length : Int) = (xs.length : Int) := by rw [hx]; simp
      rw [this, List.length_nil, show 0 + 1 + m = m + 1 from by omega]
      exact hend m
    | cons v suf ih =>
      intro pre hx
      have hlt : pre.length < xs.length := by rw [hx]; simp
      have := ih (pre ++ [v]) (by rw [hx]; simp)
      have hc : ((pre ++ [v]).length : Int) = (pre.length : Int) + 1 := by simp
      rw [hc] at this
      rw [List.length_cons, show suf.length + 1 + 1 + m = suf.length + 1 + m + 1 from by omega, hstep (suf.length + 1 + m) pre.length v (by rw [hx]; simp) (by omega) (by rw [hx]; exact idx_app pre v suf) (wr64 (by omega))]
      exact this
  exact key xs [] rfl
/-- Small enough to be compared. -/
def RaftZ (r : RaftT) : Prop := (rLog r).length ≤ 1048576 ∧ (rYes r).length ≤ 2000000 ∧ (rNext r).length ≤ 2000000 ∧ (rMat r).length ≤ 2000000
theorem RaftS.z {r : RaftT} (h : RaftS r) : RaftZ r := ⟨by have := h.1; omega, by have := h.2.1; omega, by have := h.2.2.1; omega, by have := h.2.2.2; omega⟩
theorem laws_eqRaft_refl (r : RaftT) (h : RaftZ r) : laws_eqRaft r r = some true := by
  obtain ⟨h1, h2, h3, h4⟩ := h
  rw [laws_eqRaft_def]
  simp only [laws_eqRaft_d, laws_eqRaft_be, laws_eqRaft_r, laws_eqHard_refl (rHard r) (lokS (by have : (rHard r).2.2 = rLog r := rfl; rw [this]; omega)), laws_eqIntS_refl (rYes r) (by omega), laws_eqIntS_refl (rNext r) (by omega), laws_eqIntS_refl (rMat r) (by omega), some_bind', decide_true, Bool.not_true, cond_false]
theorem laws_eqRecS_refl (a : List RecT) (h : a.length ≤ 100000000) : laws_eqRecS a a = some true := by
  rw [laws_eqRecS_def]
  refine lim_of (a.length + 1) fun m => ?_
  simp only [laws_eqRecS_be, decide_true, Bool.not_true, cond_false]
  exact reflL a (by omega) (fun n i => laws_eqRecS_l4 n a a i) (fun n => by simp only [laws_eqRecS_l4, laws_eqRecS_ls, laws_eqRecS_b4, laws_eqRecS_r, Int.lt_irrefl, decide_false, cond_false])
    (fun n i v _ h1 h2 h4 => by
      have e : laws_eqRec v v = some true := by
        rw [laws_eqRec_def]
        simp only [laws_eqRec_d, laws_eqRec_be, laws_eqRec_r, laws_eqEntry_eq, some_bind', decide_true, Bool.not_true, cond_false]
      simp only [laws_eqRecS_l4, laws_eqRecS_ls, laws_eqRecS_b4, laws_eqRecS_r, h1, h2, h4, decide_true, cond_true, some_bind', e, Bool.not_true, cond_false]) m
/-- Messages that are sent: few, and small. -/
def OutZ (xs : List OutT) : Prop := xs.length ≤ 1000 ∧ ∀ o, o ∈ xs → o.2.2.2.2.2.2.2.2.2.2.2.2.length ≤ 1000
theorem laws_eqOutS_refl (a : List OutT) (h : OutZ a) : laws_eqOutS a a = some true := by
  rw [laws_eqOutS_def]
  have hl := h.1
  refine lim_of (a.length + 1) fun m => ?_
  simp only [laws_eqOutS_be, decide_true, Bool.not_true, cond_false]
  exact reflL a (by omega) (fun n i => laws_eqOutS_l4 n a a i) (fun n => by simp only [laws_eqOutS_l4, laws_eqOutS_ls, laws_eqOutS_b4, laws_eqOutS_r, Int.lt_irrefl, decide_false, cond_false])
    (fun n i v hm h1 h2 h4 => by
      have hv := h.2 v hm
      have e : laws_eqOut v v = some true := by
        rw [laws_eqOut_def]
        simp only [laws_eqOut_d, laws_eqOut_be, laws_eqOut_r, laws_eqMsg_refl v.2 (lokS (by omega)), some_bind', decide_true, Bool.not_true, cond_false]
      simp only [laws_eqOutS_l4, laws_eqOutS_ls, laws_eqOutS_b4, laws_eqOutS_r, h1, h2, h4, decide_true, cond_true, some_bind', e, Bool.not_true, cond_false]) m

/-! ### Marks -/
/-- A loop that writes a list in place; each element is as it was when it is come to. -/
theorem scanMm {α S R : Type} (xs0 : List α) (hb : xs0.length ≤ 140737488355328) (g : α → S → α × S) (L : Nat → Int → List α → S → Option R) (inv : Nat → S → Prop) (fin : List α → S → Option R)
    (hend : ∀ n xs s, xs.length = xs0.length → L (n + 1) xs0.length xs s = fin xs s)
    (hstep : ∀ n (i : Int) xs s v, v ∈ xs0 → xs.length = xs0.length → 0 ≤ i → i < xs0.length → idx xs i = some v → wr .i64 (i + 1) = i + 1 → inv i.toNat s → L (n + 1) i xs s = L n (i + 1) (xs.set i.toNat (g v s).1) (g v s).2 ∧ inv (i.toNat + 1) (g v s).2) (s : S) (h0 : inv 0 s) :
    ∀ m, L (xs0.length + 1 + m) 0 xs0 s = fin (mapSt g xs0 s).1 (mapSt g xs0 s).2 := by
  intro m
  have key : ∀ (suf pre : List α) (s : S), (∀ v, v ∈ suf → v ∈ xs0) → (pre ++ suf).length = xs0.length → inv pre.length s → L (suf.length + 1 + m) pre.length (pre ++ suf) s = fin (pre ++ (mapSt g suf s).1) (mapSt g suf s).2 := by
    intro suf
    induction suf with
    | nil =>
      intro pre s _ hl hi
      have : (pre.length : Int) = xs0.length := by simp at hl; omega
      simp only [mapSt, List.length_nil, Nat.zero_add]
      rw [this, Nat.add_comm 1 m]
      exact hend m _ s hl
    | cons v suf ih =>
      intro pre s hv hl hi
      have hlt : pre.length < xs0.length := by rw [← hl]; simp
      obtain ⟨e1, e2⟩ := hstep (suf.length + 1 + m) pre.length (pre ++ v :: suf) s v (hv v List.mem_cons_self) hl (by omega) (by omega) (idx_app pre v suf) (wr64 (by omega)) (by simpa using hi)
      rw [List.length_cons, show suf.length + 1 + 1 + m = suf.length + 1 + m + 1 from by omega, e1]
      have hs : (pre ++ v :: suf).set (pre.length : Int).toNat (g v s).1 = (pre ++ [(g v s).1]) ++ suf := by simp
      rw [hs]
      have := ih (pre ++ [(g v s).1]) (g v s).2 (fun u hu => hv u (List.mem_cons_of_mem _ hu)) (by simp at hl ⊢; omega) (by simpa using e2)
      have hc : ((pre ++ [(g v s).1]).length : Int) = (pre.length : Int) + 1 := by simp
      rw [hc] at this
      rw [this]
      simp [mapSt]
  exact key xs0 [] s (fun v hv => hv) rfl h0
def gI (v : Int) (k : Int) : Int × Int := (k, k + 1)
theorem laws_markIntS_eq (xs : List Int) (k : Int) (hx : xs.length ≤ 2000000) (hk : 0 ≤ k ∧ k ≤ 100000000000) : laws_markIntS xs k = some ((mapSt gI xs k).2, (mapSt gI xs k).1) := by
  rw [laws_markIntS_def]
  refine lim_of (xs.length + 1) fun m => ?_
  have := scanM xs (by omega) gI (fun n i ys s => laws_markIntS_l2 n ys s i) (fun i s => i ≤ 2000000 → 0 ≤ s ∧ s ≤ 100000000000 + (i : Int)) (fun ys s => some (s, ys))
    (fun n ys s hy => by simp only [laws_markIntS_l2, laws_markIntS_ls, laws_markIntS_b2, laws_markIntS_r, hy, Int.lt_irrefl, decide_false, cond_false])
    (fun n i ys s v hy h0 h1 hi hw hinv => by
      have h2 : i < (ys.length : Int) := by rw [hy]; exact h1
      have hs := hinv (by omega)
      refine ⟨?_, fun _ => ?_⟩
      · simp only [laws_markIntS_l2, laws_markIntS_ls, laws_markIntS_b2, laws_markIntS_r, h2, h0, hi, decide_true, cond_true, Bool.and_self, some_bind', wr64 (x := s + 1) (by omega), hw]
        rfl
      · simp only [gI]; omega) k (fun _ => by omega) m
  simp only [laws_markIntS_be]
  exact this
theorem mapSt_gI : ∀ (xs : List Int) (k : Int), (mapSt gI xs k).2 = k + (xs.length : Int)
  | [], k => by simp [mapSt]
  | e :: xs, k => by
    simp only [mapSt, mapSt_gI xs, gI, List.length_cons]; omega
theorem laws_heldIntS_marked (xs : List Int) (k : Int) (hx : xs.length ≤ 2000000) (hk : 0 ≤ k ∧ k ≤ 100000000000) : laws_heldIntS (mapSt gI xs k).1 k = some (k + (xs.length : Int)) := by
  rw [laws_heldIntS_def]
  have hl : lok (mapSt gI xs k).1 = true := (lok_iff _).2 (by rw [mapSt_length]; omega)
  simp only [laws_heldIntS_d, laws_heldIntS_be, laws_heldIntS_c, hl, decide_true, Bool.and_self, cond_true]
  have key : ∀ (xs : List Int) (k : Int), 0 ≤ k ∧ k + (xs.length : Int) ≤ 1000000000000 → foldE (fun v (s : Int) => laws_heldIntS_G v s) (fun (s : Int) => laws_heldIntS_fin s) (mapSt gI xs k).1 k = some (k + (xs.length : Int)) := by
    intro xs
    induction xs with
    | nil => intro k _; simp [mapSt, foldE, laws_heldIntS_fin]
    | cons v xs ih =>
      intro k h
      simp only [List.length_cons] at h
      rw [mapSt, foldE]
      have e : laws_heldIntS_G (gI v k).1 k = some (.inl (k + 1)) := by
        simp only [laws_heldIntS_G, gI, decide_true, Bool.not_true, cond_false, wr64 (x := k + 1) (by omega)]
      rw [e, some_bind', sm_inl]
      have := ih (k + 1) (by omega)
      rw [show (gI v k).2 = k + 1 from rfl, this]
      congr 1
      simp only [List.length_cons]; omega
  exact key xs k (by omega)
/-- A loop that reads what was marked. -/
theorem held_go {α : Type} (g : α → Int → α × Int) (L : Nat → Int → Int → Option Int) (ys : List α) (hl : ys.length ≤ 100000000) (lim' : Int) (hend : ∀ n s, L (n + 1) (ys.length : Int) s = some s) (xs : List α) (k : Int) (hys : ys = (mapSt g xs k).1)
    (hg : ∀ v s, v ∈ xs → 0 ≤ s → s ≤ lim' → s ≤ (g v s).2 ∧ (g v s).2 ≤ s + 10000) (hstep : ∀ n (i : Int) v s, v ∈ xs → 0 ≤ s → s ≤ lim' → i < (ys.length : Int) → idx ys i = some (g v s).1 → wr .i64 (i + 1) = i + 1 → L (n + 1) i s = L n (i + 1) (g v s).2) (hk : 0 ≤ k ∧ k + 10000 * (xs.length : Int) ≤ lim') : ∀ m, L (xs.length + 1 + m) 0 k = some (mapSt g xs k).2 := by
  have key : ∀ (suf : List α) (pre : List α) (s : Int), ys = pre ++ (mapSt g suf s).1 → (∀ v, v ∈ suf → v ∈ xs) → 0 ≤ s → s + 10000 * (suf.length : Int) ≤ lim' → ∀ m, L (suf.length + 1 + m) (pre.length : Int) s = some (mapSt g suf s).2 := by
    intro suf
    induction suf with
    | nil =>
      intro pre s hy _ _ _ m
      have : (pre.length : Int) = (ys.length : Int) := by rw [hy]; simp [mapSt]
      rw [this, List.length_nil, show 0 + 1 + m = m + 1 from by omega, hend]
      rfl
    | cons v suf ih =>
      intro pre s hy hv h0 h1 m
      simp only [List.length_cons] at h1
      have hlen : ys.length = pre.length + (suf.length + 1) := by rw [hy]; simp [mapSt_length]
      have hgv := hg v s (hv v List.mem_cons_self) h0 (by omega)
      have hi : idx ys (pre.length : Int) = some (g v s).1 := by rw [hy]; exact idx_app pre (g v s).1 (mapSt g suf (g v s).2).1
      rw [List.length_cons, show suf.length + 1 + 1 + m = suf.length + 1 + m + 1 from by omega, hstep (suf.length + 1 + m) pre.length v s (hv v List.mem_cons_self) h0 (by omega) (by omega) hi (wr64 (by omega))]
      have := ih (pre ++ [(g v s).1]) (g v s).2 (by rw [hy]; simp [mapSt]) (fun u hu => hv u (List.mem_cons_of_mem _ hu)) (by omega) (by omega) m
      have hc : ((pre ++ [(g v s).1]).length : Int) = (pre.length : Int) + 1 := by simp
      rw [hc] at this
      rw [this]
      simp [mapSt]
  intro m
  exact key xs [] k (by rw [hys]; rfl) (fun v hv => hv) hk.1 hk.2 m
theorem laws_heldEntryS_marked (xs : List EntT) (k : Int) (hx : xs.length ≤ 2000000) (hk : 0 ≤ k ∧ k ≤ 100000000000) : laws_heldEntryS (mapSt gE xs k).1 k = some (k + 6 * (xs.length : Int)) := by
  rw [laws_heldEntryS_def]
  rw [← mapSt_gE]
  have hl : (mapSt gE xs k).1.length = xs.length := mapSt_length gE xs k
  refine lim_of (xs.length + 1) fun m => ?_
  simp only [laws_heldEntryS_be]
  refine held_go gE (fun n i s => laws_heldEntryS_l2 n (mapSt gE xs k).1 s i) _ (by omega) 200000000000 (fun n s => by simp only [laws_heldEntryS_l2, laws_heldEntryS_ls, laws_heldEntryS_b2, laws_heldEntryS_r, Int.lt_irrefl, decide_false, cond_false]) xs k rfl (fun v s _ _ _ => by simp only [gE]; omega)
    (fun n i v s _ hs1 hs2 h1 hi hw => by
      have w : ∀ x : Int, 0 ≤ x → x ≤ 9223372036854775807 → wr .i64 x = x := fun x a b => wr64 (by omega)
      have e1 : s + 1 + 1 = s + 2 := by omega
      have e2 : s + 2 + 1 = s + 3 := by omega
      have e3 : s + 3 + 1 = s + 4 := by omega
      have e4 : s + 4 + 1 = s + 5 := by omega
      have e5 : s + 5 + 1 = s + 6 := by omega
      simp only [gE] at hi ⊢
      simp only [laws_heldEntryS_l2, laws_heldEntryS_ls, laws_heldEntryS_b2, laws_heldEntryS_r, h1, hi, decide_true, cond_true, cond_false, Bool.not_true, some_bind', w (s + 1) (by omega) (by omega), e1, w (s + 2) (by omega) (by omega), e2, w (s + 3) (by omega) (by omega), e3, w (s + 4) (by omega) (by omega), e4, w (s + 5) (by omega) (by omega), e5, w (s + 6) (by omega) (by omega), hw, markText_eq (s + 5) (by omega), strEq_refl]) (by omega) m
theorem laws_markRaft_some (r : RaftT) (h : RaftZ r) (k : Int) (hk : 0 ≤ k ∧ k ≤ 1000000) : ∃ k' r', laws_markRaft r k = some (k', r') ∧ laws_heldRaft r' k = some k' ∧ k ≤ k' ∧ k' ≤ k + 20000000 ∧ (r.1, r.2.1, r.2.2.1, r.2.2.2.1, ((r.2.2.2.2.1.1, r.2.2.2.2.1.2.1, r'.2.2.2.2.1.2.2), r'.2.2.2.2.2)) = r' := by
  obtain ⟨h1, h2, h3, h4⟩ := h
  rw [laws_markRaft_def]
  simp only [laws_markRaft_d, laws_markRaft_be, laws_markRaft_r, laws_markHard_def, laws_markHard_d, laws_markHard_be, laws_markHard_r]
  have b1 : (rLog r).length ≤ 2000000 := by omega
  have q0 := laws_markEntryS_eq (rLog r) k (by omega) (by omega)
  have q1 := laws_markIntS_eq (rYes r) (mapSt gE (rLog r) k).2 (by omega) (by rw [mapSt_gE]; omega)
  have q2 := laws_markIntS_eq (rNext r) (mapSt gI (rYes r) (mapSt gE (rLog r) k).2).2 (by omega) (by rw [mapSt_gI, mapSt_gE]; omega)
  have q3 := laws_markIntS_eq (rMat r) (mapSt gI (rNext r) (mapSt gI (rYes r) (mapSt gE (rLog r) k).2).2).2 (by omega) (by rw [mapSt_gI, mapSt_gI, mapSt_gE]; omega)
  simp only [q0, q1, q2, q3, some_bind']
  refine ⟨_, _, rfl, ?_, ?_, ?_, rfl⟩
  · have p0 := laws_heldEntryS_marked (rLog r) k (by omega) (by omega)
    have p1 := laws_heldIntS_marked (rYes r) (k + 6 * ((rLog r).length : Int)) (by omega) (by omega)
    have p2 := laws_heldIntS_marked (rNext r) (k + 6 * ((rLog r).length : Int) + ((rYes r).length : Int)) (by omega) (by omega)
    have p3 := laws_heldIntS_marked (rMat r) (k + 6 * ((rLog r).length : Int) + ((rYes r).length : Int) + ((rNext r).length : Int)) (by omega) (by omega)
    have d0 : decide (k + 6 * ((rLog r).length : Int) < 0) = false := decide_eq_false (by omega)
    have d1 : decide (k + 6 * ((rLog r).length : Int) + ((rYes r).length : Int) < 0) = false := decide_eq_false (by omega)
    have d2 : decide (k + 6 * ((rLog r).length : Int) + ((rYes r).length : Int) + ((rNext r).length : Int) < 0) = false := decide_eq_false (by omega)
    have d3 : decide (k + 6 * ((rLog r).length : Int) + ((rYes r).length : Int) + ((rNext r).length : Int) + ((rMat r).length : Int) < 0) = false := decide_eq_false (by omega)
    rw [laws_heldRaft_def]
    simp only [mapSt_gI, mapSt_gE]
    simp only [laws_heldRaft_d, laws_heldRaft_be, laws_heldRaft_r, laws_heldHard_def, laws_heldHard_d, laws_heldHard_be, laws_heldHard_r, p0, p1, p2, p3, d0, d1, d2, d3, some_bind', cond_false]
  · simp only [mapSt_gI, mapSt_gE]; omega
  · simp only [mapSt_gI, mapSt_gE]; omega
noncomputable def gR (e : RecT) (k : Int) : RecT × Int := ((k, k + 1, k + 2, k + 3, k + 4, k + 5, k + 6, k + 7, k + 8, mtx (k + 9)), k + 10)
theorem mapSt_gR : ∀ (xs : List RecT) (k : Int), (mapSt gR xs k).2 = k + 10 * (xs.length : Int)
  | [], k => by simp [mapSt]
  | e :: xs, k => by
    simp only [mapSt, mapSt_gR xs, gR, List.length_cons]; omega
theorem laws_markRecS_eq (xs : List RecT) (k : Int) (hx : xs.length ≤ 1048576) (hk : 0 ≤ k ∧ k ≤ 100000000000) : laws_markRecS xs k = some ((mapSt gR xs k).2, (mapSt gR xs k).1) := by
  rw [laws_markRecS_def]
  refine lim_of (xs.length + 1) fun m => ?_
  have := scanM xs (by omega) gR (fun n i ys s => laws_markRecS_l2 n ys s i) (fun i s => i ≤ 1048576 → 0 ≤ s ∧ s ≤ 100000000000 + 10 * (i : Int)) (fun ys s => some (s, ys))
    (fun n ys s hy => by simp only [laws_markRecS_l2, laws_markRecS_ls, laws_markRecS_b2, laws_markRecS_r, hy, Int.lt_irrefl, decide_false, cond_false])
    (fun n i ys s v hy h0 h1 hi hw hinv => by
      have h2 : i < (ys.length : Int) := by rw [hy]; exact h1
      have hs := hinv (by omega)
      have w : ∀ x : Int, 0 ≤ x → x ≤ 9223372036854775807 → wr .i64 x = x := fun x a b => wr64 (by omega)
      have e1 : s + 1 + 1 = s + 2 := by omega
      have e2 : s + 2 + 1 = s + 3 := by omega
      have e3 : s + 3 + 1 = s + 4 := by omega
      have e4 : s + 4 + 1 = s + 5 := by omega
      have e5 : s + 5 + 1 = s + 6 := by omega
      have e6 : s + 6 + 1 = s + 7 := by omega
      have e7 : s + 7 + 1 = s + 8 := by omega
      have e8 : s + 8 + 1 = s + 9 := by omega
      have e9 : s + 9 + 1 = s + 10 := by omega
      refine ⟨?_, fun _ => ?_⟩
      · simp only [laws_markRecS_l2, laws_markRecS_ls, laws_markRecS_b2, laws_markRecS_r, h2, h0, hi, decide_true, cond_true, Bool.and_self, some_bind', List.length_set, List.set_set, idx_set h0 h2, w (s + 1) (by omega) (by omega), e1, w (s + 2) (by omega) (by omega), e2, w (s + 3) (by omega) (by omega), e3, w (s + 4) (by omega) (by omega), e4, w (s + 5) (by omega) (by omega), e5, w (s + 6) (by omega) (by omega), e6, w (s + 7) (by omega) (by omega), e7, w (s + 8) (by omega) (by omega), e8, w (s + 9) (by omega) (by omega), e9, w (s + 10) (by omega) (by omega), hw, markText_eq (s + 9) (by omega)]
        rfl
      · simp only [gR]; omega) k (fun _ => by omega) m
  simp only [laws_markRecS_be]
  exact this
theorem laws_heldRecS_marked (xs : List RecT) (k : Int) (hx : xs.length ≤ 1048576) (hk : 0 ≤ k ∧ k ≤ 100000000000) : laws_heldRecS (mapSt gR xs k).1 k = some (mapSt gR xs k).2 := by
  rw [laws_heldRecS_def]
  have hl : (mapSt gR xs k).1.length = xs.length := mapSt_length gR xs k
  refine lim_of (xs.length + 1) fun m => ?_
  simp only [laws_heldRecS_be]
  refine held_go gR (fun n i s => laws_heldRecS_l2 n (mapSt gR xs k).1 s i) _ (by omega) 200000000000 (fun n s => by simp only [laws_heldRecS_l2, laws_heldRecS_ls, laws_heldRecS_b2, laws_heldRecS_r, Int.lt_irrefl, decide_false, cond_false]) xs k rfl (fun v s _ _ _ => by simp only [gR]; omega)
    (fun n i v s _ hs1 hs2 h1 hi hw => by
      have w : ∀ x : Int, 0 ≤ x → x ≤ 9223372036854775807 → wr .i64 x = x := fun x a b => wr64 (by omega)
      have e1 : s + 1 + 1 = s + 2 := by omega
      have e2 : s + 2 + 1 = s + 3 := by omega
      have e3 : s + 3 + 1 = s + 4 := by omega
      have e4 : s + 4 + 1 = s + 5 := by omega
      have e5 : s + 5 + 1 = s + 6 := by omega
      have e6 : s + 6 + 1 = s + 7 := by omega
      have e7 : s + 7 + 1 = s + 8 := by omega
      have e8 : s + 8 + 1 = s + 9 := by omega
      have e9 : s + 9 + 1 = s + 10 := by omega
      simp only [gR] at hi ⊢
      simp only [laws_heldRecS_l2, laws_heldRecS_ls, laws_heldRecS_b2, laws_heldRecS_r, h1, hi, decide_true, cond_true, cond_false, Bool.not_true, some_bind', w (s + 1) (by omega) (by omega), e1, w (s + 2) (by omega) (by omega), e2, w (s + 3) (by omega) (by omega), e3, w (s + 4) (by omega) (by omega), e4, w (s + 5) (by omega) (by omega), e5, w (s + 6) (by omega) (by omega), e6, w (s + 7) (by omega) (by omega), e7, w (s + 8) (by omega) (by omega), e8, w (s + 9) (by omega) (by omega), e9, w (s + 10) (by omega) (by omega), hw, markText_eq (s + 9) (by omega), strEq_refl]) (by omega) m
noncomputable def gO (o : OutT) (k : Int) : OutT × Int := ((k, k + 1, k + 2, k + 3, k + 4, k + 5, k + 6, decide (Int.tmod (k + 7) 3 = 0), k + 8, k + 9, mtx (k + 10), (k + 11, k + 12, k + 13, k + 14, mtx (k + 15)), (mapSt gE o.2.2.2.2.2.2.2.2.2.2.2.2 (k + 16)).1), (mapSt gE o.2.2.2.2.2.2.2.2.2.2.2.2 (k + 16)).2)
theorem gO_st (o : OutT) (k : Int) : (gO o k).2 = k + 16 + 6 * (o.2.2.2.2.2.2.2.2.2.2.2.2.length : Int) := by simp only [gO, mapSt_gE]
theorem mapSt_gO : ∀ (xs : List OutT) (k : Int), (∀ o, o ∈ xs → o.2.2.2.2.2.2.2.2.2.2.2.2.length ≤ 1000) → k ≤ (mapSt gO xs k).2 ∧ (mapSt gO xs k).2 ≤ k + 7000 * (xs.length : Int)
  | [], k, _ => by simp [mapSt]
  | e :: xs, k, h => by
    have h1 := h e List.mem_cons_self
    have := mapSt_gO xs (gO e k).2 (fun o ho => h o (List.mem_cons_of_mem _ ho))
    rw [gO_st] at this
    simp only [mapSt, List.length_cons]
    rw [gO_st]
    omega
theorem laws_markOutS_eq (xs : List OutT) (k : Int) (hz : OutZ xs) (hk : 0 ≤ k ∧ k ≤ 1000000000) : laws_markOutS xs k = some ((mapSt gO xs k).2, (mapSt gO xs k).1) := by
  have hx := hz.1
  rw [laws_markOutS_def]
  refine lim_of (xs.length + 1) fun m => ?_
  have := scanMm xs (by omega) gO (fun n i ys s => laws_markOutS_l2 n ys s i) (fun i s => i ≤ 1000 → 0 ≤ s ∧ s ≤ 1000000000 + 7000 * (i : Int)) (fun ys s => some (s, ys))
    (fun n ys s hy => by simp only [laws_markOutS_l2, laws_markOutS_ls, laws_markOutS_b2, laws_markOutS_r, hy, Int.lt_irrefl, decide_false, cond_false])
    (fun n i ys s v hv hy h0 h1 hi hw hinv => by
      have h2 : i < (ys.length : Int) := by rw [hy]; exact h1
      have hs := hinv (by omega)
      have hve := hz.2 v hv
      have w : ∀ x : Int, 0 ≤ x → x ≤ 9223372036854775807 → wr .i64 x = x := fun x a b => wr64 (by omega)
      have e1 : s + 1 + 1 = s + 2 := by omega
      have e2 : s + 2 + 1 = s + 3 := by omega
      have e3 : s + 3 + 1 = s + 4 := by omega
      have e4 : s + 4 + 1 = s + 5 := by omega
      have e5 : s + 5 + 1 = s + 6 := by omega
      have e6 : s + 6 + 1 = s + 7 := by omega
      have e7 : s + 7 + 1 = s + 8 := by omega
      have e8 : s + 8 + 1 = s + 9 := by omega
      have e9 : s + 9 + 1 = s + 10 := by omega
      have e10 : s + 10 + 1 = s + 11 := by omega
      have e11 : s + 11 + 1 = s + 12 := by omega
      have e12 : s + 12 + 1 = s + 13 := by omega
      have e13 : s + 13 + 1 = s + 14 := by omega
      have e14 : s + 14 + 1 = s + 15 := by omega
      have e15 : s + 15 + 1 = s + 16 := by omega
      have hm := laws_markEntryS_eq v.2.2.2.2.2.2.2.2.2.2.2.2 (s + 16) (by omega) (by omega)
      refine ⟨?_, fun _ => ?_⟩
      · simp only [laws_markOutS_l2, laws_markOutS_ls, laws_markOutS_b2, laws_markOutS_r, h2, h0, hi, decide_true, cond_true, Bool.and_self, some_bind', List.length_set, List.set_set, idx_set h0 h2, w (s + 1) (by omega) (by omega), e1, w (s + 2) (by omega) (by omega), e2, w (s + 3) (by omega) (by omega), e3, w (s + 4) (by omega) (by omega), e4, w (s + 5) (by omega) (by omega), e5, w (s + 6) (by omega) (by omega), e6, w (s + 7) (by omega) (by omega), e7, w (s + 8) (by omega) (by omega), e8, w (s + 9) (by omega) (by omega), e9, w (s + 10) (by omega) (by omega), e10, w (s + 11) (by omega) (by omega), e11, w (s + 12) (by omega) (by omega), e12, w (s + 13) (by omega) (by omega), e13, w (s + 14) (by omega) (by omega), e14, w (s + 15) (by omega) (by omega), e15, w (s + 16) (by omega) (by omega), hw, markText_eq (s + 10) (by omega), markText_eq (s + 15) (by omega), hm, show decide ((3 : Int) = 0) = false from rfl, cond_false]
        rfl
      · rw [gO_st]; omega) k (fun _ => by omega) m
  simp only [laws_markOutS_be]
  exact this
theorem laws_heldOutS_marked (xs : List OutT) (k : Int) (hz : OutZ xs) (hk : 0 ≤ k ∧ k ≤ 1000000000) : laws_heldOutS (mapSt gO xs k).1 k = some (mapSt gO xs k).2 := by
  have hx := hz.1
  rw [laws_heldOutS_def]
  have hl : (mapSt gO xs k).1.length = xs.length := mapSt_length gO xs k
  refine lim_of (xs.length + 1) fun m => ?_
  simp only [laws_heldOutS_be]
  refine held_go gO (fun n i s => laws_heldOutS_l2 n (mapSt gO xs k).1 s i) _ (by omega) 2000000000 (fun n s => by simp only [laws_heldOutS_l2, laws_heldOutS_ls, laws_heldOutS_b2, laws_heldOutS_r, Int.lt_irrefl, decide_false, cond_false]) xs k rfl (fun v s hv _ _ => by
    have := hz.2 v hv
    rw [gO_st]; omega)
    (fun n i v s hv hs1 hs2 h1 hi hw => by
      have hve := hz.2 v hv
      have w : ∀ x : Int, 0 ≤ x → x ≤ 9223372036854775807 → wr .i64 x = x := fun x a b => wr64 (by omega)
      have e1 : s + 1 + 1 = s + 2 := by omega
      have e2 : s + 2 + 1 = s + 3 := by omega
      have e3 : s + 3 + 1 = s + 4 := by omega
      have e4 : s + 4 + 1 = s + 5 := by omega
      have e5 : s + 5 + 1 = s + 6 := by omega
      have e6 : s + 6 + 1 = s + 7 := by omega
      have e7 : s + 7 + 1 = s + 8 := by omega
      have e8 : s + 8 + 1 = s + 9 := by omega
      have e9 : s + 9 + 1 = s + 10 := by omega
      have e10 : s + 10 + 1 = s + 11 := by omega
      have e11 : s + 11 + 1 = s + 12 := by omega
      have e12 : s + 12 + 1 = s + 13 := by omega
      have e13 : s + 13 + 1 = s + 14 := by omega
      have e14 : s + 14 + 1 = s + 15 := by omega
      have e15 : s + 15 + 1 = s + 16 := by omega
      have hm := laws_heldEntryS_marked v.2.2.2.2.2.2.2.2.2.2.2.2 (s + 16) (by omega) (by omega)
      have d : decide (s + 16 + 6 * (v.2.2.2.2.2.2.2.2.2.2.2.2.length : Int) < 0) = false := decide_eq_false (by omega)
      rw [gO_st]
      simp only [gO] at hi
      simp only [laws_heldOutS_l2, laws_heldOutS_ls, laws_heldOutS_b2, laws_heldOutS_r, h1, hi, decide_true, cond_true, cond_false, Bool.not_true, some_bind', w (s + 1) (by omega) (by omega), e1, w (s + 2) (by omega) (by omega), e2, w (s + 3) (by omega) (by omega), e3, w (s + 4) (by omega) (by omega), e4, w (s + 5) (by omega) (by omega), e5, w (s + 6) (by omega) (by omega), e6, w (s + 7) (by omega) (by omega), e7, w (s + 8) (by omega) (by omega), e8, w (s + 9) (by omega) (by omega), e9, w (s + 10) (by omega) (by omega), e10, w (s + 11) (by omega) (by omega), e11, w (s + 12) (by omega) (by omega), e12, w (s + 13) (by omega) (by omega), e13, w (s + 14) (by omega) (by omega), e14, w (s + 15) (by omega) (by omega), e15, w (s + 16) (by omega) (by omega), hw, markText_eq (s + 10) (by omega), markText_eq (s + 15) (by omega), strEq_refl, hm, d, beq_self_eq_true, show decide ((3 : Int) = 0) = false from rfl]) (by omega) m
theorem OutZ.marks {xs : List OutT} (h : OutZ xs) {k : Int} (hk : 0 ≤ k ∧ k ≤ 1000000000) : k ≤ (mapSt gO xs k).2 ∧ (mapSt gO xs k).2 ≤ k + 7000000 := by
  have := mapSt_gO xs k h.2
  have := h.1
  omega
end Go.TM


/- What a node sends: both sides say the same. -/
set_option linter.unusedVariables false
set_option linter.unusedSimpArgs false
set_option linter.unusedSectionVars false
set_option maxRecDepth 10000
namespace Go.TM
open Go

theorem copyLog_eq (l : List EntT) (h : l.length ≤ 1048576) : impl_copyLog l = some l := by
  rw [impl_copyLog_def]
  have d : decide ((([] : List EntT).length + l.length) * 56 ≤ 140737488355328) = true := dlc (by simp; omega)
  simp only [impl_copyLog_d, impl_copyLog_be, impl_copyLog_r, d, cond_true, List.nil_append]
theorem copyInts_eq (l : List Int) (h : l.length ≤ 1048576) : impl_copyInts l = some l := by
  rw [impl_copyInts_def]
  have d : decide ((([] : List Int).length + l.length) * 8 ≤ 140737488355328) = true := dlc (by simp; omega)
  simp only [impl_copyInts_d, impl_copyInts_be, impl_copyInts_r, d, cond_true, List.nil_append]
theorem copyRaft_eq (r : RaftT) (h : RaftS r) : impl_copyRaft r = some r := by
  obtain ⟨h1, h2, h3, h4⟩ := h
  rw [impl_copyRaft_def]
  simp only [impl_copyRaft_d, impl_copyRaft_be, impl_copyRaft_r, impl_copyHard_def, impl_copyHard_d, impl_copyHard_be, impl_copyHard_r, copyLog_eq (rLog r) h1, copyInts_eq (rYes r) h2, copyInts_eq (rNext r) h3, copyInts_eq (rMat r) h4, some_bind']
theorem stepOf_eq (r : RaftT) (h : RaftS r) : impl_stepOf r = some (r, r, [], []) := by
  rw [impl_stepOf_def]
  simp only [impl_stepOf_d, impl_stepOf_be, impl_stepOf_r, copyRaft_eq r h, some_bind']
theorem spec_l1Min_eq (a b : Int) : spec_l1Min a b = some (min a b) := by
  rw [spec_l1Min_def]
  simp only [spec_l1Min_d, spec_l1Min_be, spec_l1Min_r]
  by_cases h : a < b
  · rw [decide_eq_true h, cond_true]; congr 1; omega
  · rw [decide_eq_false h, cond_false]; congr 1; omega
theorem mnI_eq (a b : Int) : mnI a b = min a b := by
  unfold mnI
  by_cases h : b < a
  · rw [decide_eq_true h, cond_true]; omega
  · rw [decide_eq_false h, cond_false]; omega
/-! ### Terms of entries -/
def termL (l : List EntT) : Nat → Int
  | 0 => 0
  | k + 1 => match l[k]? with
    | some e => e.1
    | none => 0
theorem termAt_eq (l : List EntT) (k : Nat) (hk : k ≤ l.length) (hl : l.length ≤ 1048576) : impl_termAt l (k : Int) = some (termL l k) := by
  rw [impl_termAt_def]
  match k, hk with
  | 0, _ => rfl
  | k + 1, hk =>
    have d : decide (((k + 1 : Nat) : Int) = 0) = false := decide_eq_false (by omega)
    have w : wr .i64 (((k + 1 : Nat) : Int) - 1) = (k : Int) := by rw [wr64 (by omega)]; omega
    obtain ⟨v, hv⟩ : ∃ v, l[k]? = some v := ⟨l[k], List.getElem?_eq_getElem (by omega)⟩
    simp only [impl_termAt_d, impl_termAt_be, impl_termAt_r, d, cond_false, w, idx_nat, hv, some_bind', termL]
theorem spec_l10Term_eq (h : HardT) (k : Nat) (hk : k ≤ h.2.2.length) (hl : h.2.2.length ≤ 1048576) : spec_l10Term h (k : Int) = some (termL h.2.2 k) := by
  rw [spec_l10Term_def]
  match k, hk with
  | 0, _ => rfl
  | k + 1, hk =>
    have d : decide (((k + 1 : Nat) : Int) < 1) = false := decide_eq_false (by omega)
    have d2 : decide (((k + 1 : Nat) : Int) > (h.2.2.length : Int)) = false := decide_eq_false (by omega)
    have w : wr .i64 (((k + 1 : Nat) : Int) - 1) = (k : Int) := by rw [wr64 (by omega)]; omega
    obtain ⟨v, hv⟩ : ∃ v, h.2.2[k]? = some v := ⟨h.2.2[k], List.getElem?_eq_getElem (by omega)⟩
    simp only [spec_l10Term_d, spec_l10Term_be, spec_l10Term_r, d, d2, cond_false, w, idx_nat, hv, some_bind', termL]
/-! ### Sending -/
def SendOk (r : RaftT) : Prop := ofOk (rOf r) = true ∧ (rLog r).length ≤ 80 ∧ ((rNext r).length : Int) = rOf r ∧ ∀ v, v ∈ rNext r → 1 ≤ v ∧ v ≤ rEnd r + 1
abbrev noCmd : CmdT := (0, 0, 0, 0, ⟨#[]⟩)
def atOf (r : RaftT) (i : Nat) : Nat := ((rNext r)[i]?.getD 1).toNat - 1
def sendM (r : RaftT) (i : Nat) : OutT := ((i : Int), 3, r.1, (rHard r).1, (atOf r i : Int), termL (rLog r) (atOf r i), rCom r, false, 0, 0, ⟨#[]⟩, noCmd, ((rLog r).drop (atOf r i)).take 6)
def sendsF (r : RaftT) : Nat → Nat → List OutT
  | 0, _ => []
  | j + 1, i => (if (i : Int) = r.1 then [] else [sendM r i]) ++ sendsF r j (i + 1)
theorem sendsF_len (r : RaftT) : ∀ j i, (sendsF r j i).length ≤ j
  | 0, _ => Nat.le_refl _
  | j + 1, i => by
    have := sendsF_len r j (i + 1)
    rw [sendsF, List.length_append]
    split
    · simp; omega
    · simp; omega
theorem sendsF_mem (r : RaftT) : ∀ j i o, o ∈ sendsF r j i → ∃ k, i ≤ k ∧ k < i + j ∧ (k : Int) ≠ r.1 ∧ o = sendM r k
  | 0, i, o, ho => by cases ho
  | j + 1, i, o, ho => by
    rw [sendsF] at ho
    rcases List.mem_append.1 ho with ho | ho
    · split at ho
      · cases ho
      · rename_i h; exact ⟨i, Nat.le_refl _, by omega, h, List.mem_singleton.1 ho⟩
    · obtain ⟨k, h1, h2, h3, h4⟩ := sendsF_mem r j (i + 1) o ho
      exact ⟨k, by omega, by omega, h3, h4⟩
def sendsM (r : RaftT) : List OutT := sendsF r (rOf r).toNat 0
theorem atOf_ok {r : RaftT} (h : SendOk r) {i : Nat} (hi : (i : Int) < rOf r) : (rNext r)[i]? = some ((atOf r i : Int) + 1) ∧ atOf r i ≤ (rLog r).length := by
  obtain ⟨h1, h2, h3, h4⟩ := h
  have hlt : i < (rNext r).length := by omega
  have e : (rNext r)[i]? = some (rNext r)[i] := List.getElem?_eq_getElem hlt
  have hm := h4 _ (List.mem_of_getElem? e)
  have he : rEnd r = ((rLog r).length : Int) := rfl
  unfold atOf
  rw [e]
  simp only [Option.getD_some]
  refine ⟨?_, by omega⟩
  congr 1
  omega
theorem cut6 (l : List EntT) (a : Nat) (ha : a ≤ l.length) : (l.drop a).take ((min ((a : Int) + 6) (l.length : Int) - (a : Int) : Int).toNat) = (l.drop a).take 6 := by
  rw [List.take_eq_take_iff, List.length_drop]
  omega
theorem cut6' (l : List EntT) (a : Nat) (ha : a ≤ l.length) : (l.take (min ((a : Int) + 6) (l.length : Int)).toNat).drop (a : Int).toNat = (l.drop a).take 6 := by
  rw [Int.toNat_natCast, List.drop_take, List.take_eq_take_iff, List.length_drop]
  omega
theorem impl_send_eq (r was : RaftT) (recs : List RecT) (outs : List OutT) (h : SendOk r) (i : Nat) (hi : (i : Int) < rOf r) (ho : outs.length ≤ 100000) : impl_stepper_send (r, was, recs, outs) (i : Int) = some (r, was, recs, outs ++ [sendM r i]) := by
  obtain ⟨g1, g2⟩ := atOf_ok h hi
  obtain ⟨h1, h2, h3, h4⟩ := h
  have d1 : decide (0 ≤ (i : Int)) = true := decide_eq_true (by omega)
  have d2 : decide ((i : Int) < ((rNext r).length : Int)) = true := decide_eq_true (by omega)
  have w1 : wr .i64 (((atOf r i : Nat) : Int) + 1 - 1) = ((atOf r i : Nat) : Int) := by rw [wr64 (by omega)]; omega
  have w2 : wr .i64 (((atOf r i : Nat) : Int) + 6) = ((atOf r i : Nat) : Int) + 6 := wr64 (by omega)
  have d3 : decide (0 ≤ ((atOf r i : Nat) : Int)) = true := decide_eq_true (by omega)
  have d4 : decide (((atOf r i : Nat) : Int) ≤ min (((atOf r i : Nat) : Int) + 6) ((rLog r).length : Int)) = true := decide_eq_true (by omega)
  have d5 : decide (min (((atOf r i : Nat) : Int) + 6) ((rLog r).length : Int) ≤ ((rLog r).length : Int)) = true := decide_eq_true (by omega)
  have d6 : ∀ o : OutT, decide ((outs.length + ([o] : List OutT).length) * 168 ≤ 140737488355328) = true := fun o => dlc (by simp; omega)
  have c := cut6 (rLog r) (atOf r i) g2
  rw [impl_stepper_send_def]
  simp only [impl_stepper_send_d, impl_stepper_send_be, impl_stepper_send_r, impl_stepper_message_def, impl_stepper_message_d, impl_stepper_message_be, impl_stepper_message_r, some_bind', d1, d2, Bool.and_self, cond_true, idx_nat, g1, w1, w2, termAt_eq (rLog r) (atOf r i) g2 (by omega), mnI_eq, d3, d4, d5, Int.toNat_natCast, c, copyLog_eq (((rLog r).drop (atOf r i)).take 6) (by rw [List.length_take]; omega), d6]
  rfl
theorem spec_send_eq (r : RaftT) (h : SendOk r) (i : Nat) (hi : (i : Int) < rOf r) : spec_l10Send r (i : Int) = some (sendM r i) := by
  obtain ⟨g1, g2⟩ := atOf_ok h hi
  obtain ⟨h1, h2, h3, h4⟩ := h
  have he : rEnd r = ((rLog r).length : Int) := rfl
  have w1 : wr .i64 (((atOf r i : Nat) : Int) + 1 - 1) = ((atOf r i : Nat) : Int) := by rw [wr64 (by omega)]; omega
  have w2 : wr .i64 (((atOf r i : Nat) : Int) + 6) = ((atOf r i : Nat) : Int) + 6 := wr64 (by omega)
  have d3 : decide (0 ≤ ((atOf r i : Nat) : Int)) = true := decide_eq_true (by omega)
  have d4 : decide (((atOf r i : Nat) : Int) ≤ min (((atOf r i : Nat) : Int) + 6) (rEnd r)) = true := decide_eq_true (by omega)
  have d5 : decide (min (((atOf r i : Nat) : Int) + 6) (rEnd r) ≤ ((rLog r).length : Int)) = true := decide_eq_true (by omega)
  have c := cut6' (rLog r) (atOf r i) g2
  have d6 : decide ((([] : List EntT).length + (((rLog r).drop (atOf r i)).take 6).length) * 56 ≤ 140737488355328) = true := dlc (by simp only [List.length_take, List.length_nil]; omega)
  rw [spec_l10Send_def]
  simp only [spec_l10Send_d, spec_l10Send_be, spec_l10Send_r, some_bind', idx_nat, g1, w1, w2, spec_l10Term_eq (rHard r) (atOf r i) g2 (by have : (rHard r).2.2.length = (rLog r).length := rfl; omega), spec_l10End_eq, spec_l1Min_eq, d3, d4, d5, Bool.and_self, cond_true]
  simp only [he, c, d6, cond_true, List.nil_append]
  rfl
theorem impl_sendAll_go (r was : RaftT) (recs : List RecT) (h : SendOk r) : ∀ (j i : Nat) (outs : List OutT), (i : Int) + j = rOf r → outs.length ≤ 50000 + i → Ev (fun n => impl_stepper_sendAll_l1 n (r, was, recs, outs) (rOf r) (i : Int)) (r, was, recs, outs ++ sendsF r j i)
  | 0, i, outs, hi, ho => by
    have d : decide ((i : Int) < rOf r) = false := decide_eq_false (by omega)
    rw [sendsF, List.append_nil]
    refine Ev.step (g := fun _ => some (r, was, recs, outs)) (fun n => ?_) Ev.const
    simp only [impl_stepper_sendAll_l1, impl_stepper_sendAll_ls, impl_stepper_sendAll_b1, impl_stepper_sendAll_r, d, cond_false]
  | j + 1, i, outs, hi, ho => by
    have hof := ofOk_iff.1 h.1
    have d : decide ((i : Int) < rOf r) = true := decide_eq_true (by omega)
    have w := wnat i (by omega)
    rw [sendsF]
    by_cases he : (i : Int) = r.1
    · have ih := impl_sendAll_go r was recs h j (i + 1) outs (by omega) (by omega)
      rw [if_pos he, List.nil_append]
      refine Ev.step (fun n => ?_) ih
      simp only [impl_stepper_sendAll_l1, impl_stepper_sendAll_ls, impl_stepper_sendAll_b1, impl_stepper_sendAll_r, d, cond_true, decide_eq_true he, Bool.not_true, cond_false, w]
    · have ih := impl_sendAll_go r was recs h j (i + 1) (outs ++ [sendM r i]) (by omega) (by simp; omega)
      rw [if_neg he, ← List.append_assoc]
      refine Ev.step (fun n => ?_) ih
      simp only [impl_stepper_sendAll_l1, impl_stepper_sendAll_ls, impl_stepper_sendAll_b1, impl_stepper_sendAll_r, d, cond_true, decide_eq_false he, Bool.not_false, impl_send_eq r was recs outs h i (by omega) (by omega), some_bind', w]
theorem impl_sendAll_eq (r was : RaftT) (recs : List RecT) (outs : List OutT) (h : SendOk r) (ho : outs.length ≤ 50000) : impl_stepper_sendAll (r, was, recs, outs) = some (r, was, recs, outs ++ sendsM r) := by
  have hof := ofOk_iff.1 h.1
  rw [impl_stepper_sendAll_def]
  exact lim_ev (Ev.congr (fun n => by simp only [impl_stepper_sendAll_be]; rfl) (impl_sendAll_go r was recs h (rOf r).toNat 0 outs (by omega) (by omega)))
theorem spec_sendAll_go (r : RaftT) (h : SendOk r) : ∀ (j i : Nat) (outs : List OutT), (i : Int) + j = rOf r → outs.length ≤ i → Ev (fun n => spec_l10SendAll_l3 n r outs (i : Int)) (outs ++ sendsF r j i)
  | 0, i, outs, hi, ho => by
    have d : decide ((i : Int) < rOf r) = false := decide_eq_false (by omega)
    rw [sendsF, List.append_nil]
    refine Ev.step (g := fun _ => some outs) (fun n => ?_) Ev.const
    simp only [spec_l10SendAll_l3, spec_l10SendAll_ls, spec_l10SendAll_b3, spec_l10SendAll_r, d, cond_false]
  | j + 1, i, outs, hi, ho => by
    have hof := ofOk_iff.1 h.1
    have d : decide ((i : Int) < rOf r) = true := decide_eq_true (by omega)
    have w := wnat i (by omega)
    rw [sendsF]
    by_cases he : (i : Int) = r.1
    · have ih := spec_sendAll_go r h j (i + 1) outs (by omega) (by omega)
      rw [if_pos he, List.nil_append]
      refine Ev.step (fun n => ?_) ih
      simp only [spec_l10SendAll_l3, spec_l10SendAll_ls, spec_l10SendAll_b3, spec_l10SendAll_r, d, cond_true, decide_eq_true he, Bool.not_true, cond_false, w]
    · have ih := spec_sendAll_go r h j (i + 1) (outs ++ [sendM r i]) (by omega) (by simp; omega)
      have d2 : decide ((outs.length + ([sendM r i] : List OutT).length) * 168 ≤ 140737488355328) = true := dlc (by simp; omega)
      rw [if_neg he, ← List.append_assoc]
      refine Ev.step (fun n => ?_) ih
      simp only [spec_l10SendAll_l3, spec_l10SendAll_ls, spec_l10SendAll_b3, spec_l10SendAll_r, d, cond_true, decide_eq_false he, Bool.not_false, spec_send_eq r h i (by omega), some_bind', d2, w]
theorem spec_sendAll_eq (r : RaftT) (h : SendOk r) : spec_l10SendAll r = some (sendsM r) := by
  have hof := ofOk_iff.1 h.1
  rw [spec_l10SendAll_def]
  have := spec_sendAll_go r h (rOf r).toNat 0 [] (by omega) (by simp)
  rw [List.nil_append] at this
  exact lim_ev (Ev.congr (fun n => by simp only [spec_l10SendAll_be]; rfl) this)

/-! ### What is known of a right node -/
theorem raftO_out {r : RaftT} (h : raftO r = true) : ofOk (rOf r) = true ∧ (0 ≤ r.1 ∧ r.1 ≤ rOf r - 1) ∧ (1 ≤ rRole r ∧ rRole r ≤ 3) ∧ hardO (rHard r) = true ∧ (0 ≤ rCom r ∧ rCom r ≤ rEnd r) ∧ ascO (rOf r) (-1) (rYes r) = true ∧ yesO r = true ∧ voteO r = true ∧ roleO r = true := by
  unfold raftO at h
  simp only [Bool.and_eq_true, inR_iff] at h
  exact h
theorem hardO_out {h : HardT} (hh : hardO h = true) : (0 ≤ h.1 ∧ h.1 ≤ 1000000000) ∧ (0 ≤ h.2.1 ∧ h.2.1 ≤ 5) ∧ h.2.2.length ≤ 80 ∧ logO h.1 0 h.2.2 = true := by
  unfold hardO at hh
  simp only [Bool.and_eq_true, inR_iff, decide_eq_true_eq] at hh
  exact ⟨hh.1, hh.2.1, by omega, hh.2.2.2⟩
theorem raftO_log {r : RaftT} (h : raftO r = true) : (rLog r).length ≤ 80 := (hardO_out (raftO_out h).2.2.2.1).2.2.1
theorem roleO_lead {r : RaftT} (h : roleO r = true) (hr : rRole r = 3) : (((rNext r).length : Int) = rOf r ∧ ∀ v, v ∈ rNext r → 1 ≤ v ∧ v ≤ rEnd r + 1) ∧ (((rMat r).length : Int) = rOf r ∧ ∀ v, v ∈ rMat r → 0 ≤ v ∧ v ≤ rEnd r) := by
  unfold roleO at h
  rw [decide_eq_true hr, cond_true] at h
  simp only [Bool.and_eq_true, List.all_eq_true, inR_iff, decide_eq_true_eq] at h
  exact ⟨⟨h.1.2, h.1.1⟩, h.2.2, h.2.1⟩
theorem raftO_send {r : RaftT} (h : raftO r = true) (hr : rRole r = 3) : SendOk r := by
  obtain ⟨h1, _, _, _, _, _, _, _, h9⟩ := raftO_out h
  obtain ⟨⟨g1, g2⟩, _⟩ := roleO_lead h9 hr
  exact ⟨h1, raftO_log h, g1, g2⟩
theorem sendsM_z {r : RaftT} (h : ofOk (rOf r) = true) : OutZ (sendsM r) := by
  have hof := ofOk_iff.1 h
  refine ⟨by have := sendsF_len r (rOf r).toNat 0; unfold sendsM; omega, fun o ho => ?_⟩
  obtain ⟨k, _, _, _, rfl⟩ := sendsF_mem r _ _ o ho
  simp only [sendM, List.length_take]
  omega
/-! ### The kind of a node -/
abbrev EntK : K := .pair (.int .i64) (.pair (.int .i64) (.pair (.int .i64) (.pair (.int .i64) (.pair (.int .i64) .str))))
abbrev RaftK : K := .pair (.int .i64) (.pair (.int .i64) (.pair (.int .i64) (.pair (.int .i64) (.pair (.pair (.int .i64) (.pair (.int .i64) (.list EntK))) (.pair (.list (.int .i64)) (.pair (.list (.int .i64)) (.list (.int .i64))))))))
theorem wfRaft (r : RaftK.T) (h : WfK RaftK r) : RaftM r := by
  have hr : reachBytes ≤ 140737488355328 := by decide
  obtain ⟨_, _, _, _, ⟨_, _, h1, h2⟩, ⟨h3, _⟩, ⟨h4, _⟩, ⟨h5, _⟩⟩ := h
  refine ⟨⟨Nat.le_trans h1 hr, fun e he => ?_⟩, Nat.le_trans h3 hr, Nat.le_trans h4 hr, Nat.le_trans h5 hr⟩
  obtain ⟨_, _, _, _, _, h6⟩ := h2 e he
  exact Nat.le_trans h6 hr
end Go.TM


/- Steps of a node: what each part does, on both sides. -/
set_option linter.unusedVariables false
set_option linter.unusedSimpArgs false
set_option linter.unusedSectionVars false
set_option maxRecDepth 10000
namespace Go.TM
open Go

def noRaft : RaftT := (0, 0, 0, 0, (0, 0, []), [], [], [])
def sameO (r : RaftT) : RaftT := bif raftO r then r else noRaft
theorem noRaft_z : RaftZ noRaft := ⟨by decide, by decide, by decide, by decide⟩
theorem sameO_z {r : RaftT} (h : RaftZ r) : RaftZ (sameO r) := by
  unfold sameO
  cases raftO r
  · exact noRaft_z
  · exact h
def recV (r : RaftT) : RecT := (1, (rHard r).1, (rHard r).2.1, 0, 0, 0, 0, 0, 0, ⟨#[]⟩)
def recP (n : Int) (e : EntT) : RecT := (2, 0, 0, n, e)
def putO (r : RaftT) (e : EntT) : RaftT := (r.1, rOf r, rRole r, rCom r, ((rHard r).1, (rHard r).2.1, rLog r ++ [e]), rYes r, rNext r, rMat r)
def hadO (r : RaftT) : RaftT := (r.1, rOf r, rRole r, bif decide (rOf r = 1) then rEnd r else rCom r, rHard r, rYes r, rNext r, (rMat r).set r.1.toNat (rEnd r))
theorem impl_none_eq (x was : RaftT) (recs : List RecT) (outs : List OutT) (h : RaftS was) : impl_stepper_none (x, was, recs, outs) = some (sameO was, [], [], (x, was, recs, outs)) := by
  rw [impl_stepper_none_def]
  unfold sameO
  simp only [impl_stepper_none_d, impl_stepper_none_be, impl_stepper_none_r, impl_RaftOk_eq was h, copyRaft_eq was h, some_bind']
  cases raftO was <;> rfl
theorem impl_put_eq (r was : RaftT) (recs : List RecT) (outs : List OutT) (e : EntT) (h1 : (rLog r).length ≤ 1048576) (h2 : recs.length ≤ 1048576) : impl_stepper_put (r, was, recs, outs) e = some (putO r e, was, recs ++ [recP (rEnd r + 1) e], outs) := by
  rw [impl_stepper_put_def]
  have d1 : decide (((rLog r).length + ([e] : List EntT).length) * 56 ≤ 140737488355328) = true := dlc (by simp; omega)
  have d2 : ∀ q : RecT, decide ((recs.length + ([q] : List RecT).length) * 88 ≤ 140737488355328) = true := fun q => dlc (by simp; omega)
  have hl : ((rLog r ++ [e]).length : Int) = rEnd r + 1 := by simp
  simp only [impl_stepper_put_d, impl_stepper_put_be, impl_stepper_put_r, d1, d2, cond_true, hl]
  rfl
theorem impl_had_eq (r was : RaftT) (recs : List RecT) (outs : List OutT) (h0 : 0 ≤ r.1) (h1 : r.1 < ((rMat r).length : Int)) : impl_stepper_had (r, was, recs, outs) = some (hadO r, was, recs, outs) := by
  rw [impl_stepper_had_def]
  obtain ⟨v, hv, _⟩ := idx_get h0 h1
  unfold hadO
  simp only [impl_stepper_had_d, impl_stepper_had_be, impl_stepper_had_r, decide_eq_true h0, decide_eq_true h1, Bool.and_self, cond_true, hv, some_bind']
  cases decide (rOf r = 1) <;> rfl
def endR (r was : RaftT) (recs : List RecT) : List RecT := bif decide ((rHard r).1 = (rHard was).1) && decide ((rHard r).2.1 = (rHard was).2.1) then recs else recV r :: recs
theorem impl_end_eq (r was : RaftT) (recs : List RecT) (outs : List OutT) (h : recs.length ≤ 1048576) : impl_stepper_end (r, was, recs, outs) = some (r, endR r was recs, outs) := by
  rw [impl_stepper_end_def]
  have d2 : ∀ q : RecT, decide ((([q] : List RecT).length + recs.length) * 88 ≤ 140737488355328) = true := fun q => dlc (by simp; omega)
  unfold endR
  simp only [impl_stepper_end_d, impl_stepper_end_be, impl_stepper_end_r, d2, cond_true]
  cases decide ((rHard r).1 = (rHard was).1) <;> cases decide ((rHard r).2.1 = (rHard was).2.1) <;> rfl
theorem spec_l10Copy_eq (r : RaftT) (h : RaftS r) : spec_l10Copy r = some r := by
  obtain ⟨h1, h2, h3, h4⟩ := h
  rw [spec_l10Copy_def]
  have d1 : decide ((([] : List EntT).length + (rLog r).length) * 56 ≤ 140737488355328) = true := dlc (by simp; omega)
  have d2 : decide ((([] : List Int).length + (rYes r).length) * 8 ≤ 140737488355328) = true := dlc (by simp; omega)
  have d3 : decide ((([] : List Int).length + (rNext r).length) * 8 ≤ 140737488355328) = true := dlc (by simp; omega)
  have d4 : decide ((([] : List Int).length + (rMat r).length) * 8 ≤ 140737488355328) = true := dlc (by simp; omega)
  simp only [spec_l10Copy_d, spec_l10Copy_be, spec_l10Copy_r, spec_l6Copy_def, spec_l6Copy_d, spec_l6Copy_be, spec_l6Copy_r, d1, d2, d3, d4, cond_true, some_bind', List.nil_append]
theorem spec_l10Same_eq (r : RaftT) (h : RaftS r) : spec_l10Same r = some (sameO r) := by
  rw [spec_l10Same_def]
  unfold sameO
  simp only [spec_l10Same_d, spec_l10Same_be, spec_l10Same_r, spec_RaftOk_eq r h, spec_l10Copy_eq r h, some_bind']
  cases raftO r <;> rfl
theorem spec_l10Put_eq (r : RaftT) (e : EntT) (recs : List RecT) (h1 : (rLog r).length ≤ 1048576) (h2 : recs.length ≤ 1048576) : spec_l10Put r e recs = some (putO r e, recs ++ [recP (rEnd r + 1) e]) := by
  rw [spec_l10Put_def]
  have d0 : decide ((([] : List EntT).length + (rLog r).length) * 56 ≤ 140737488355328) = true := dlc (by simp; omega)
  have d1 : decide (((rLog r).length + ([e] : List EntT).length) * 56 ≤ 140737488355328) = true := dlc (by simp; omega)
  have d2 : ∀ q : RecT, decide ((recs.length + ([q] : List RecT).length) * 88 ≤ 140737488355328) = true := fun q => dlc (by simp; omega)
  have hl : rEnd (r.1, rOf r, rRole r, rCom r, ((rHard r).1, (rHard r).2.1, rLog r ++ [e]), rYes r, rNext r, rMat r) = rEnd r + 1 := by simp [rEnd]
  simp only [spec_l10Put_d, spec_l10Put_be, spec_l10Put_r, d0, cond_true, List.nil_append, d1, spec_l10End_eq, some_bind', d2]
  rw [show recP (rEnd r + 1) e = (2, 0, 0, rEnd r + 1, e) from rfl, ← hl]
  rfl
theorem hadO_send {r : RaftT} (h : SendOk r) : SendOk (hadO r) := h
theorem putO_send {r : RaftT} (h : SendOk r) (hl : (rLog r).length < 80) (e : EntT) : SendOk (putO r e) := by
  obtain ⟨h1, h2, h3, h4⟩ := h
  have e1 : rLog (putO r e) = rLog r ++ [e] := rfl
  have e2 : rEnd (putO r e) = rEnd r + 1 := by simp [rEnd, putO]
  refine ⟨h1, by rw [e1]; simp; omega, h3, fun v hv => ?_⟩
  have := h4 v hv
  rw [e2]; omega

/-! ### Proposing -/
def propM (r : RaftT) (c : CmdT) : RaftT × List RecT × List OutT × Bool :=
  bif raftO r && (decide (rRole r = 3) && (cmdOk c && decide (rEnd r < 80))) then (hadO (putO r ((rHard r).1, c)), [recP (rEnd r + 1) ((rHard r).1, c)], sendsM (hadO (putO r ((rHard r).1, c))), true) else (sameO r, [], [], false)
theorem impl_RaftPropose_eq (r : RaftT) (c : CmdT) (hs : RaftS r) : impl_RaftPropose r c = some (propM r c) := by
  rw [impl_RaftPropose_def]
  unfold propM
  simp only [impl_RaftPropose_d, impl_RaftPropose_be, impl_RaftPropose_r, stepOf_eq r hs, impl_RaftOk_eq r hs, some_bind', impl_none_eq r r [] [] hs, impl_CmdOk_eq]
  cases h : raftO r with
  | false => rfl
  | true =>
    by_cases h3 : rRole r = 3
    · cases h4 : cmdOk c with
      | false => simp only [decide_eq_true h3, Bool.not_true, Bool.not_false, cond_true, cond_false, Bool.true_and, Bool.false_and, Bool.and_false]
      | true =>
        by_cases h5 : rEnd r < 80
        · have d : decide (rEnd r ≥ 80) = false := decide_eq_false (by omega)
          obtain ⟨g1, g2, _, _, _, _, _, _, g9⟩ := raftO_out h
          obtain ⟨_, g10, _⟩ := roleO_lead g9 h3
          have hlog := raftO_log h
          have hm : r.1 < ((rMat (putO r ((rHard r).1, c))).length : Int) := by
            have : rMat (putO r ((rHard r).1, c)) = rMat r := rfl
            rw [this]; omega
          have hsend := hadO_send (putO_send (raftO_send h h3) (by have : rEnd r = ((rLog r).length : Int) := rfl; omega) ((rHard r).1, c))
          have hend : endR (hadO (putO r ((rHard r).1, c))) r [recP (rEnd r + 1) ((rHard r).1, c)] = [recP (rEnd r + 1) ((rHard r).1, c)] := by
            unfold endR
            have e1 : (rHard (hadO (putO r ((rHard r).1, c)))).1 = (rHard r).1 := rfl
            have e2 : (rHard (hadO (putO r ((rHard r).1, c)))).2.1 = (rHard r).2.1 := rfl
            rw [e1, e2, decide_eq_true rfl, decide_eq_true rfl]; rfl
          simp only [decide_eq_true h3, decide_eq_true h5, d, Bool.not_true, cond_true, cond_false, Bool.and_self, impl_put_eq r r [] [] ((rHard r).1, c) (by omega) (by simp), List.nil_append, some_bind', impl_had_eq (putO r ((rHard r).1, c)) r _ _ g2.1 hm, impl_sendAll_eq (hadO (putO r ((rHard r).1, c))) r [recP (rEnd r + 1) ((rHard r).1, c)] [] hsend (by simp), impl_end_eq (hadO (putO r ((rHard r).1, c))) r [recP (rEnd r + 1) ((rHard r).1, c)] _ (by simp), hend]
        · have d : decide (rEnd r ≥ 80) = true := decide_eq_true (by omega)
          simp only [decide_eq_true h3, decide_eq_false h5, d, Bool.not_true, cond_true, cond_false, Bool.true_and, Bool.and_false]
    · simp only [decide_eq_false h3, Bool.not_true, Bool.not_false, cond_true, cond_false, Bool.true_and, Bool.false_and, Bool.and_false]
theorem spec_RaftPropose_eq (r : RaftT) (c : CmdT) (hs : RaftS r) : spec_RaftPropose r c = some (propM r c) := by
  rw [spec_RaftPropose_def]
  unfold propM
  simp only [spec_RaftPropose_d, spec_RaftPropose_be, spec_RaftPropose_r, spec_l10Same_eq r hs, spec_RaftOk_eq r hs, some_bind', spec_CmdOk_eq, spec_l10End_eq]
  cases h : raftO r with
  | false => rfl
  | true =>
    by_cases h3 : rRole r = 3
    · cases h4 : cmdOk c with
      | false => simp only [decide_eq_true h3, Bool.not_true, Bool.not_false, cond_true, cond_false, Bool.true_and, Bool.false_and, Bool.and_false]
      | true =>
        have hlog := raftO_log h
        by_cases h5 : rEnd r < 80
        · have d : decide (rEnd r = 80) = false := decide_eq_false (by omega)
          obtain ⟨g1, g2, _, _, _, _, _, _, g9⟩ := raftO_out h
          obtain ⟨_, g10, _⟩ := roleO_lead g9 h3
          have hsame : sameO r = r := by unfold sameO; rw [h]; rfl
          have hm : r.1 < ((rMat (putO r ((rHard r).1, c))).length : Int) := by
            have : rMat (putO r ((rHard r).1, c)) = rMat r := rfl
            rw [this]; omega
          obtain ⟨v, hv, _⟩ := idx_get g2.1 hm
          have hsend := hadO_send (putO_send (raftO_send h h3) (by have : rEnd r = ((rLog r).length : Int) := rfl; omega) ((rHard r).1, c))
          have hq := spec_sendAll_eq _ hsend
          unfold hadO at hq ⊢
          simp only [decide_eq_true h3, decide_eq_true h5, d, Bool.not_true, cond_true, cond_false, Bool.and_self, hsame, spec_l10Put_eq r ((rHard r).1, c) [] (by omega) (by simp), List.nil_append, some_bind', decide_eq_true g2.1, decide_eq_true hm, hv]
          have e1 : rOf (putO r ((rHard r).1, c)) = rOf r := rfl
          rw [e1] at hq ⊢
          cases hof : decide (rOf r = 1) with
          | true =>
            rw [hof] at hq
            simp only [cond_true] at hq ⊢
            exact congrArg (fun z : Option (List OutT) => z.bind fun t => some (_, _, t, true)) hq
          | false =>
            rw [hof] at hq
            simp only [cond_false] at hq ⊢
            exact congrArg (fun z : Option (List OutT) => z.bind fun t => some (_, _, t, true)) hq
        · have d : decide (rEnd r = 80) = true := decide_eq_true (by have : rEnd r = ((rLog r).length : Int) := rfl; omega)
          simp only [decide_eq_true h3, decide_eq_false h5, d, Bool.not_true, cond_true, cond_false, Bool.true_and, Bool.and_false]
    · simp only [decide_eq_false h3, Bool.not_true, Bool.not_false, cond_true, cond_false, Bool.true_and, Bool.false_and, Bool.and_false]
end Go.TM


/- RaftPropose: the program's and the reference's say the same of every node and command. -/
set_option linter.unusedVariables false
set_option linter.unusedSimpArgs false
set_option linter.unusedSectionVars false
set_option maxRecDepth 10000
namespace Go.TM
open Go

theorem propM_z (r : RaftT) (hs : RaftS r) (c : CmdT) : RaftZ (propM r c).1 ∧ (propM r c).2.1.length ≤ 1000 ∧ OutZ (propM r c).2.2.1 := by
  unfold propM
  cases h : raftO r && (decide (rRole r = 3) && (cmdOk c && decide (rEnd r < 80))) with
  | false => exact ⟨sameO_z hs.z, by simp, by simp, fun o ho => by cases ho⟩
  | true =>
    simp only [Bool.and_eq_true, decide_eq_true_eq] at h
    obtain ⟨h1, h2, h3, h4⟩ := h
    have hl := raftO_log h1
    refine ⟨⟨?_, hs.z.2.1, hs.z.2.2.1, ?_⟩, by simp, sendsM_z (raftO_out h1).1⟩
    · show (rLog r ++ [((rHard r).1, c)]).length ≤ 1048576
      simp; omega
    · show ((rMat r).set r.1.toNat _).length ≤ 2000000
      rw [List.length_set]; exact hs.z.2.2.2
abbrev CmdK : K := .pair (.int .i64) (.pair (.int .i64) (.pair (.int .i64) (.pair (.int .i64) .str)))
theorem pure_FnExactRaftPropose (x0 : RaftK.T) (x1 : CmdK.T) (h : WfK RaftK x0) (h' : WfK CmdK x1) : laws_FnExactRaftPropose x0 x1 = some true := by
  have hm := wfRaft x0 h
  have hr : reachBytes ≤ 140737488355328 := by decide
  have hc : x1.2.2.2.2.size ≤ 140737488355328 := by
    obtain ⟨_, _, _, _, h6⟩ := h'
    exact Nat.le_trans h6 hr
  obtain ⟨t, e1, ht⟩ := laws_szRaft_eq x0 hm 1048576 (by omega)
  rw [laws_FnExactRaftPropose_def]
  simp only [laws_FnExactRaftPropose_d, laws_FnExactRaftPropose_be, laws_FnExactRaftPropose_r, e1, some_bind']
  rcases ht with rfl | ⟨h0, hle, hs⟩
  · rfl
  · have d0 : decide (t < 0) = false := decide_eq_false (by omega)
    have e2 := laws_szCmd_eq x1 t (by omega) hc
    simp only [d0, cond_false, e2, some_bind']
    by_cases hlt : t - (x1.2.2.2.2.size : Int) < 0
    · rw [if_pos hlt]; rfl
    · rw [if_neg hlt, decide_eq_false hlt]
      obtain ⟨z1, z2, z3⟩ := propM_z x0 hs x1
      obtain ⟨k1, r1, q1, q2, q3, q4, q5⟩ := laws_markRaft_some x0 hs.z 1 (by omega)
      obtain ⟨k2, r2, p1, p2, p3, p4, pe⟩ := laws_markRaft_some (propM x0 x1).1 z1 1 (by omega)
      have p5 := laws_markRecS_eq (propM x0 x1).2.1 k2 (by omega) (by omega)
      have p6 := laws_heldRecS_marked (propM x0 x1).2.1 k2 (by omega) (by omega)
      have p7 := mapSt_gR (propM x0 x1).2.1 k2
      have p8 := laws_markOutS_eq (propM x0 x1).2.2.1 (mapSt gR (propM x0 x1).2.1 k2).2 z3 (by omega)
      have p9 := laws_heldOutS_marked (propM x0 x1).2.2.1 (mapSt gR (propM x0 x1).2.1 k2).2 z3 (by omega)
      obtain ⟨m1, m2⟩ := z3.marks (k := (mapSt gR (propM x0 x1).2.1 k2).2) (by omega)
      have d1 : decide (k1 < 0) = false := decide_eq_false (by omega)
      have d2 : decide (k2 < 0) = false := decide_eq_false (by omega)
      have d3 : decide ((mapSt gR (propM x0 x1).2.1 k2).2 < 0) = false := decide_eq_false (by omega)
      have d4 : decide ((mapSt gO (propM x0 x1).2.2.1 (mapSt gR (propM x0 x1).2.1 k2).2).2 < 0) = false := decide_eq_false (by omega)
      simp only [cond_false, laws_toRaft_eq x0 hs, laws_toCmd_eq, spec_RaftPropose_eq x0 x1 hs, impl_RaftPropose_eq x0 x1 hs, some_bind', laws_eqRaft_refl (propM x0 x1).1 z1, laws_eqRecS_refl (propM x0 x1).2.1 (by omega), laws_eqOutS_refl (propM x0 x1).2.2.1 z3, Bool.not_true, beq_self_eq_true, laws_eqRaft_refl x0 hs.z, q1, d1, p1, pe, p2, p5, p6, p8, p9, d2, d3, d4, decide_true]
end Go.TM

