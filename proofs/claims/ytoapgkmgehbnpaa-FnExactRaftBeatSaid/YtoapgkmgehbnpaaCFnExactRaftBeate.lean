/- Part 5 of the proof that the law FnExactRaftBeat holds of the program: words, the data machine and its soundness, the program's functions as pure functions, and the plain law; no condition is added. -/
import Derived.Test.YtoapgkmgehbnpaaCFnExactRaftBeatd
/- What a node sends: both sides say the same. -/
set_option linter.unusedVariables false
set_option linter.unusedSimpArgs false
set_option linter.unusedSectionVars false
set_option maxRecDepth 10000
namespace Go.TM
open Go

theorem copyLog_eq (l : List EntT) (h : l.length ≤ 1048576) : impl_copyLog l = some l := by
  rw [impl_copyLog_def]
  have d : decide ((([] : List EntT).length + l.length) * 56 ≤ 140737488355328) = true := dlc (by simp; omega)
  simp only [impl_copyLog_d, impl_copyLog_be, impl_copyLog_r, d, cond_true, List.nil_append]
theorem copyInts_eq (l : List Int) (h : l.length ≤ 1048576) : impl_copyInts l = some l := by
  rw [impl_copyInts_def]
  have d : decide ((([] : List Int).length + l.length) * 8 ≤ 140737488355328) = true := dlc (by simp; omega)
  simp only [impl_copyInts_d, impl_copyInts_be, impl_copyInts_r, d, cond_true, List.nil_append]
theorem copyRaft_eq (r : RaftT) (h : RaftS r) : impl_copyRaft r = some r := by
  obtain ⟨h1, h2, h3, h4⟩ := h
  rw [impl_copyRaft_def]
  simp only [impl_copyRaft_d, impl_copyRaft_be, impl_copyRaft_r, impl_copyHard_def, impl_copyHard_d, impl_copyHard_be, impl_copyHard_r, copyLog_eq (rLog r) h1, copyInts_eq (rYes r) h2, copyInts_eq (rNext r) h3, copyInts_eq (rMat r) h4, some_bind']
theorem stepOf_eq (r : RaftT) (h : RaftS r) : impl_stepOf r = some (r, r, [], []) := by
  rw [impl_stepOf_def]
  simp only [impl_stepOf_d, impl_stepOf_be, impl_stepOf_r, copyRaft_eq r h, some_bind']
theorem spec_l1Min_eq (a b : Int) : spec_l1Min a b = some (min a b) := by
  rw [spec_l1Min_def]
  simp only [spec_l1Min_d, spec_l1Min_be, spec_l1Min_r]
  by_cases h : a < b
  · rw [decide_eq_true h, cond_true]; congr 1; omega
  · rw [decide_eq_false h, cond_false]; congr 1; omega
theorem mnI_eq (a b : Int) : mnI a b = min a b := by
  unfold mnI
  by_cases h : b < a
  · rw [decide_eq_true h, cond_true]; omega
  · rw [decide_eq_false h, cond_false]; omega
/-! ### Terms of entries -/
def termL (l : List EntT) : Nat → Int
  | 0 => 0
  | k + 1 => match l[k]? with
    | some e => e.1
    | none => 0
theorem termAt_eq (l : List EntT) (k : Nat) (hk : k ≤ l.length) (hl : l.length ≤ 1048576) : impl_termAt l (k : Int) = some (termL l k) := by
  rw [impl_termAt_def]
  match k, hk with
  | 0, _ => rfl
  | k + 1, hk =>
    have d : decide (((k + 1 : Nat) : Int) = 0) = false := decide_eq_false (by omega)
    have w : wr .i64 (((k + 1 : Nat) : Int) - 1) = (k : Int) := by rw [wr64 (by omega)]; omega
    obtain ⟨v, hv⟩ : ∃ v, l[k]? = some v := ⟨l[k], List.getElem?_eq_getElem (by omega)⟩
    simp only [impl_termAt_d, impl_termAt_be, impl_termAt_r, d, cond_false, w, idx_nat, hv, some_bind', termL]
theorem spec_l10Term_eq (h : HardT) (k : Nat) (hk : k ≤ h.2.2.length) (hl : h.2.2.length ≤ 1048576) : spec_l10Term h (k : Int) = some (termL h.2.2 k) := by
  rw [spec_l10Term_def]
  match k, hk with
  | 0, _ => rfl
  | k + 1, hk =>
    have d : decide (((k + 1 : Nat) : Int) < 1) = false := decide_eq_false (by omega)
    have d2 : decide (((k + 1 : Nat) : Int) > (h.2.2.length : Int)) = false := decide_eq_false (by omega)
    have w : wr .i64 (((k + 1 : Nat) : Int) - 1) = (k : Int) := by rw [wr64 (by omega)]; omega
    obtain ⟨v, hv⟩ : ∃ v, h.2.2[k]? = some v := ⟨h.2.2[k], List.getElem?_eq_getElem (by omega)⟩
    simp only [spec_l10Term_d, spec_l10Term_be, spec_l10Term_r, d, d2, cond_false, w, idx_nat, hv, some_bind', termL]
theorem lastTerm_eq (l : List EntT) (hl : l.length ≤ 1048576) : impl_lastTerm l = some (termL l l.length) := by
  rw [impl_lastTerm_def]
  by_cases hz : l.length = 0
  · have d : decide ((l.length : Int) = 0) = true := decide_eq_true (by omega)
    have e : termL l l.length = 0 := by rw [hz]; rfl
    rw [e]
    simp only [impl_lastTerm_d, impl_lastTerm_be, impl_lastTerm_r, d, cond_true]
  · have d : decide ((l.length : Int) = 0) = false := decide_eq_false (by omega)
    obtain ⟨k, hk⟩ : ∃ k, l.length = k + 1 := ⟨l.length - 1, by omega⟩
    have w : wr .i64 ((l.length : Int) - 1) = (k : Int) := by rw [wr64 (by omega)]; omega
    obtain ⟨v, hv⟩ : ∃ v, l[k]? = some v := ⟨l[k], List.getElem?_eq_getElem (by omega)⟩
    have e : termL l l.length = v.1 := by rw [hk]; simp only [termL, hv]
    rw [e]
    simp only [impl_lastTerm_d, impl_lastTerm_be, impl_lastTerm_r, d, cond_false, w, idx_nat, hv, some_bind']

/-! ### Sending -/
def SendOk (r : RaftT) : Prop := ofOk (rOf r) = true ∧ (rLog r).length ≤ 80 ∧ ((rNext r).length : Int) = rOf r ∧ ∀ v, v ∈ rNext r → 1 ≤ v ∧ v ≤ rEnd r + 1
abbrev noCmd : CmdT := (0, 0, 0, 0, ⟨#[]⟩)
def atOf (r : RaftT) (i : Nat) : Nat := ((rNext r)[i]?.getD 1).toNat - 1
def sendM (r : RaftT) (i : Nat) : OutT := ((i : Int), 3, r.1, (rHard r).1, (atOf r i : Int), termL (rLog r) (atOf r i), rCom r, false, 0, 0, ⟨#[]⟩, noCmd, ((rLog r).drop (atOf r i)).take 6)
def sendsF (r : RaftT) : Nat → Nat → List OutT
  | 0, _ => []
  | j + 1, i => (if (i : Int) = r.1 then [] else [sendM r i]) ++ sendsF r j (i + 1)
theorem sendsF_len (r : RaftT) : ∀ j i, (sendsF r j i).length ≤ j
  | 0, _ => Nat.le_refl _
  | j + 1, i => by
    have := sendsF_len r j (i + 1)
    rw [sendsF, List.length_append]
    split
    · simp; omega
    · simp; omega
theorem sendsF_mem (r : RaftT) : ∀ j i o, o ∈ sendsF r j i → ∃ k, i ≤ k ∧ k < i + j ∧ (k : Int) ≠ r.1 ∧ o = sendM r k
  | 0, i, o, ho => by cases ho
  | j + 1, i, o, ho => by
    rw [sendsF] at ho
    rcases List.mem_append.1 ho with ho | ho
    · split at ho
      · cases ho
      · rename_i h; exact ⟨i, Nat.le_refl _, by omega, h, List.mem_singleton.1 ho⟩
    · obtain ⟨k, h1, h2, h3, h4⟩ := sendsF_mem r j (i + 1) o ho
      exact ⟨k, by omega, by omega, h3, h4⟩
def sendsM (r : RaftT) : List OutT := sendsF r (rOf r).toNat 0
theorem atOf_ok {r : RaftT} (h : SendOk r) {i : Nat} (hi : (i : Int) < rOf r) : (rNext r)[i]? = some ((atOf r i : Int) + 1) ∧ atOf r i ≤ (rLog r).length := by
  obtain ⟨h1, h2, h3, h4⟩ := h
  have hlt : i < (rNext r).length := by omega
  have e : (rNext r)[i]? = some (rNext r)[i] := List.getElem?_eq_getElem hlt
  have hm := h4 _ (List.mem_of_getElem? e)
  have he : rEnd r = ((rLog r).length : Int) := rfl
  unfold atOf
  rw [e]
  simp only [Option.getD_some]
  refine ⟨?_, by omega⟩
  congr 1
  omega
theorem cut6 (l : List EntT) (a : Nat) (ha : a ≤ l.length) : (l.drop a).take ((min ((a : Int) + 6) (l.length : Int) - (a : Int) : Int).toNat) = (l.drop a).take 6 := by
  rw [List.take_eq_take_iff, List.length_drop]
  omega
theorem cut6' (l : List EntT) (a : Nat) (ha : a ≤ l.length) : (l.take (min ((a : Int) + 6) (l.length : Int)).toNat).drop (a : Int).toNat = (l.drop a).take 6 := by
  rw [Int.toNat_natCast, List.drop_take, List.take_eq_take_iff, List.length_drop]
  omega
theorem impl_send_eq (r was : RaftT) (recs : List RecT) (outs : List OutT) (h : SendOk r) (i : Nat) (hi : (i : Int) < rOf r) (ho : outs.length ≤ 100000) : impl_stepper_send (r, was, recs, outs) (i : Int) = some (r, was, recs, outs ++ [sendM r i]) := by
  obtain ⟨g1, g2⟩ := atOf_ok h hi
  obtain ⟨h1, h2, h3, h4⟩ := h
  have d1 : decide (0 ≤ (i : Int)) = true := decide_eq_true (by omega)
  have d2 : decide ((i : Int) < ((rNext r).length : Int)) = true := decide_eq_true (by omega)
  have w1 : wr .i64 (((atOf r i : Nat) : Int) + 1 - 1) = ((atOf r i : Nat) : Int) := by rw [wr64 (by omega)]; omega
  have w2 : wr .i64 (((atOf r i : Nat) : Int) + 6) = ((atOf r i : Nat) : Int) + 6 := wr64 (by omega)
  have d3 : decide (0 ≤ ((atOf r i : Nat) : Int)) = true := decide_eq_true (by omega)
  have d4 : decide (((atOf r i : Nat) : Int) ≤ min (((atOf r i : Nat) : Int) + 6) ((rLog r).length : Int)) = true := decide_eq_true (by omega)
  have d5 : decide (min (((atOf r i : Nat) : Int) + 6) ((rLog r).length : Int) ≤ ((rLog r).length : Int)) = true := decide_eq_true (by omega)
  have d6 : ∀ o : OutT, decide ((outs.length + ([o] : List OutT).length) * 168 ≤ 140737488355328) = true := fun o => dlc (by simp; omega)
  have c := cut6 (rLog r) (atOf r i) g2
  rw [impl_stepper_send_def]
  simp only [impl_stepper_send_d, impl_stepper_send_be, impl_stepper_send_r, impl_stepper_message_def, impl_stepper_message_d, impl_stepper_message_be, impl_stepper_message_r, some_bind', d1, d2, Bool.and_self, cond_true, idx_nat, g1, w1, w2, termAt_eq (rLog r) (atOf r i) g2 (by omega), mnI_eq, d3, d4, d5, Int.toNat_natCast, c, copyLog_eq (((rLog r).drop (atOf r i)).take 6) (by rw [List.length_take]; omega), d6]
  rfl
theorem spec_send_eq (r : RaftT) (h : SendOk r) (i : Nat) (hi : (i : Int) < rOf r) : spec_l10Send r (i : Int) = some (sendM r i) := by
  obtain ⟨g1, g2⟩ := atOf_ok h hi
  obtain ⟨h1, h2, h3, h4⟩ := h
  have he : rEnd r = ((rLog r).length : Int) := rfl
  have w1 : wr .i64 (((atOf r i : Nat) : Int) + 1 - 1) = ((atOf r i : Nat) : Int) := by rw [wr64 (by omega)]; omega
  have w2 : wr .i64 (((atOf r i : Nat) : Int) + 6) = ((atOf r i : Nat) : Int) + 6 := wr64 (by omega)
  have d3 : decide (0 ≤ ((atOf r i : Nat) : Int)) = true := decide_eq_true (by omega)
  have d4 : decide (((atOf r i : Nat) : Int) ≤ min (((atOf r i : Nat) : Int) + 6) (rEnd r)) = true := decide_eq_true (by omega)
  have d5 : decide (min (((atOf r i : Nat) : Int) + 6) (rEnd r) ≤ ((rLog r).length : Int)) = true := decide_eq_true (by omega)
  have c := cut6' (rLog r) (atOf r i) g2
  have d6 : decide ((([] : List EntT).length + (((rLog r).drop (atOf r i)).take 6).length) * 56 ≤ 140737488355328) = true := dlc (by simp only [List.length_take, List.length_nil]; omega)
  rw [spec_l10Send_def]
  simp only [spec_l10Send_d, spec_l10Send_be, spec_l10Send_r, some_bind', idx_nat, g1, w1, w2, spec_l10Term_eq (rHard r) (atOf r i) g2 (by have : (rHard r).2.2.length = (rLog r).length := rfl; omega), spec_l10End_eq, spec_l1Min_eq, d3, d4, d5, Bool.and_self, cond_true]
  simp only [he, c, d6, cond_true, List.nil_append]
  rfl
theorem impl_sendAll_go (r was : RaftT) (recs : List RecT) (h : SendOk r) : ∀ (j i : Nat) (outs : List OutT), (i : Int) + j = rOf r → outs.length ≤ 50000 + i → Ev (fun n => impl_stepper_sendAll_l1 n (r, was, recs, outs) (rOf r) (i : Int)) (r, was, recs, outs ++ sendsF r j i)
  | 0, i, outs, hi, ho => by
    have d : decide ((i : Int) < rOf r) = false := decide_eq_false (by omega)
    rw [sendsF, List.append_nil]
    refine Ev.step (g := fun _ => some (r, was, recs, outs)) (fun n => ?_) Ev.const
    simp only [impl_stepper_sendAll_l1, impl_stepper_sendAll_ls, impl_stepper_sendAll_b1, impl_stepper_sendAll_r, d, cond_false]
  | j + 1, i, outs, hi, ho => by
    have hof := ofOk_iff.1 h.1
    have d : decide ((i : Int) < rOf r) = true := decide_eq_true (by omega)
    have w := wnat i (by omega)
    rw [sendsF]
    by_cases he : (i : Int) = r.1
    · have ih := impl_sendAll_go r was recs h j (i + 1) outs (by omega) (by omega)
      rw [if_pos he, List.nil_append]
      refine Ev.step (fun n => ?_) ih
      simp only [impl_stepper_sendAll_l1, impl_stepper_sendAll_ls, impl_stepper_sendAll_b1, impl_stepper_sendAll_r, d, cond_true, decide_eq_true he, Bool.not_true, cond_false, w]
    · have ih := impl_sendAll_go r was recs h j (i + 1) (outs ++ [sendM r i]) (by omega) (by simp; omega)
      rw [if_neg he, ← List.append_assoc]
      refine Ev.step (fun n => ?_) ih
      simp only [impl_stepper_sendAll_l1, impl_stepper_sendAll_ls, impl_stepper_sendAll_b1, impl_stepper_sendAll_r, d, cond_true, decide_eq_false he, Bool.not_false, impl_send_eq r was recs outs h i (by omega) (by omega), some_bind', w]
theorem impl_sendAll_eq (r was : RaftT) (recs : List RecT) (outs : List OutT) (h : SendOk r) (ho : outs.length ≤ 50000) : impl_stepper_sendAll (r, was, recs, outs) = some (r, was, recs, outs ++ sendsM r) := by
  have hof := ofOk_iff.1 h.1
  rw [impl_stepper_sendAll_def]
  exact lim_ev (Ev.congr (fun n => by simp only [impl_stepper_sendAll_be]; rfl) (impl_sendAll_go r was recs h (rOf r).toNat 0 outs (by omega) (by omega)))
theorem spec_sendAll_go (r : RaftT) (h : SendOk r) : ∀ (j i : Nat) (outs : List OutT), (i : Int) + j = rOf r → outs.length ≤ i → Ev (fun n => spec_l10SendAll_l3 n r outs (i : Int)) (outs ++ sendsF r j i)
  | 0, i, outs, hi, ho => by
    have d : decide ((i : Int) < rOf r) = false := decide_eq_false (by omega)
    rw [sendsF, List.append_nil]
    refine Ev.step (g := fun _ => some outs) (fun n => ?_) Ev.const
    simp only [spec_l10SendAll_l3, spec_l10SendAll_ls, spec_l10SendAll_b3, spec_l10SendAll_r, d, cond_false]
  | j + 1, i, outs, hi, ho => by
    have hof := ofOk_iff.1 h.1
    have d : decide ((i : Int) < rOf r) = true := decide_eq_true (by omega)
    have w := wnat i (by omega)
    rw [sendsF]
    by_cases he : (i : Int) = r.1
    · have ih := spec_sendAll_go r h j (i + 1) outs (by omega) (by omega)
      rw [if_pos he, List.nil_append]
      refine Ev.step (fun n => ?_) ih
      simp only [spec_l10SendAll_l3, spec_l10SendAll_ls, spec_l10SendAll_b3, spec_l10SendAll_r, d, cond_true, decide_eq_true he, Bool.not_true, cond_false, w]
    · have ih := spec_sendAll_go r h j (i + 1) (outs ++ [sendM r i]) (by omega) (by simp; omega)
      have d2 : decide ((outs.length + ([sendM r i] : List OutT).length) * 168 ≤ 140737488355328) = true := dlc (by simp; omega)
      rw [if_neg he, ← List.append_assoc]
      refine Ev.step (fun n => ?_) ih
      simp only [spec_l10SendAll_l3, spec_l10SendAll_ls, spec_l10SendAll_b3, spec_l10SendAll_r, d, cond_true, decide_eq_false he, Bool.not_false, spec_send_eq r h i (by omega), some_bind', d2, w]
theorem spec_sendAll_eq (r : RaftT) (h : SendOk r) : spec_l10SendAll r = some (sendsM r) := by
  have hof := ofOk_iff.1 h.1
  rw [spec_l10SendAll_def]
  have := spec_sendAll_go r h (rOf r).toNat 0 [] (by omega) (by simp)
  rw [List.nil_append] at this
  exact lim_ev (Ev.congr (fun n => by simp only [spec_l10SendAll_be]; rfl) this)

/-! ### Asking -/
def askM (r : RaftT) (i : Nat) : OutT := ((i : Int), 1, r.1, (rHard r).1, rEnd r, termL (rLog r) (rLog r).length, 0, false, 0, 0, ⟨#[]⟩, noCmd, [])
def asksF (r : RaftT) : Nat → Nat → List OutT
  | 0, _ => []
  | j + 1, i => (if (i : Int) = r.1 then [] else if hasI (rYes r) (i : Int) then [] else [askM r i]) ++ asksF r j (i + 1)
theorem asksF_len (r : RaftT) : ∀ j i, (asksF r j i).length ≤ j
  | 0, _ => Nat.le_refl _
  | j + 1, i => by
    have := asksF_len r j (i + 1)
    rw [asksF, List.length_append]
    split
    · simp; omega
    · split
      · simp; omega
      · simp; omega
theorem asksF_mem (r : RaftT) : ∀ j i o, o ∈ asksF r j i → ∃ k, i ≤ k ∧ k < i + j ∧ (k : Int) ≠ r.1 ∧ o = askM r k
  | 0, i, o, ho => by cases ho
  | j + 1, i, o, ho => by
    rw [asksF] at ho
    rcases List.mem_append.1 ho with ho | ho
    · split at ho
      · cases ho
      · rename_i h
        split at ho
        · cases ho
        · exact ⟨i, Nat.le_refl _, by omega, h, List.mem_singleton.1 ho⟩
    · obtain ⟨k, h1, h2, h3, h4⟩ := asksF_mem r j (i + 1) o ho
      exact ⟨k, by omega, by omega, h3, h4⟩
def asksM (r : RaftT) : List OutT := asksF r (rOf r).toNat 0
def AskOk (r : RaftT) : Prop := ofOk (rOf r) = true ∧ (rLog r).length ≤ 80 ∧ (rYes r).length ≤ 1048576
theorem impl_ask_go (r was : RaftT) (recs : List RecT) (h : AskOk r) : ∀ (j i : Nat) (outs : List OutT), (i : Int) + j = rOf r → outs.length ≤ 50000 + i → Ev (fun n => impl_stepper_ask_l1 n (r, was, recs, outs) (rOf r) (i : Int)) (r, was, recs, outs ++ asksF r j i)
  | 0, i, outs, hi, ho => by
    have d : decide ((i : Int) < rOf r) = false := decide_eq_false (by omega)
    rw [asksF, List.append_nil]
    refine Ev.step (g := fun _ => some (r, was, recs, outs)) (fun n => ?_) Ev.const
    simp only [impl_stepper_ask_l1, impl_stepper_ask_ls, impl_stepper_ask_b1, impl_stepper_ask_r, d, cond_false]
  | j + 1, i, outs, hi, ho => by
    obtain ⟨h1, h2, h3⟩ := h
    have hof := ofOk_iff.1 h1
    have d : decide ((i : Int) < rOf r) = true := decide_eq_true (by omega)
    have w := wnat i (by omega)
    rw [asksF]
    by_cases he : (i : Int) = r.1
    · have ih := impl_ask_go r was recs ⟨h1, h2, h3⟩ j (i + 1) outs (by omega) (by omega)
      rw [if_pos he, List.nil_append]
      refine Ev.step (fun n => ?_) ih
      simp only [impl_stepper_ask_l1, impl_stepper_ask_ls, impl_stepper_ask_b1, impl_stepper_ask_r, d, cond_true, decide_eq_true he, w]
    · rw [if_neg he]
      cases hh : hasI (rYes r) (i : Int) with
      | true =>
        have ih := impl_ask_go r was recs ⟨h1, h2, h3⟩ j (i + 1) outs (by omega) (by omega)
        rw [if_pos rfl, List.nil_append]
        refine Ev.step (fun n => ?_) ih
        simp only [impl_stepper_ask_l1, impl_stepper_ask_ls, impl_stepper_ask_b1, impl_stepper_ask_r, d, cond_true, decide_eq_false he, cond_false, contains_eq (rYes r) (i : Int) h3, hh, some_bind', w]
      | false =>
        have ih := impl_ask_go r was recs ⟨h1, h2, h3⟩ j (i + 1) (outs ++ [askM r i]) (by omega) (by simp; omega)
        have d6 : ∀ o : OutT, decide ((outs.length + ([o] : List OutT).length) * 168 ≤ 140737488355328) = true := fun o => dlc (by simp; omega)
        rw [if_neg (by simp), ← List.append_assoc]
        refine Ev.step (fun n => ?_) ih
        simp only [impl_stepper_ask_l1, impl_stepper_ask_ls, impl_stepper_ask_b1, impl_stepper_ask_r, d, cond_true, decide_eq_false he, cond_false, contains_eq (rYes r) (i : Int) h3, hh, some_bind', w, impl_stepper_message_def, impl_stepper_message_d, impl_stepper_message_be, impl_stepper_message_r, lastTerm_eq (rLog r) (by omega), d6]
        rfl
theorem impl_ask_eq (r was : RaftT) (recs : List RecT) (outs : List OutT) (h : AskOk r) (ho : outs.length ≤ 50000) : impl_stepper_ask (r, was, recs, outs) = some (r, was, recs, outs ++ asksM r) := by
  have hof := ofOk_iff.1 h.1
  rw [impl_stepper_ask_def]
  exact lim_ev (Ev.congr (fun n => by simp only [impl_stepper_ask_be]; rfl) (impl_ask_go r was recs h (rOf r).toNat 0 outs (by omega) (by omega)))
theorem spec_asks_go (r : RaftT) (h : AskOk r) : ∀ (j i : Nat) (outs : List OutT), (i : Int) + j = rOf r → outs.length ≤ i → Ev (fun n => spec_l10Asks_l3 n r outs (i : Int)) (outs ++ asksF r j i)
  | 0, i, outs, hi, ho => by
    have d : decide ((i : Int) < rOf r) = false := decide_eq_false (by omega)
    rw [asksF, List.append_nil]
    refine Ev.step (g := fun _ => some outs) (fun n => ?_) Ev.const
    simp only [spec_l10Asks_l3, spec_l10Asks_ls, spec_l10Asks_b3, spec_l10Asks_r, d, cond_false]
  | j + 1, i, outs, hi, ho => by
    obtain ⟨h1, h2, h3⟩ := h
    have hof := ofOk_iff.1 h1
    have d : decide ((i : Int) < rOf r) = true := decide_eq_true (by omega)
    have w := wnat i (by omega)
    rw [asksF]
    by_cases he : (i : Int) = r.1
    · have ih := spec_asks_go r ⟨h1, h2, h3⟩ j (i + 1) outs (by omega) (by omega)
      rw [if_pos he, List.nil_append]
      refine Ev.step (fun n => ?_) ih
      simp only [spec_l10Asks_l3, spec_l10Asks_ls, spec_l10Asks_b3, spec_l10Asks_r, d, cond_true, decide_eq_true he, Bool.not_true, cond_false, w]
    · rw [if_neg he]
      cases hh : hasI (rYes r) (i : Int) with
      | true =>
        have ih := spec_asks_go r ⟨h1, h2, h3⟩ j (i + 1) outs (by omega) (by omega)
        rw [if_pos rfl, List.nil_append]
        refine Ev.step (fun n => ?_) ih
        simp only [spec_l10Asks_l3, spec_l10Asks_ls, spec_l10Asks_b3, spec_l10Asks_r, d, cond_true, decide_eq_false he, Bool.not_false, Bool.not_true, cond_false, spec_l7Has_eq (rYes r) (i : Int) h3, hh, some_bind', w]
      | false =>
        have ih := spec_asks_go r ⟨h1, h2, h3⟩ j (i + 1) (outs ++ [askM r i]) (by omega) (by simp; omega)
        have d6 : ∀ o : OutT, decide ((outs.length + ([o] : List OutT).length) * 168 ≤ 140737488355328) = true := fun o => dlc (by simp; omega)
        have ht := spec_l10Term_eq (rHard r) (rLog r).length (Nat.le_refl _) (by have : (rHard r).2.2.length = (rLog r).length := rfl; omega)
        rw [if_neg (by simp), ← List.append_assoc]
        refine Ev.step (fun n => ?_) ih
        simp only [spec_l10Asks_l3, spec_l10Asks_ls, spec_l10Asks_b3, spec_l10Asks_r, d, cond_true, decide_eq_false he, Bool.not_false, cond_false, spec_l7Has_eq (rYes r) (i : Int) h3, hh, some_bind', w, spec_l10End_eq, ht, d6]
        rfl
theorem spec_asks_eq (r : RaftT) (h : AskOk r) : spec_l10Asks r = some (asksM r) := by
  have hof := ofOk_iff.1 h.1
  rw [spec_l10Asks_def]
  have := spec_asks_go r h (rOf r).toNat 0 [] (by omega) (by simp)
  rw [List.nil_append] at this
  exact lim_ev (Ev.congr (fun n => by simp only [spec_l10Asks_be]; rfl) this)

/-! ### What is known of a right node -/
theorem raftO_out {r : RaftT} (h : raftO r = true) : ofOk (rOf r) = true ∧ (0 ≤ r.1 ∧ r.1 ≤ rOf r - 1) ∧ (1 ≤ rRole r ∧ rRole r ≤ 3) ∧ hardO (rHard r) = true ∧ (0 ≤ rCom r ∧ rCom r ≤ rEnd r) ∧ ascO (rOf r) (-1) (rYes r) = true ∧ yesO r = true ∧ voteO r = true ∧ roleO r = true := by
  unfold raftO at h
  simp only [Bool.and_eq_true, inR_iff] at h
  exact h
theorem hardO_out {h : HardT} (hh : hardO h = true) : (0 ≤ h.1 ∧ h.1 ≤ 1000000000) ∧ (0 ≤ h.2.1 ∧ h.2.1 ≤ 5) ∧ h.2.2.length ≤ 80 ∧ logO h.1 0 h.2.2 = true := by
  unfold hardO at hh
  simp only [Bool.and_eq_true, inR_iff, decide_eq_true_eq] at hh
  exact ⟨hh.1, hh.2.1, by omega, hh.2.2.2⟩
theorem raftO_log {r : RaftT} (h : raftO r = true) : (rLog r).length ≤ 80 := (hardO_out (raftO_out h).2.2.2.1).2.2.1
theorem raftO_yes {r : RaftT} (h : raftO r = true) : (rYes r).length ≤ 5 := by
  obtain ⟨h1, _, _, _, _, h6, _⟩ := raftO_out h
  have hof := ofOk_iff.1 h1
  have := ascO_len (rYes r) (-1) (by omega) (by omega) h6
  omega
theorem roleO_lead {r : RaftT} (h : roleO r = true) (hr : rRole r = 3) : (((rNext r).length : Int) = rOf r ∧ ∀ v, v ∈ rNext r → 1 ≤ v ∧ v ≤ rEnd r + 1) ∧ (((rMat r).length : Int) = rOf r ∧ ∀ v, v ∈ rMat r → 0 ≤ v ∧ v ≤ rEnd r) := by
  unfold roleO at h
  rw [decide_eq_true hr, cond_true] at h
  simp only [Bool.and_eq_true, List.all_eq_true, inR_iff, decide_eq_true_eq] at h
  exact ⟨⟨h.1.2, h.1.1⟩, h.2.2, h.2.1⟩
theorem raftO_send {r : RaftT} (h : raftO r = true) (hr : rRole r = 3) : SendOk r := by
  obtain ⟨h1, _, _, _, _, _, _, _, h9⟩ := raftO_out h
  obtain ⟨⟨g1, g2⟩, _⟩ := roleO_lead h9 hr
  exact ⟨h1, raftO_log h, g1, g2⟩
theorem raftO_ask {r : RaftT} (h : raftO r = true) : AskOk r := ⟨(raftO_out h).1, raftO_log h, by have := raftO_yes h; omega⟩
theorem sendsM_z {r : RaftT} (h : ofOk (rOf r) = true) : OutZ (sendsM r) := by
  have hof := ofOk_iff.1 h
  refine ⟨by have := sendsF_len r (rOf r).toNat 0; unfold sendsM; omega, fun o ho => ?_⟩
  obtain ⟨k, _, _, _, rfl⟩ := sendsF_mem r _ _ o ho
  simp only [sendM, List.length_take]
  omega
theorem asksM_z {r : RaftT} (h : ofOk (rOf r) = true) : OutZ (asksM r) := by
  have hof := ofOk_iff.1 h
  refine ⟨by have := asksF_len r (rOf r).toNat 0; unfold asksM; omega, fun o ho => ?_⟩
  obtain ⟨k, _, _, _, rfl⟩ := asksF_mem r _ _ o ho
  simp [askM]

/-! ### Beats -/
def beatM (r : RaftT) : List OutT := bif raftO r then (bif decide (rRole r = 3) then sendsM r else bif decide (rRole r = 2) then asksM r else []) else []
theorem beatM_z (r : RaftT) : OutZ (beatM r) := by
  have e : OutZ [] := ⟨by simp, fun o ho => by cases ho⟩
  unfold beatM
  cases h : raftO r with
  | false => exact e
  | true =>
    have h1 := (raftO_out h).1
    cases decide (rRole r = 3) with
    | true => exact sendsM_z h1
    | false =>
      cases decide (rRole r = 2) with
      | true => exact asksM_z h1
      | false => exact e
theorem impl_RaftBeat_eq (r : RaftT) (hs : RaftS r) : impl_RaftBeat r = some (beatM r) := by
  rw [impl_RaftBeat_def]
  unfold beatM
  simp only [impl_RaftBeat_d, impl_RaftBeat_be, impl_RaftBeat_r, stepOf_eq r hs, impl_RaftOk_eq r hs, some_bind']
  cases h : raftO r with
  | false => rfl
  | true =>
    by_cases h3 : rRole r = 3
    · simp only [decide_eq_true h3, Bool.not_true, cond_true, cond_false, impl_sendAll_eq r r [] [] (raftO_send h h3) (by simp), some_bind', List.nil_append]
    · by_cases h2 : rRole r = 2
      · simp only [decide_eq_false h3, decide_eq_true h2, Bool.not_true, cond_true, cond_false, impl_ask_eq r r [] [] (raftO_ask h) (by simp), some_bind', List.nil_append]
      · simp only [decide_eq_false h3, decide_eq_false h2, Bool.not_true, cond_true, cond_false]
theorem spec_RaftBeat_eq (r : RaftT) (hs : RaftS r) : spec_RaftBeat r = some (beatM r) := by
  rw [spec_RaftBeat_def]
  unfold beatM
  simp only [spec_RaftBeat_d, spec_RaftBeat_be, spec_RaftBeat_r, spec_RaftOk_eq r hs, some_bind']
  cases h : raftO r with
  | false => rfl
  | true =>
    by_cases h3 : rRole r = 3
    · simp only [decide_eq_true h3, Bool.not_true, cond_true, cond_false, spec_sendAll_eq r (raftO_send h h3), some_bind']
    · by_cases h2 : rRole r = 2
      · simp only [decide_eq_false h3, decide_eq_true h2, Bool.not_true, cond_true, cond_false, spec_asks_eq r (raftO_ask h), some_bind']
      · simp only [decide_eq_false h3, decide_eq_false h2, Bool.not_true, cond_true, cond_false]
end Go.TM


/- RaftBeat: the program's and the reference's say the same of every node. -/
set_option linter.unusedVariables false
set_option linter.unusedSimpArgs false
set_option linter.unusedSectionVars false
set_option maxRecDepth 10000
namespace Go.TM
open Go

abbrev EntK : K := .pair (.int .i64) (.pair (.int .i64) (.pair (.int .i64) (.pair (.int .i64) (.pair (.int .i64) .str))))
abbrev RaftK : K := .pair (.int .i64) (.pair (.int .i64) (.pair (.int .i64) (.pair (.int .i64) (.pair (.pair (.int .i64) (.pair (.int .i64) (.list EntK))) (.pair (.list (.int .i64)) (.pair (.list (.int .i64)) (.list (.int .i64))))))))
theorem wfRaft (r : RaftK.T) (h : WfK RaftK r) : RaftM r := by
  have hr : reachBytes ≤ 140737488355328 := by decide
  obtain ⟨_, _, _, _, ⟨_, _, h1, h2⟩, ⟨h3, _⟩, ⟨h4, _⟩, ⟨h5, _⟩⟩ := h
  refine ⟨⟨Nat.le_trans h1 hr, fun e he => ?_⟩, Nat.le_trans h3 hr, Nat.le_trans h4 hr, Nat.le_trans h5 hr⟩
  obtain ⟨_, _, _, _, _, h6⟩ := h2 e he
  exact Nat.le_trans h6 hr
theorem pure_FnExactRaftBeat (x0 : RaftK.T) (h : WfK RaftK x0) : laws_FnExactRaftBeat x0 = some true := by
  have hm := wfRaft x0 h
  obtain ⟨t, e1, ht⟩ := laws_szRaft_eq x0 hm 1048576 (by omega)
  rw [laws_FnExactRaftBeat_def]
  simp only [laws_FnExactRaftBeat_d, laws_FnExactRaftBeat_be, laws_FnExactRaftBeat_r, e1, some_bind']
  rcases ht with rfl | ⟨h0, _, hs⟩
  · rfl
  · have d0 : decide (t < 0) = false := decide_eq_false (by omega)
    have hz := beatM_z x0
    obtain ⟨k1, r1, q1, q2, q3, q4⟩ := laws_markRaft_some x0 hs.z 1 (by omega)
    have p1 := laws_markOutS_eq (beatM x0) 1 hz (by omega)
    have p2 := laws_heldOutS_marked (beatM x0) 1 hz (by omega)
    obtain ⟨p3, p4⟩ := hz.marks (k := 1) (by omega)
    have d1 : decide (k1 < 0) = false := decide_eq_false (by omega)
    have d2 : decide ((mapSt gO (beatM x0) 1).2 < 0) = false := decide_eq_false (by omega)
    simp only [d0, cond_false, laws_toRaft_eq x0 hs, spec_RaftBeat_eq x0 hs, impl_RaftBeat_eq x0 hs, some_bind', laws_eqOutS_refl (beatM x0) hz, Bool.not_true, laws_eqRaft_refl x0 hs.z, q1, d1, p1, p2, d2, decide_true]
end Go.TM

