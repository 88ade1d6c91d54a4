/- Part 6 of the proof that the law FnExactOnGot holds of the program: words, the data machine and its soundness, the program's functions as pure functions, and the plain law; no condition is added. -/
import Derived.Test.YtoapgkmgehbnpaaGreatCFnExactOnGote
/- What a node sends: both sides say the same. -/
set_option linter.unusedVariables false
set_option linter.unusedSimpArgs false
set_option linter.unusedSectionVars false
set_option maxRecDepth 10000
-- left out: impl_RaftBeat_eq impl_ask_eq impl_ask_go impl_sendAll_eq impl_sendAll_go spec_RaftBeat_eq spec_asks_eq spec_asks_go spec_sendAll_eq spec_sendAll_go
namespace Go.TM
open Go

abbrev StepT := RaftT × RaftT × List RecT × List OutT
theorem copyLog_eq (l : List EntT) (h : l.length ≤ 1048576) : impl_copyLog l = some l := by
  rw [impl_copyLog_def]
  have d : decide ((([] : List EntT).length + l.length) * 56 ≤ 140737488355328) = true := dlc (by simp; omega)
  simp only [impl_copyLog_d, impl_copyLog_be, impl_copyLog_r, d, cond_true, List.nil_append]
theorem copyInts_eq (l : List Int) (h : l.length ≤ 1048576) : impl_copyInts l = some l := by
  rw [impl_copyInts_def]
  have d : decide ((([] : List Int).length + l.length) * 8 ≤ 140737488355328) = true := dlc (by simp; omega)
  simp only [impl_copyInts_d, impl_copyInts_be, impl_copyInts_r, d, cond_true, List.nil_append]
theorem copyRaft_eq (r : RaftT) (h : RaftS r) : impl_copyRaft r = some r := by
  obtain ⟨h1, h2, h3, h4⟩ := h
  rw [impl_copyRaft_def]
  simp only [impl_copyRaft_d, impl_copyRaft_be, impl_copyRaft_r, impl_copyHard_def, impl_copyHard_d, impl_copyHard_be, impl_copyHard_r, copyLog_eq (rLog r) h1, copyInts_eq (rYes r) h2, copyInts_eq (rNext r) h3, copyInts_eq (rMat r) h4, some_bind']
theorem stepOf_eq (r : RaftT) (h : RaftS r) : impl_stepOf r = some (r, r, [], []) := by
  rw [impl_stepOf_def]
  simp only [impl_stepOf_d, impl_stepOf_be, impl_stepOf_r, copyRaft_eq r h, some_bind']
theorem spec_l1Min_eq (a b : Int) : spec_l1Min a b = some (min a b) := by
  rw [spec_l1Min_def]
  simp only [spec_l1Min_d, spec_l1Min_be, spec_l1Min_r]
  by_cases h : a < b
  · rw [decide_eq_true h, cond_true]; congr 1; omega
  · rw [decide_eq_false h, cond_false]; congr 1; omega
theorem mnI_eq (a b : Int) : mnI a b = min a b := by
  unfold mnI
  by_cases h : b < a
  · rw [decide_eq_true h, cond_true]; omega
  · rw [decide_eq_false h, cond_false]; omega
theorem mxI_eq (a b : Int) : mxI a b = max a b := by
  unfold mxI
  by_cases h : a < b
  · rw [decide_eq_true h, cond_true]; omega
  · rw [decide_eq_false h, cond_false]; omega

/-! ### Terms of entries -/
def termL (l : List EntT) : Nat → Int
  | 0 => 0
  | k + 1 => match l[k]? with
    | some e => e.1
    | none => 0
theorem termAt_eq (l : List EntT) (k : Nat) (hk : k ≤ l.length) (hl : l.length ≤ 1048576) : impl_termAt l (k : Int) = some (termL l k) := by
  rw [impl_termAt_def]
  match k, hk with
  | 0, _ => rfl
  | k + 1, hk =>
    have d : decide (((k + 1 : Nat) : Int) = 0) = false := decide_eq_false (by omega)
    have w : wr .i64 (((k + 1 : Nat) : Int) - 1) = (k : Int) := by rw [wr64 (by omega)]; omega
    obtain ⟨v, hv⟩ : ∃ v, l[k]? = some v := ⟨l[k], List.getElem?_eq_getElem (by omega)⟩
    simp only [impl_termAt_d, impl_termAt_be, impl_termAt_r, d, cond_false, w, idx_nat, hv, some_bind', termL]
theorem spec_l10Term_eq (h : HardT) (k : Nat) (hk : k ≤ h.2.2.length) (hl : h.2.2.length ≤ 1048576) : spec_l10Term h (k : Int) = some (termL h.2.2 k) := by
  rw [spec_l10Term_def]
  match k, hk with
  | 0, _ => rfl
  | k + 1, hk =>
    have d : decide (((k + 1 : Nat) : Int) < 1) = false := decide_eq_false (by omega)
    have d2 : decide (((k + 1 : Nat) : Int) > (h.2.2.length : Int)) = false := decide_eq_false (by omega)
    have w : wr .i64 (((k + 1 : Nat) : Int) - 1) = (k : Int) := by rw [wr64 (by omega)]; omega
    obtain ⟨v, hv⟩ : ∃ v, h.2.2[k]? = some v := ⟨h.2.2[k], List.getElem?_eq_getElem (by omega)⟩
    simp only [spec_l10Term_d, spec_l10Term_be, spec_l10Term_r, d, d2, cond_false, w, idx_nat, hv, some_bind', termL]
/-! ### Sending -/
def SendOk (r : RaftT) : Prop := ofOk (rOf r) = true ∧ (rLog r).length ≤ 80 ∧ ((rNext r).length : Int) = rOf r ∧ ∀ v, v ∈ rNext r → 1 ≤ v ∧ v ≤ rEnd r + 1
abbrev noCmd : CmdT := (0, 0, 0, 0, ⟨#[]⟩)
def atOf (r : RaftT) (i : Nat) : Nat := ((rNext r)[i]?.getD 1).toNat - 1
def sendM (r : RaftT) (i : Nat) : OutT := ((i : Int), 3, r.1, (rHard r).1, (atOf r i : Int), termL (rLog r) (atOf r i), rCom r, false, 0, 0, ⟨#[]⟩, noCmd, ((rLog r).drop (atOf r i)).take 6)
theorem atOf_ok {r : RaftT} (h : SendOk r) {i : Nat} (hi : (i : Int) < rOf r) : (rNext r)[i]? = some ((atOf r i : Int) + 1) ∧ atOf r i ≤ (rLog r).length := by
  obtain ⟨h1, h2, h3, h4⟩ := h
  have hlt : i < (rNext r).length := by omega
  have e : (rNext r)[i]? = some (rNext r)[i] := List.getElem?_eq_getElem hlt
  have hm := h4 _ (List.mem_of_getElem? e)
  have he : rEnd r = ((rLog r).length : Int) := rfl
  unfold atOf
  rw [e]
  simp only [Option.getD_some]
  refine ⟨?_, by omega⟩
  congr 1
  omega
theorem cut6 (l : List EntT) (a : Nat) (ha : a ≤ l.length) : (l.drop a).take ((min ((a : Int) + 6) (l.length : Int) - (a : Int) : Int).toNat) = (l.drop a).take 6 := by
  rw [List.take_eq_take_iff, List.length_drop]
  omega
theorem cut6' (l : List EntT) (a : Nat) (ha : a ≤ l.length) : (l.take (min ((a : Int) + 6) (l.length : Int)).toNat).drop (a : Int).toNat = (l.drop a).take 6 := by
  rw [Int.toNat_natCast, List.drop_take, List.take_eq_take_iff, List.length_drop]
  omega
theorem impl_send_eq (r was : RaftT) (recs : List RecT) (outs : List OutT) (h : SendOk r) (i : Nat) (hi : (i : Int) < rOf r) (ho : outs.length ≤ 100000) : impl_stepper_send (r, was, recs, outs) (i : Int) = some (r, was, recs, outs ++ [sendM r i]) := by
  obtain ⟨g1, g2⟩ := atOf_ok h hi
  obtain ⟨h1, h2, h3, h4⟩ := h
  have d1 : decide (0 ≤ (i : Int)) = true := decide_eq_true (by omega)
  have d2 : decide ((i : Int) < ((rNext r).length : Int)) = true := decide_eq_true (by omega)
  have w1 : wr .i64 (((atOf r i : Nat) : Int) + 1 - 1) = ((atOf r i : Nat) : Int) := by rw [wr64 (by omega)]; omega
  have w2 : wr .i64 (((atOf r i : Nat) : Int) + 6) = ((atOf r i : Nat) : Int) + 6 := wr64 (by omega)
  have d3 : decide (0 ≤ ((atOf r i : Nat) : Int)) = true := decide_eq_true (by omega)
  have d4 : decide (((atOf r i : Nat) : Int) ≤ min (((atOf r i : Nat) : Int) + 6) ((rLog r).length : Int)) = true := decide_eq_true (by omega)
  have d5 : decide (min (((atOf r i : Nat) : Int) + 6) ((rLog r).length : Int) ≤ ((rLog r).length : Int)) = true := decide_eq_true (by omega)
  have d6 : ∀ o : OutT, decide ((outs.length + ([o] : List OutT).length) * 168 ≤ 140737488355328) = true := fun o => dlc (by simp; omega)
  have c := cut6 (rLog r) (atOf r i) g2
  rw [impl_stepper_send_def]
  simp only [impl_stepper_send_d, impl_stepper_send_be, impl_stepper_send_r, impl_stepper_message_def, impl_stepper_message_d, impl_stepper_message_be, impl_stepper_message_r, some_bind', d1, d2, Bool.and_self, cond_true, idx_nat, g1, w1, w2, termAt_eq (rLog r) (atOf r i) g2 (by omega), mnI_eq, d3, d4, d5, Int.toNat_natCast, c, copyLog_eq (((rLog r).drop (atOf r i)).take 6) (by rw [List.length_take]; omega), d6]
  rfl
theorem spec_send_eq (r : RaftT) (h : SendOk r) (i : Nat) (hi : (i : Int) < rOf r) : spec_l10Send r (i : Int) = some (sendM r i) := by
  obtain ⟨g1, g2⟩ := atOf_ok h hi
  obtain ⟨h1, h2, h3, h4⟩ := h
  have he : rEnd r = ((rLog r).length : Int) := rfl
  have w1 : wr .i64 (((atOf r i : Nat) : Int) + 1 - 1) = ((atOf r i : Nat) : Int) := by rw [wr64 (by omega)]; omega
  have w2 : wr .i64 (((atOf r i : Nat) : Int) + 6) = ((atOf r i : Nat) : Int) + 6 := wr64 (by omega)
  have d3 : decide (0 ≤ ((atOf r i : Nat) : Int)) = true := decide_eq_true (by omega)
  have d4 : decide (((atOf r i : Nat) : Int) ≤ min (((atOf r i : Nat) : Int) + 6) (rEnd r)) = true := decide_eq_true (by omega)
  have d5 : decide (min (((atOf r i : Nat) : Int) + 6) (rEnd r) ≤ ((rLog r).length : Int)) = true := decide_eq_true (by omega)
  have c := cut6' (rLog r) (atOf r i) g2
  have d6 : decide ((([] : List EntT).length + (((rLog r).drop (atOf r i)).take 6).length) * 56 ≤ 140737488355328) = true := dlc (by simp only [List.length_take, List.length_nil]; omega)
  rw [spec_l10Send_def]
  simp only [spec_l10Send_d, spec_l10Send_be, spec_l10Send_r, some_bind', idx_nat, g1, w1, w2, spec_l10Term_eq (rHard r) (atOf r i) g2 (by have : (rHard r).2.2.length = (rLog r).length := rfl; omega), spec_l10End_eq, spec_l1Min_eq, d3, d4, d5, Bool.and_self, cond_true]
  simp only [he, c, d6, cond_true, List.nil_append]
  rfl
/-! ### What is known of a right node -/
theorem raftO_out {r : RaftT} (h : raftO r = true) : ofOk (rOf r) = true ∧ (0 ≤ r.1 ∧ r.1 ≤ rOf r - 1) ∧ (1 ≤ rRole r ∧ rRole r ≤ 3) ∧ hardO (rHard r) = true ∧ (0 ≤ rCom r ∧ rCom r ≤ rEnd r) ∧ ascO (rOf r) (-1) (rYes r) = true ∧ yesO r = true ∧ voteO r = true ∧ roleO r = true := by
  unfold raftO at h
  simp only [Bool.and_eq_true, inR_iff] at h
  exact h
theorem hardO_out {h : HardT} (hh : hardO h = true) : (0 ≤ h.1 ∧ h.1 ≤ 1000000000) ∧ (0 ≤ h.2.1 ∧ h.2.1 ≤ 5) ∧ h.2.2.length ≤ 80 ∧ logO h.1 0 h.2.2 = true := by
  unfold hardO at hh
  simp only [Bool.and_eq_true, inR_iff, decide_eq_true_eq] at hh
  exact ⟨hh.1, hh.2.1, by omega, hh.2.2.2⟩
theorem raftO_log {r : RaftT} (h : raftO r = true) : (rLog r).length ≤ 80 := (hardO_out (raftO_out h).2.2.2.1).2.2.1
theorem roleO_lead {r : RaftT} (h : roleO r = true) (hr : rRole r = 3) : (((rNext r).length : Int) = rOf r ∧ ∀ v, v ∈ rNext r → 1 ≤ v ∧ v ≤ rEnd r + 1) ∧ (((rMat r).length : Int) = rOf r ∧ ∀ v, v ∈ rMat r → 0 ≤ v ∧ v ≤ rEnd r) := by
  unfold roleO at h
  rw [decide_eq_true hr, cond_true] at h
  simp only [Bool.and_eq_true, List.all_eq_true, inR_iff, decide_eq_true_eq] at h
  exact ⟨⟨h.1.2, h.1.1⟩, h.2.2, h.2.1⟩
theorem raftO_send {r : RaftT} (h : raftO r = true) (hr : rRole r = 3) : SendOk r := by
  obtain ⟨h1, _, _, _, _, _, _, _, h9⟩ := raftO_out h
  obtain ⟨⟨g1, g2⟩, _⟩ := roleO_lead h9 hr
  exact ⟨h1, raftO_log h, g1, g2⟩
/-! ### The kind of a node -/
abbrev EntK : K := .pair (.int .i64) (.pair (.int .i64) (.pair (.int .i64) (.pair (.int .i64) (.pair (.int .i64) .str))))
abbrev RaftK : K := .pair (.int .i64) (.pair (.int .i64) (.pair (.int .i64) (.pair (.int .i64) (.pair (.pair (.int .i64) (.pair (.int .i64) (.list EntK))) (.pair (.list (.int .i64)) (.pair (.list (.int .i64)) (.list (.int .i64))))))))
theorem wfRaft (r : RaftK.T) (h : WfK RaftK r) : RaftM r := by
  have hr : reachBytes ≤ 140737488355328 := by decide
  obtain ⟨_, _, _, _, ⟨_, _, h1, h2⟩, ⟨h3, _⟩, ⟨h4, _⟩, ⟨h5, _⟩⟩ := h
  refine ⟨⟨Nat.le_trans h1 hr, fun e he => ?_⟩, Nat.le_trans h3 hr, Nat.le_trans h4 hr, Nat.le_trans h5 hr⟩
  obtain ⟨_, _, _, _, _, h6⟩ := h2 e he
  exact Nat.le_trans h6 hr
end Go.TM


/- Steps of a node: what each part does, on both sides. -/
set_option linter.unusedVariables false
set_option linter.unusedSimpArgs false
set_option linter.unusedSectionVars false
set_option maxRecDepth 10000
-- left out: impl_RaftBeat_eq impl_ask_eq impl_ask_go impl_had_eq impl_sendAll_eq impl_sendAll_go spec_RaftBeat_eq spec_asks_eq spec_asks_go spec_sendAll_eq spec_sendAll_go
namespace Go.TM
open Go

theorem bind_of {α β : Type} {o : Option α} {x : α} {f : α → Option β} {y : Option β} (h : o = some x) (hy : f x = y) : o.bind f = y := by rw [h]; exact hy
theorem cond_f {α : Type} {b : Bool} {x y z : α} (h : b = false) (e : y = z) : (bif b then x else y) = z := by rw [h]; exact e
def noRaft : RaftT := (0, 0, 0, 0, (0, 0, []), [], [], [])
def sameO (r : RaftT) : RaftT := bif raftO r then r else noRaft
theorem noRaft_z : RaftZ noRaft := ⟨by decide, by decide, by decide, by decide⟩
theorem sameO_z {r : RaftT} (h : RaftZ r) : RaftZ (sameO r) := by
  unfold sameO
  cases raftO r
  · exact noRaft_z
  · exact h
def recV (r : RaftT) : RecT := (1, (rHard r).1, (rHard r).2.1, 0, 0, 0, 0, 0, 0, ⟨#[]⟩)
theorem impl_none_eq (x was : RaftT) (recs : List RecT) (outs : List OutT) (h : RaftS was) : impl_stepper_none (x, was, recs, outs) = some (sameO was, [], [], (x, was, recs, outs)) := by
  rw [impl_stepper_none_def]
  unfold sameO
  simp only [impl_stepper_none_d, impl_stepper_none_be, impl_stepper_none_r, impl_RaftOk_eq was h, copyRaft_eq was h, some_bind']
  cases raftO was <;> rfl
def endR (r was : RaftT) (recs : List RecT) : List RecT := bif decide ((rHard r).1 = (rHard was).1) && decide ((rHard r).2.1 = (rHard was).2.1) then recs else recV r :: recs
theorem impl_end_eq (r was : RaftT) (recs : List RecT) (outs : List OutT) (h : recs.length ≤ 1048576) : impl_stepper_end (r, was, recs, outs) = some (r, endR r was recs, outs) := by
  rw [impl_stepper_end_def]
  have d2 : ∀ q : RecT, decide ((([q] : List RecT).length + recs.length) * 88 ≤ 140737488355328) = true := fun q => dlc (by simp; omega)
  unfold endR
  simp only [impl_stepper_end_d, impl_stepper_end_be, impl_stepper_end_r, d2, cond_true]
  cases decide ((rHard r).1 = (rHard was).1) <;> cases decide ((rHard r).2.1 = (rHard was).2.1) <;> rfl
theorem spec_l10Copy_eq (r : RaftT) (h : RaftS r) : spec_l10Copy r = some r := by
  obtain ⟨h1, h2, h3, h4⟩ := h
  rw [spec_l10Copy_def]
  have d1 : decide ((([] : List EntT).length + (rLog r).length) * 56 ≤ 140737488355328) = true := dlc (by simp; omega)
  have d2 : decide ((([] : List Int).length + (rYes r).length) * 8 ≤ 140737488355328) = true := dlc (by simp; omega)
  have d3 : decide ((([] : List Int).length + (rNext r).length) * 8 ≤ 140737488355328) = true := dlc (by simp; omega)
  have d4 : decide ((([] : List Int).length + (rMat r).length) * 8 ≤ 140737488355328) = true := dlc (by simp; omega)
  simp only [spec_l10Copy_d, spec_l10Copy_be, spec_l10Copy_r, spec_l6Copy_def, spec_l6Copy_d, spec_l6Copy_be, spec_l6Copy_r, d1, d2, d3, d4, cond_true, some_bind', List.nil_append]
theorem spec_l10Same_eq (r : RaftT) (h : RaftS r) : spec_l10Same r = some (sameO r) := by
  rw [spec_l10Same_def]
  unfold sameO
  simp only [spec_l10Same_d, spec_l10Same_be, spec_l10Same_r, spec_RaftOk_eq r h, spec_l10Copy_eq r h, some_bind']
  cases raftO r <;> rfl
theorem spec_l10Vote_eq (r : RaftT) : spec_l10Vote r = some (recV r) := by
  rw [spec_l10Vote_def]; rfl
end Go.TM


/- What a node hears: both sides say the same. -/
set_option linter.unusedVariables false
set_option linter.unusedSimpArgs false
set_option linter.unusedSectionVars false
set_option maxRecDepth 10000
-- left out: impl_RaftBeat_eq impl_ask_eq impl_ask_go impl_had_eq impl_sendAll_eq impl_sendAll_go spec_RaftBeat_eq spec_asks_eq spec_asks_go spec_sendAll_eq spec_sendAll_go
namespace Go.TM
open Go

abbrev eEnts (m : MsgT) : List EntT := m.2.2.2.2.2.2.2.2.2.2.2
theorem fits_all {m : MsgT} (h : msgFits m = true) : (0 ≤ m.2.1 ∧ m.2.1 ≤ 4) ∧ (m.1 = 1 ∨ m.1 = 2 ∨ m.1 = 3 ∨ m.1 = 4 → 0 ≤ m.2.2.1 ∧ m.2.2.1 ≤ 1000000000) ∧ (m.1 = 1 ∨ m.1 = 3 ∨ m.1 = 4 → 0 ≤ m.2.2.2.1 ∧ m.2.2.2.1 ≤ 80) ∧ (m.1 = 1 ∨ m.1 = 3 → 0 ≤ m.2.2.2.2.1 ∧ m.2.2.2.2.1 ≤ 1000000000) ∧ (m.1 = 3 → 0 ≤ m.2.2.2.2.2.1 ∧ m.2.2.2.2.2.1 ≤ 80) ∧ (m.1 = 3 → (eEnts m).length ≤ 6) ∧ ∀ e, e ∈ eEnts m → entOk e = true := by
  unfold msgFits at h
  simp only [Bool.and_eq_true, List.any_cons, List.any_nil, Bool.or_false] at h
  obtain ⟨_, h1, h2, h3, h4, h5, _, _, _, _, h10, _, h12⟩ := h
  refine ⟨inR_iff.1 h1, fun hk => ?_, fun hk => ?_, fun hk => ?_, fun hk => ?_, fun hk => ?_, fun e he => List.all_eq_true.1 h12 e he⟩
  · have : (decide (m.1 = 1) || (decide (m.1 = 2) || (decide (m.1 = 3) || decide (m.1 = 4)))) = true := by simp; omega
    rw [this] at h2; exact inR_iff.1 h2
  · have : (decide (m.1 = 1) || (decide (m.1 = 3) || decide (m.1 = 4))) = true := by simp; omega
    rw [this] at h3; exact inR_iff.1 h3
  · have : (decide (m.1 = 1) || decide (m.1 = 3)) = true := by simp; omega
    rw [this] at h4; exact inR_iff.1 h4
  · rw [decide_eq_true hk] at h5; exact inR_iff.1 h5
  · rw [decide_eq_true hk] at h10
    have h10 : inR (m.2.2.2.2.2.2.2.2.2.2.2.length : Int) 0 6 = true := h10
    have h10 := inR_iff.1 h10
    have e : (m.2.2.2.2.2.2.2.2.2.2.2.length : Int) = ((eEnts m).length : Int) := rfl
    omega
def hearO (r : RaftT) (m : MsgT) (k : Int) : Bool := raftO r && (msgFits m && (decide (m.1 = k) && (decide (m.2.1 < rOf r) && !decide (m.2.1 = r.1))))
theorem impl_mayHear_eq (x was : RaftT) (recs : List RecT) (outs : List OutT) (m : MsgT) (k : Int) (h : RaftS was) (hm : lok (eEnts m) = true) : impl_stepper_mayHear (x, was, recs, outs) m k = some (hearO was m k, (x, was, recs, outs)) := by
  rw [impl_stepper_mayHear_def]
  unfold hearO
  simp only [impl_stepper_mayHear_d, impl_stepper_mayHear_be, impl_stepper_mayHear_r, impl_RaftOk_eq was h, impl_MsgFits_eq m hm, some_bind']
  cases raftO was <;> cases msgFits m <;> cases decide (m.1 = k) <;> cases decide (m.2.1 < rOf was) <;> rfl
theorem spec_l10Hears_eq (r : RaftT) (m : MsgT) (k : Int) (h : RaftS r) (hm : lok (eEnts m) = true) : spec_l10Hears r m k = some (hearO r m k) := by
  rw [spec_l10Hears_def]
  unfold hearO
  simp only [spec_l10Hears_d, spec_l10Hears_be, spec_l10Hears_r, spec_RaftOk_eq r h, spec_MsgFits_eq m hm, some_bind']
  cases raftO r <;> cases msgFits m <;> cases decide (m.1 = k) <;> cases decide (m.2.1 < rOf r) <;> rfl
theorem hearO_out {r : RaftT} {m : MsgT} {k : Int} (h : hearO r m k = true) : raftO r = true ∧ msgFits m = true ∧ m.1 = k ∧ m.2.1 < rOf r ∧ m.2.1 ≠ r.1 := by
  unfold hearO at h
  simp only [Bool.and_eq_true, decide_eq_true_eq, Bool.not_eq_true', decide_eq_false_iff_not] at h
  exact h
def restO (r : RaftT) : RaftT := (r.1, rOf r, 1, rCom r, rHard r, [], [], [])
def followO (r : RaftT) (t : Int) : RaftT := (r.1, rOf r, 1, rCom r, (t, 0, rLog r), [], [], [])
def followT (r : RaftT) (t : Int) : RaftT := bif decide (t ≤ (rHard r).1) then r else followO r t
theorem impl_follow_eq (r was : RaftT) (recs : List RecT) (outs : List OutT) : impl_stepper_follow (r, was, recs, outs) = some (restO r, was, recs, outs) := by
  rw [impl_stepper_follow_def]; rfl
theorem impl_followTerm_eq (r was : RaftT) (recs : List RecT) (outs : List OutT) (t : Int) : impl_stepper_followTerm (r, was, recs, outs) t = some (!decide (t ≤ (rHard r).1), (followT r t, was, recs, outs)) := by
  rw [impl_stepper_followTerm_def]
  unfold followT
  simp only [impl_stepper_followTerm_d, impl_stepper_followTerm_be, impl_stepper_followTerm_r, impl_follow_eq, some_bind']
  cases decide (t ≤ (rHard r).1) <;> rfl
theorem spec_l10Rest_eq (r : RaftT) : spec_l10Rest r = some (restO r) := by
  rw [spec_l10Rest_def]; rfl
theorem spec_l10Follow_eq (r : RaftT) (t : Int) : spec_l10Follow r t = some (followO r t) := by
  rw [spec_l10Follow_def]
  simp only [spec_l10Follow_d, spec_l10Follow_be, spec_l10Follow_r, spec_l10Rest_eq, some_bind']
  rfl
/-! ### Messages in the laws -/
def MsgM (m : MsgT) : Prop := m.2.2.2.2.2.2.2.2.2.1.size ≤ 140737488355328 ∧ m.2.2.2.2.2.2.2.2.2.2.1.2.2.2.2.size ≤ 140737488355328 ∧ (eEnts m).length ≤ 140737488355328 ∧ ∀ e, e ∈ eEnts m → e.2.2.2.2.2.size ≤ 140737488355328
theorem laws_szMsg_eq (m : MsgT) (h : MsgM m) (l : Int) (hl : 0 ≤ l ∧ l ≤ 1048576) : ∃ t, laws_szMsg m l = some t ∧ (t = -1 ∨ (0 ≤ t ∧ t ≤ l ∧ (eEnts m).length ≤ 1048576)) := by
  obtain ⟨h1, h2, h3, h4⟩ := h
  rw [laws_szMsg_def]
  have w : wr .i64 (l - (m.2.2.2.2.2.2.2.2.2.1.size : Int)) = l - (m.2.2.2.2.2.2.2.2.2.1.size : Int) := wr64 (by omega)
  simp only [laws_szMsg_d, laws_szMsg_be, laws_szMsg_r, w]
  by_cases c1 : l - (m.2.2.2.2.2.2.2.2.2.1.size : Int) < 0
  · rw [decide_eq_true c1]; exact ⟨-1, rfl, .inl rfl⟩
  · rw [decide_eq_false c1, cond_false, laws_szCmd_eq _ _ (by omega) h2, some_bind']
    by_cases c2 : l - (m.2.2.2.2.2.2.2.2.2.1.size : Int) - (m.2.2.2.2.2.2.2.2.2.2.1.2.2.2.2.size : Int) < 0
    · rw [if_pos c2]; exact ⟨-1, rfl, .inl rfl⟩
    · rw [if_neg c2, decide_eq_false c2, cond_false]
      obtain ⟨t1, e1, g1, k1⟩ := laws_szEntryS_eq (eEnts m) (l - (m.2.2.2.2.2.2.2.2.2.1.size : Int) - (m.2.2.2.2.2.2.2.2.2.2.1.2.2.2.2.size : Int)) (by omega) ((lok_iff _).2 h3) h4
      rw [e1, some_bind']
      rcases k1 with rfl | ⟨k1, m1⟩
      · exact ⟨-1, rfl, .inl rfl⟩
      · have d1 : decide (t1 < 0) = false := decide_eq_false (by omega)
        rw [d1, cond_false]
        exact ⟨t1, rfl, .inr ⟨k1, by omega, by omega⟩⟩
theorem laws_markMsg_some (m : MsgT) (k : Int) (hx : (eEnts m).length ≤ 1048576) (hk : 0 ≤ k ∧ k ≤ 100000000000) : ∃ k' m', laws_markMsg m k = some (k', m') ∧ k ≤ k' := by
  rw [laws_markMsg_def]
  simp only [laws_markMsg_d, laws_markMsg_be, laws_markMsg_r, laws_markEntryS_eq (eEnts m) k hx hk, some_bind', mapSt_gE]
  exact ⟨_, _, rfl, by omega⟩
abbrev MsgK : K := .pair (.int .i64) (.pair (.int .i64) (.pair (.int .i64) (.pair (.int .i64) (.pair (.int .i64) (.pair (.int .i64) (.pair .bool (.pair (.int .i64) (.pair (.int .i64) (.pair .str (.pair (.pair (.int .i64) (.pair (.int .i64) (.pair (.int .i64) (.pair (.int .i64) .str)))) (.list EntK)))))))))))
theorem wfMsg (m : MsgK.T) (h : WfK MsgK m) : MsgM m := by
  have hr : reachBytes ≤ 140737488355328 := by decide
  obtain ⟨_, _, _, _, _, _, _, _, _, h1, ⟨_, _, _, _, h2⟩, h3, h4⟩ := h
  refine ⟨Nat.le_trans h1 hr, Nat.le_trans h2 hr, Nat.le_trans h3 hr, fun e he => ?_⟩
  obtain ⟨_, _, _, _, _, h6⟩ := h4 e he
  exact Nat.le_trans h6 hr

end Go.TM


/- Told what another holds: both sides say the same. -/
set_option linter.unusedVariables false
set_option linter.unusedSimpArgs false
set_option linter.unusedSectionVars false
set_option maxRecDepth 10000
-- left out: impl_RaftBeat_eq impl_ask_eq impl_ask_go impl_had_eq impl_sendAll_eq impl_sendAll_go spec_RaftBeat_eq spec_asks_eq spec_asks_go spec_sendAll_eq spec_sendAll_go
namespace Go.TM
open Go

theorem spec_l1Max_eq (a b : Int) : spec_l1Max a b = some (mxI a b) := by
  rw [spec_l1Max_def, mxI_eq]
  simp only [spec_l1Max_d, spec_l1Max_be, spec_l1Max_r]
  by_cases h : a > b
  · rw [decide_eq_true h, cond_true]; congr 1; omega
  · rw [decide_eq_false h, cond_false]; congr 1; omega

/-! ### What is committed -/
def cntM : List Int → Int → Nat
  | [], _ => 0
  | v :: l, n => (if v ≥ n then 1 else 0) + cntM l n
theorem cntM_le : ∀ (l : List Int) (n : Int), cntM l n ≤ l.length
  | [], _ => Nat.le_refl _
  | v :: l, n => by
    have := cntM_le l n
    rw [cntM, List.length_cons]
    split <;> omega
/-- What is committed, looked for from n = k downwards; j: how many steps are left. -/
def comF (r : RaftT) : Nat → Nat → Int
  | 0, _ => rCom r
  | j + 1, k => if rOf r < 2 * (cntM (rMat r) (k : Int) : Int) ∧ termL (rLog r) k = (rHard r).1 then (k : Int) else comF r j (k - 1)
def comO (r : RaftT) : Int := comF r ((rEnd r) - rCom r).toNat (rLog r).length
def setCom (r : RaftT) (c : Int) : RaftT := (r.1, rOf r, rRole r, c, rHard r, rYes r, rNext r, rMat r)
def ComOk (r : RaftT) : Prop := ofOk (rOf r) = true ∧ (rLog r).length ≤ 80 ∧ ((rMat r).length : Int) = rOf r ∧ 0 ≤ rCom r ∧ rCom r ≤ rEnd r
theorem ic2 (n : Nat) : impl_stepper_commit_l2 (n + 1) = impl_stepper_commit_b2 (impl_stepper_commit_l2 n) (impl_stepper_commit_l6 n) impl_stepper_commit_r := rfl
theorem ic6 (n : Nat) : impl_stepper_commit_l6 (n + 1) = impl_stepper_commit_b6 (impl_stepper_commit_l2 n) (impl_stepper_commit_l6 n) impl_stepper_commit_r := rfl
theorem sc2 (n : Nat) : spec_l10Commit_l2 (n + 1) = spec_l10Commit_b2 (spec_l10Commit_l2 n) (spec_l10Commit_l6 n) spec_l10Commit_r := rfl
theorem sc6 (n : Nat) : spec_l10Commit_l6 (n + 1) = spec_l10Commit_b6 (spec_l10Commit_l2 n) (spec_l10Commit_l6 n) spec_l10Commit_r := rfl
theorem impl_cnt_go (r was : RaftT) (recs : List RecT) (outs : List OutT) (h : ComOk r) (k : Int) {Y : StepT} : ∀ (l : List Int) (i c : Nat), (rMat r).drop i = l → i + l.length = (rMat r).length → c ≤ i →
    Ev (fun n => impl_stepper_commit_l6 n (r, was, recs, outs) k ((c + cntM l k : Nat) : Int) ((rMat r).length : Int) ((rMat r).length : Int)) Y → Ev (fun n => impl_stepper_commit_l6 n (r, was, recs, outs) k (c : Int) ((rMat r).length : Int) (i : Int)) Y
  | [], i, c, hd, hl, hc, hY => by
    rw [cntM, Nat.add_zero] at hY
    have hi : i = (rMat r).length := hl
    rw [← hi] at hY ⊢
    exact hY
  | v :: l, i, c, hd, hl, hc, hY => by
    rw [List.length_cons] at hl
    have hof := ofOk_iff.1 h.1
    have hm := h.2.2.1
    have hg : (rMat r)[i]? = some v := by
      have := congrArg (fun z : List Int => z[0]?) hd
      simpa [List.getElem?_drop] using this
    have hd' : (rMat r).drop (i + 1) = l := by
      have := congrArg (fun z : List Int => z.drop 1) hd
      simpa [List.drop_drop] using this
    have d1 : decide ((i : Int) < ((rMat r).length : Int)) = true := decide_eq_true (by omega)
    have d2 : decide (0 ≤ (i : Int)) = true := decide_eq_true (by omega)
    have w1 := wnat i (by omega)
    have w2 := wnat c (by omega)
    by_cases hv : v ≥ k
    · refine Ev.step (fun n => ?_) (impl_cnt_go r was recs outs h k l (i + 1) (c + 1) hd' (by omega) (by omega) (by
        have e : c + 1 + cntM l k = c + cntM (v :: l) k := by rw [cntM, if_pos hv]; omega
        rw [e]; exact hY))
      rw [ic6]
      simp only [impl_stepper_commit_b6, d1, d2, Bool.and_self, cond_true, idx_nat, hg, some_bind', decide_eq_true hv, w1, w2]
    · refine Ev.step (fun n => ?_) (impl_cnt_go r was recs outs h k l (i + 1) c hd' (by omega) (by omega) (by
        have e : c + cntM l k = c + cntM (v :: l) k := by rw [cntM, if_neg hv]; omega
        rw [e]; exact hY))
      rw [ic6]
      simp only [impl_stepper_commit_b6, d1, d2, Bool.and_self, cond_true, cond_false, idx_nat, hg, some_bind', decide_eq_false hv, w1]
theorem impl_com_go (r was : RaftT) (recs : List RecT) (outs : List OutT) (h : ComOk r) : ∀ (j k : Nat), (k : Int) = rCom r + j → (k : Int) ≤ rEnd r → Ev (fun n => impl_stepper_commit_l2 n (r, was, recs, outs) (k : Int)) (setCom r (comF r j k), was, recs, outs)
  | 0, k, hk, hke => by
    refine Ev.step (g := fun _ => some (setCom r (comF r 0 k), was, recs, outs)) (fun n => ?_) Ev.const
    rw [ic2]
    have d : decide ((k : Int) > rCom r) = false := decide_eq_false (by omega)
    simp only [impl_stepper_commit_b2, d, cond_false, impl_stepper_commit_r]
    rfl
  | j + 1, k, hk, hke => by
    obtain ⟨h1, h2, h3, h4, h5⟩ := id h
    have hof := ofOk_iff.1 h1
    have d : decide ((k : Int) > rCom r) = true := decide_eq_true (by omega)
    have he : rEnd r = ((rLog r).length : Int) := rfl
    have hc := cntM_le (rMat r) (k : Int)
    refine Ev.step (g := fun n => impl_stepper_commit_l6 n (r, was, recs, outs) (k : Int) 0 ((rMat r).length : Int) 0) (fun n => ?_) ?_
    · rw [ic2]
      simp only [impl_stepper_commit_b2, d, cond_true]
    · refine impl_cnt_go r was recs outs h (k : Int) (rMat r) 0 0 rfl (by omega) (Nat.le_refl _) ?_
      rw [Nat.zero_add]
      have w1 : wr .i64 (2 * (cntM (rMat r) (k : Int) : Int)) = 2 * (cntM (rMat r) (k : Int) : Int) := wr64 (by omega)
      have w2 : wr .i64 ((k : Int) - 1) = ((k - 1 : Nat) : Int) := by rw [wr64 (by omega)]; omega
      have d1 : decide (((rMat r).length : Int) < ((rMat r).length : Int)) = false := decide_eq_false (by omega)
      have ht := termAt_eq (rLog r) k (by omega) (by omega)
      rw [comF]
      by_cases c1 : termL (rLog r) k = (rHard r).1
      · by_cases c2 : rOf r < 2 * (cntM (rMat r) (k : Int) : Int)
        · rw [if_pos ⟨c2, c1⟩]
          have d2 : decide (2 * (cntM (rMat r) (k : Int) : Int) > rOf r) = true := decide_eq_true (by omega)
          have d3 : decide (((k - 1 : Nat) : Int) > (k : Int)) = false := decide_eq_false (by omega)
          refine Ev.step (g := fun n => impl_stepper_commit_l2 n (setCom r (k : Int), was, recs, outs) ((k - 1 : Nat) : Int)) (fun n => ?_) (Ev.step (g := fun _ => some (setCom r (k : Int), was, recs, outs)) (fun n => ?_) Ev.const)
          · rw [ic6]
            simp only [impl_stepper_commit_b6, d1, cond_false, ht, some_bind', decide_eq_true c1, cond_true, w1, d2, w2]
            rfl
          · rw [ic2]
            exact cond_f d3 rfl
        · rw [if_neg (fun q => c2 q.1)]
          have d2 : decide (2 * (cntM (rMat r) (k : Int) : Int) > rOf r) = false := decide_eq_false (by omega)
          refine Ev.step (fun n => ?_) (impl_com_go r was recs outs h j (k - 1) (by omega) (by omega))
          rw [ic6]
          simp only [impl_stepper_commit_b6, d1, cond_false, ht, some_bind', decide_eq_true c1, cond_true, w1, d2, w2]
      · rw [if_neg (fun q => c1 q.2)]
        refine Ev.step (fun n => ?_) (impl_com_go r was recs outs h j (k - 1) (by omega) (by omega))
        rw [ic6]
        simp only [impl_stepper_commit_b6, d1, cond_false, ht, some_bind', decide_eq_false c1, w2]
theorem impl_commit_eq (r was : RaftT) (recs : List RecT) (outs : List OutT) (h : ComOk r) : impl_stepper_commit (r, was, recs, outs) = some (setCom r (comO r), was, recs, outs) := by
  have h5 := h.2.2.2
  have he : rEnd r = ((rLog r).length : Int) := rfl
  rw [impl_stepper_commit_def]
  exact lim_ev (Ev.congr (fun n => by simp only [impl_stepper_commit_be]) (impl_com_go r was recs outs h (rEnd r - rCom r).toNat (rLog r).length (by omega) (by omega)))
theorem spec_cnt_go (r : RaftT) (h : ComOk r) (k : Int) {Y : Int} : ∀ (l : List Int) (i c : Nat), (rMat r).drop i = l → i + l.length = (rMat r).length → c ≤ i →
    Ev (fun n => spec_l10Commit_l6 n r k ((c + cntM l k : Nat) : Int) (rOf r)) Y → Ev (fun n => spec_l10Commit_l6 n r k (c : Int) (i : Int)) Y
  | [], i, c, hd, hl, hc, hY => by
    rw [cntM, Nat.add_zero] at hY
    have hi : i = (rMat r).length := hl
    have hm : (i : Int) = rOf r := by rw [hi]; exact h.2.2.1
    rw [hm]
    exact hY
  | v :: l, i, c, hd, hl, hc, hY => by
    rw [List.length_cons] at hl
    have hof := ofOk_iff.1 h.1
    have hm := h.2.2.1
    have hg : (rMat r)[i]? = some v := by
      have := congrArg (fun z : List Int => z[0]?) hd
      simpa [List.getElem?_drop] using this
    have hd' : (rMat r).drop (i + 1) = l := by
      have := congrArg (fun z : List Int => z.drop 1) hd
      simpa [List.drop_drop] using this
    have d1 : decide ((i : Int) < rOf r) = true := decide_eq_true (by omega)
    have w1 := wnat i (by omega)
    have w2 := wnat c (by omega)
    by_cases hv : v ≥ k
    · refine Ev.step (fun n => ?_) (spec_cnt_go r h k l (i + 1) (c + 1) hd' (by omega) (by omega) (by
        have e : c + 1 + cntM l k = c + cntM (v :: l) k := by rw [cntM, if_pos hv]; omega
        rw [e]; exact hY))
      rw [sc6]
      simp only [spec_l10Commit_b6, d1, cond_true, idx_nat, hg, some_bind', decide_eq_true hv, w1, w2]
    · refine Ev.step (fun n => ?_) (spec_cnt_go r h k l (i + 1) c hd' (by omega) (by omega) (by
        have e : c + cntM l k = c + cntM (v :: l) k := by rw [cntM, if_neg hv]; omega
        rw [e]; exact hY))
      rw [sc6]
      simp only [spec_l10Commit_b6, d1, cond_true, cond_false, idx_nat, hg, some_bind', decide_eq_false hv, w1]
theorem spec_com_go (r : RaftT) (h : ComOk r) : ∀ (j k : Nat), (k : Int) = rCom r + j → (k : Int) ≤ rEnd r → Ev (fun n => spec_l10Commit_l2 n r (k : Int)) (comF r j k)
  | 0, k, hk, hke => by
    refine Ev.step (g := fun _ => some (comF r 0 k)) (fun n => ?_) Ev.const
    rw [sc2]
    have d : decide ((k : Int) > rCom r) = false := decide_eq_false (by omega)
    simp only [spec_l10Commit_b2, d, cond_false, spec_l10Commit_r]
    rfl
  | j + 1, k, hk, hke => by
    obtain ⟨h1, h2, h3, h4, h5⟩ := id h
    have hof := ofOk_iff.1 h1
    have d : decide ((k : Int) > rCom r) = true := decide_eq_true (by omega)
    have he : rEnd r = ((rLog r).length : Int) := rfl
    have hc := cntM_le (rMat r) (k : Int)
    refine Ev.step (g := fun n => spec_l10Commit_l6 n r (k : Int) 0 0) (fun n => ?_) ?_
    · rw [sc2]
      simp only [spec_l10Commit_b2, d, cond_true]
    · refine spec_cnt_go r h (k : Int) (rMat r) 0 0 rfl (by omega) (Nat.le_refl _) ?_
      rw [Nat.zero_add]
      have w1 : wr .i64 (2 * (cntM (rMat r) (k : Int) : Int)) = 2 * (cntM (rMat r) (k : Int) : Int) := wr64 (by omega)
      have w2 : wr .i64 ((k : Int) - 1) = ((k - 1 : Nat) : Int) := by rw [wr64 (by omega)]; omega
      have d1 : decide (rOf r < rOf r) = false := decide_eq_false (by omega)
      have ht := spec_l10Term_eq (rHard r) k (by have : (rHard r).2.2.length = (rLog r).length := rfl; omega) (by have : (rHard r).2.2.length = (rLog r).length := rfl; omega)
      rw [comF]
      by_cases c2 : rOf r < 2 * (cntM (rMat r) (k : Int) : Int)
      · have d2 : decide (2 * (cntM (rMat r) (k : Int) : Int) > rOf r) = true := decide_eq_true (by omega)
        by_cases c1 : termL (rLog r) k = (rHard r).1
        · rw [if_pos ⟨c2, c1⟩]
          refine Ev.step (g := fun _ => some (k : Int)) (fun n => ?_) Ev.const
          rw [sc6]
          simp only [spec_l10Commit_b6, d1, cond_false, w1, d2, cond_true, ht, some_bind', decide_eq_true c1]
        · rw [if_neg (fun q => c1 q.2)]
          refine Ev.step (fun n => ?_) (spec_com_go r h j (k - 1) (by omega) (by omega))
          rw [sc6]
          simp only [spec_l10Commit_b6, d1, cond_false, w1, d2, cond_true, ht, some_bind', decide_eq_false c1, w2]
      · rw [if_neg (fun q => c2 q.1)]
        have d2 : decide (2 * (cntM (rMat r) (k : Int) : Int) > rOf r) = false := decide_eq_false (by omega)
        refine Ev.step (fun n => ?_) (spec_com_go r h j (k - 1) (by omega) (by omega))
        rw [sc6]
        simp only [spec_l10Commit_b6, d1, cond_false, w1, d2, w2]
theorem spec_commit_eq (r : RaftT) (h : ComOk r) : spec_l10Commit r = some (comO r) := by
  have h5 := h.2.2.2
  have he : rEnd r = ((rLog r).length : Int) := rfl
  rw [spec_l10Commit_def]
  refine lim_ev (Ev.congr (fun n => ?_) (spec_com_go r h (rEnd r - rCom r).toNat (rLog r).length (by omega) (by omega)))
  simp only [spec_l10Commit_be, spec_l10End_eq, some_bind']

/-! ### Told what another holds -/
def gotV (r : RaftT) (i : Nat) (a : Int) : Int := mxI ((rMat r)[i]?.getD 0) a
def gotR (r : RaftT) (i : Nat) (a : Int) : RaftT := (r.1, rOf r, rRole r, rCom r, rHard r, rYes r, (rNext r).set i (gotV r i a + 1), (rMat r).set i (gotV r i a))
def backV (r : RaftT) (i : Nat) (a : Int) : Int := mxI 1 (mnI ((rNext r)[i]?.getD 0 - 1) (a + 1))
def backR (r : RaftT) (i : Nat) (a : Int) : RaftT := (r.1, rOf r, rRole r, rCom r, rHard r, rYes r, (rNext r).set i (backV r i a), rMat r)
def onGotO (r : RaftT) (m : MsgT) : RaftT × List RecT × List OutT :=
  bif hearO r m 4 then
    bif decide (m.2.2.1 ≤ (rHard r).1) then
      bif decide (rRole r = 3) && decide (m.2.2.1 = (rHard r).1) then
        bif m.2.2.2.2.2.2.1 then
          bif decide (m.2.2.2.1 ≤ rEnd r) then (setCom (gotR r m.2.1.toNat m.2.2.2.1) (comO (gotR r m.2.1.toNat m.2.2.2.1)), [], []) else (r, [], [])
        else (backR r m.2.1.toNat m.2.2.2.1, [], [sendM (backR r m.2.1.toNat m.2.2.2.1) m.2.1.toNat])
      else (r, [], [])
    else (followO r m.2.2.1, [recV (followO r m.2.2.1)], [])
  else (sameO r, [], [])
theorem endR_same {q r : RaftT} (recs : List RecT) (e1 : (rHard q).1 = (rHard r).1) (e2 : (rHard q).2.1 = (rHard r).2.1) : endR q r recs = recs := by
  unfold endR
  rw [e1, e2, decide_eq_true rfl, decide_eq_true rfl]; rfl
theorem endR_diff {q r : RaftT} (recs : List RecT) (e1 : (rHard q).1 ≠ (rHard r).1) : endR q r recs = recV q :: recs := by
  unfold endR
  rw [decide_eq_false e1]; rfl
/-- What a leader that is told something stands in. -/
theorem lead_facts {r : RaftT} {m : MsgT} (h : hearO r m 4 = true) (h3 : rRole r = 3) : ∃ i : Nat, ∃ v u : Int, m.2.1 = (i : Int) ∧ (i : Int) < rOf r ∧ (rMat r)[i]? = some v ∧ (rNext r)[i]? = some u ∧ 0 ≤ v ∧ v ≤ rEnd r ∧ 1 ≤ u ∧ u ≤ rEnd r + 1 ∧ 0 ≤ m.2.2.2.1 ∧ m.2.2.2.1 ≤ 80 ∧ SendOk r ∧ (i < (rMat r).length ∧ i < (rNext r).length) ∧ ((rMat r).length : Int) = rOf r ∧ 0 ≤ rCom r ∧ rCom r ≤ rEnd r := by
  obtain ⟨g1, g2, g3, g4, g5⟩ := hearO_out h
  obtain ⟨f1, _, f3, _⟩ := fits_all g2
  have f3 := f3 (.inr (.inr g3))
  have o := raftO_out g1
  obtain ⟨⟨q1, q2⟩, q3, q4⟩ := roleO_lead o.2.2.2.2.2.2.2.2 h3
  have hi : (m.2.1.toNat : Int) = m.2.1 := by omega
  have l1 : m.2.1.toNat < (rMat r).length := by omega
  have l2 : m.2.1.toNat < (rNext r).length := by omega
  have e1 : (rMat r)[m.2.1.toNat]? = some ((rMat r)[m.2.1.toNat]) := List.getElem?_eq_getElem l1
  have e2 : (rNext r)[m.2.1.toNat]? = some ((rNext r)[m.2.1.toNat]) := List.getElem?_eq_getElem l2
  have b1 := q4 _ (List.mem_of_getElem? e1)
  have b2 := q2 _ (List.mem_of_getElem? e2)
  exact ⟨m.2.1.toNat, _, _, hi.symm, by omega, e1, e2, b1.1, b1.2, b2.1, b2.2, f3.1, f3.2, raftO_send g1 h3, ⟨l1, l2⟩, q3, o.2.2.2.2.1.1, o.2.2.2.2.1.2⟩
theorem backR_send {r : RaftT} (h : SendOk r) {i : Nat} {u a : Int} (hu : (rNext r)[i]? = some u) (ha : 0 ≤ a) : SendOk (backR r i a) := by
  obtain ⟨h1, h2, h3, h4⟩ := h
  have hb := h4 u (List.mem_of_getElem? hu)
  refine ⟨h1, h2, ?_, fun v hv => ?_⟩
  · show (((rNext r).set i (backV r i a)).length : Int) = rOf r
    rw [List.length_set]; exact h3
  · have hv : v ∈ (rNext r).set i (backV r i a) := hv
    have e : rEnd (backR r i a) = rEnd r := rfl
    rw [e]
    rcases List.mem_or_eq_of_mem_set hv with hv | rfl
    · exact h4 v hv
    · unfold backV
      rw [hu, mxI_eq, mnI_eq]
      simp only [Option.getD_some]
      omega
theorem gotR_com {r : RaftT} (h : SendOk r) {i : Nat} {a : Int} (hm : ((rMat r).length : Int) = rOf r) (h0 : 0 ≤ rCom r) (h1 : rCom r ≤ rEnd r) : ComOk (gotR r i a) :=
  ⟨h.1, h.2.1, by show (((rMat r).set i (gotV r i a)).length : Int) = rOf r; rw [List.length_set]; exact hm, h0, h1⟩
theorem impl_OnGot_eq (r : RaftT) (m : MsgT) (hs : RaftS r) (hm : lok (eEnts m) = true) : impl_OnGot r m = some (onGotO r m) := by
  rw [impl_OnGot_def]
  unfold onGotO
  simp only [impl_OnGot_d, impl_OnGot_be, impl_OnGot_r, stepOf_eq r hs, impl_mayHear_eq r r [] [] m 4 hs hm, some_bind']
  cases h : hearO r m 4 with
  | false => simp only [Bool.not_false, cond_true, cond_false, impl_none_eq r r [] [] hs, some_bind']
  | true =>
    simp only [Bool.not_true, cond_true, cond_false, impl_followTerm_eq, some_bind']
    unfold followT
    by_cases ht : m.2.2.1 ≤ (rHard r).1
    · simp only [decide_eq_true ht, Bool.not_true, cond_true, cond_false]
      by_cases h3 : rRole r = 3
      · by_cases h4 : m.2.2.1 = (rHard r).1
        · obtain ⟨i, v, u, e1, e2, e3, e4, b1, b2, b3, b4, b5, b6, hsend, ⟨l1, l2⟩, hml, c0, c1⟩ := lead_facts h h3
          have d0 : decide (0 ≤ (i : Int)) = true := decide_eq_true (by omega)
          have d1 : decide ((i : Int) < ((rNext r).length : Int)) = true := decide_eq_true (by omega)
          have d2 : decide ((i : Int) < ((rMat r).length : Int)) = true := decide_eq_true (by omega)
          have he : rEnd r = ((rLog r).length : Int) := rfl
          have hlog := hsend.2.1
          have w1 : wr .i64 (u - 1) = u - 1 := wr64 (by omega)
          have w2 : wr .i64 (m.2.2.2.1 + 1) = m.2.2.2.1 + 1 := wr64 (by omega)
          simp only [decide_eq_true h3, decide_eq_true h4, Bool.not_true, Bool.and_self, cond_true, cond_false, e1, Int.toNat_natCast]
          cases hy : m.2.2.2.2.2.2.1 with
          | false =>
            simp only [Bool.not_false, cond_true, cond_false, idx_nat, e4, some_bind', d0, d1, Bool.and_self, w1, w2, Int.toNat_natCast]
            have hb : backV r i m.2.2.2.1 = mxI 1 (mnI (u - 1) (m.2.2.2.1 + 1)) := by unfold backV; rw [e4]; rfl
            have q := impl_send_eq (backR r i m.2.2.2.1) r [] [] (backR_send hsend e4 b5) i e2 (by simp)
            rw [← hb]
            refine bind_of q ?_
            refine bind_of (impl_end_eq _ r [] _ (by simp)) ?_
            rw [endR_same (q := backR r i m.2.2.2.1) (r := r) [] rfl rfl]
            rfl
          | true =>
            simp only [Bool.not_true, cond_true, cond_false]
            by_cases h5 : m.2.2.2.1 ≤ rEnd r
            · have d5 : decide (m.2.2.2.1 ≤ ((rLog r).length : Int)) = true := decide_eq_true h5
              have hb : gotV r i m.2.2.2.1 = mxI v m.2.2.2.1 := by unfold gotV; rw [e3]; rfl
              have d6 : decide ((i : Int) < (((rMat r).set i (mxI v m.2.2.2.1)).length : Int)) = true := decide_eq_true (by rw [List.length_set]; omega)
              have e5 : ((rMat r).set i (mxI v m.2.2.2.1))[i]? = some (mxI v m.2.2.2.1) := by rw [List.getElem?_set_self l1]
              have w3 : wr .i64 (mxI v m.2.2.2.1 + 1) = mxI v m.2.2.2.1 + 1 := wr64 (by rw [mxI_eq]; omega)
              simp only [d5, decide_eq_true h5, cond_true, idx_nat, e3, e4, some_bind', d0, d1, d2, Bool.and_self, Int.toNat_natCast, d6, e5, w3]
              have q := impl_commit_eq (gotR r i m.2.2.2.1) r [] [] (gotR_com hsend hml c0 c1)
              rw [← hb]
              refine bind_of q ?_
              refine bind_of (impl_end_eq _ r [] _ (by simp)) ?_
              rw [endR_same (q := setCom (gotR r i m.2.2.2.1) (comO (gotR r i m.2.2.2.1))) (r := r) [] rfl rfl]
            · have d5 : decide (m.2.2.2.1 ≤ ((rLog r).length : Int)) = false := decide_eq_false h5
              simp only [d5, decide_eq_false h5, cond_false, impl_end_eq r r [] [] (by simp), some_bind', endR_same (q := r) (r := r) [] rfl rfl]
        · simp only [decide_eq_true h3, decide_eq_false h4, Bool.not_true, Bool.not_false, Bool.and_false, cond_true, cond_false, impl_end_eq r r [] [] (by simp), some_bind', endR_same (q := r) (r := r) [] rfl rfl]
      · simp only [decide_eq_false h3, Bool.not_false, Bool.false_and, cond_true, cond_false, impl_end_eq r r [] [] (by simp), some_bind', endR_same (q := r) (r := r) [] rfl rfl]
    · have e1 : (rHard (followO r m.2.2.1)).1 ≠ (rHard r).1 := by show m.2.2.1 ≠ (rHard r).1; omega
      simp only [decide_eq_false ht, Bool.not_false, cond_true, cond_false, impl_end_eq (followO r m.2.2.1) r [] [] (by simp), some_bind', endR_diff [] e1]
theorem spec_OnGot_eq (r : RaftT) (m : MsgT) (hs : RaftS r) (hm : lok (eEnts m) = true) : spec_OnGot r m = some (onGotO r m) := by
  rw [spec_OnGot_def]
  unfold onGotO
  simp only [spec_OnGot_d, spec_OnGot_be, spec_OnGot_r, spec_l10Same_eq r hs, spec_l10Hears_eq r m 4 hs hm, some_bind']
  cases h : hearO r m 4 with
  | false => simp only [Bool.not_false, cond_true, cond_false]
  | true =>
    have g1 := (hearO_out h).1
    have hsame : sameO r = r := by unfold sameO; rw [g1]; rfl
    simp only [Bool.not_true, cond_true, cond_false, hsame]
    by_cases ht : m.2.2.1 ≤ (rHard r).1
    · have dt : decide (m.2.2.1 > (rHard r).1) = false := decide_eq_false (by omega)
      simp only [dt, decide_eq_true ht, cond_true, cond_false]
      by_cases h3 : rRole r = 3
      · by_cases h4 : m.2.2.1 = (rHard r).1
        · obtain ⟨i, v, u, e1, e2, e3, e4, b1, b2, b3, b4, b5, b6, hsend, ⟨l1, l2⟩, hml, c0, c1⟩ := lead_facts h h3
          have d0 : decide (0 ≤ (i : Int)) = true := decide_eq_true (by omega)
          have d1 : decide ((i : Int) < ((rNext r).length : Int)) = true := decide_eq_true (by omega)
          have d2 : decide ((i : Int) < ((rMat r).length : Int)) = true := decide_eq_true (by omega)
          have he : rEnd r = ((rLog r).length : Int) := rfl
          have hlog := hsend.2.1
          have w1 : wr .i64 (u - 1) = u - 1 := wr64 (by omega)
          have w2 : wr .i64 (m.2.2.2.1 + 1) = m.2.2.2.1 + 1 := wr64 (by omega)
          simp only [decide_eq_true h3, decide_eq_true h4, Bool.not_true, Bool.and_self, cond_true, cond_false, e1, Int.toNat_natCast]
          cases hy : m.2.2.2.2.2.2.1 with
          | false =>
            have d7 : ∀ o : OutT, decide ((([] : List OutT).length + ([o] : List OutT).length) * 168 ≤ 140737488355328) = true := fun o => rfl
            have hb : backV r i m.2.2.2.1 = mxI 1 (min (u - 1) (m.2.2.2.1 + 1)) := by unfold backV; rw [e4, mnI_eq]; rfl
            simp only [cond_false, idx_nat, e4, some_bind', d0, d1, Bool.and_self, cond_true, w1, w2, spec_l1Min_eq, spec_l1Max_eq, Int.toNat_natCast]
            have q := spec_send_eq (backR r i m.2.2.2.1) (backR_send hsend e4 b5) i e2
            rw [← hb]
            refine bind_of q ?_
            rw [d7]
            rfl
          | true =>
            simp only [cond_true, spec_l10End_eq, some_bind']
            by_cases h5 : m.2.2.2.1 ≤ rEnd r
            · have hb : gotV r i m.2.2.2.1 = mxI v m.2.2.2.1 := by unfold gotV; rw [e3]; rfl
              have d6 : decide ((i : Int) < (((rMat r).set i (mxI v m.2.2.2.1)).length : Int)) = true := decide_eq_true (by rw [List.length_set]; omega)
              have e5 : ((rMat r).set i (mxI v m.2.2.2.1))[i]? = some (mxI v m.2.2.2.1) := by rw [List.getElem?_set_self l1]
              have w3 : wr .i64 (mxI v m.2.2.2.1 + 1) = mxI v m.2.2.2.1 + 1 := wr64 (by rw [mxI_eq]; omega)
              simp only [decide_eq_true h5, cond_true, idx_nat, e3, e4, some_bind', d0, d1, d2, Bool.and_self, Int.toNat_natCast, spec_l1Max_eq, d6, e5, w3]
              have q := spec_commit_eq (gotR r i m.2.2.2.1) (gotR_com hsend hml c0 c1)
              rw [← hb]
              exact bind_of q rfl
            · simp only [decide_eq_false h5, cond_false]
        · simp only [decide_eq_true h3, decide_eq_false h4, Bool.not_true, Bool.not_false, Bool.and_false, cond_true, cond_false]
      · simp only [decide_eq_false h3, Bool.not_false, Bool.false_and, cond_true, cond_false]
    · have dt : decide (m.2.2.1 > (rHard r).1) = true := decide_eq_true (by omega)
      have d7 : ∀ o : RecT, decide ((([] : List RecT).length + ([o] : List RecT).length) * 88 ≤ 140737488355328) = true := fun o => rfl
      simp only [dt, decide_eq_false ht, cond_true, cond_false, spec_l10Follow_eq, some_bind', spec_l10Vote_eq, d7, List.nil_append]
end Go.TM


/- OnGot: the program's and the reference's say the same of every node and message. -/
set_option linter.unusedVariables false
set_option linter.unusedSimpArgs false
set_option linter.unusedSectionVars false
set_option maxRecDepth 10000
-- left out: impl_RaftBeat_eq impl_ask_eq impl_ask_go impl_had_eq impl_sendAll_eq impl_sendAll_go spec_RaftBeat_eq spec_asks_eq spec_asks_go spec_sendAll_eq spec_sendAll_go
namespace Go.TM
open Go

theorem onGotO_z (r : RaftT) (hs : RaftS r) (m : MsgT) : RaftZ (onGotO r m).1 ∧ (onGotO r m).2.1.length ≤ 1000 ∧ OutZ (onGotO r m).2.2 := by
  obtain ⟨s1, s2, s3, s4⟩ := hs.z
  have nil : OutZ [] := ⟨by simp, fun o ho => by cases ho⟩
  unfold onGotO
  cases h : hearO r m 4 with
  | false => exact ⟨sameO_z hs.z, by simp, nil⟩
  | true =>
    cases decide (m.2.2.1 ≤ (rHard r).1) with
    | false => exact ⟨⟨s1, Nat.zero_le _, Nat.zero_le _, Nat.zero_le _⟩, by simp, nil⟩
    | true =>
      cases decide (rRole r = 3) && decide (m.2.2.1 = (rHard r).1) with
      | false => exact ⟨hs.z, by simp, nil⟩
      | true =>
        cases m.2.2.2.2.2.2.1 with
        | true =>
          cases decide (m.2.2.2.1 ≤ rEnd r) with
          | true => exact ⟨⟨s1, s2, by show ((rNext r).set _ _).length ≤ 2000000; rw [List.length_set]; exact s3, by show ((rMat r).set _ _).length ≤ 2000000; rw [List.length_set]; exact s4⟩, by simp, nil⟩
          | false => exact ⟨hs.z, by simp, nil⟩
        | false =>
          refine ⟨⟨s1, s2, by show ((rNext r).set _ _).length ≤ 2000000; rw [List.length_set]; exact s3, s4⟩, by simp, by simp, fun o ho => ?_⟩
          have : o = sendM (backR r m.2.1.toNat m.2.2.2.1) m.2.1.toNat := List.mem_singleton.1 ho
          subst this
          show (((rLog (backR r m.2.1.toNat m.2.2.2.1)).drop _).take 6).length ≤ 1000
          rw [List.length_take]; omega
theorem pure_FnExactOnGot (x0 : RaftK.T) (x1 : MsgK.T) (h : WfK RaftK x0) (h' : WfK MsgK x1) : laws_FnExactOnGot x0 x1 = some true := by
  have hm := wfRaft x0 h
  have hc := wfMsg x1 h'
  obtain ⟨t, e1, ht⟩ := laws_szRaft_eq x0 hm 1048576 (by omega)
  rw [laws_FnExactOnGot_def]
  simp only [laws_FnExactOnGot_d, laws_FnExactOnGot_be, laws_FnExactOnGot_r, e1, some_bind']
  rcases ht with rfl | ⟨h0, hle, hs⟩
  · rfl
  · have d0 : decide (t < 0) = false := decide_eq_false (by omega)
    obtain ⟨t2, e2, ht2⟩ := laws_szMsg_eq x1 hc t (by omega)
    simp only [d0, cond_false, e2, some_bind']
    rcases ht2 with rfl | ⟨h02, _, hl⟩
    · rfl
    · have d0' : decide (t2 < 0) = false := decide_eq_false (by omega)
      have hk : lok (eEnts x1) = true := (lok_iff _).2 (by omega)
      obtain ⟨z1, z2, z3⟩ := onGotO_z x0 hs x1
      obtain ⟨k1, r1, q1, q2, q3, q4, q5⟩ := laws_markRaft_some x0 hs.z 1 (by omega)
      obtain ⟨k3, r3, q6, q7⟩ := laws_markMsg_some x1 k1 hl (by omega)
      obtain ⟨k2, r2, p1, p2, p3, p4, pe⟩ := laws_markRaft_some (onGotO x0 x1).1 z1 1 (by omega)
      have p5 := laws_markRecS_eq (onGotO x0 x1).2.1 k2 (by omega) (by omega)
      have p6 := laws_heldRecS_marked (onGotO x0 x1).2.1 k2 (by omega) (by omega)
      have p7 := mapSt_gR (onGotO x0 x1).2.1 k2
      have p8 := laws_markOutS_eq (onGotO x0 x1).2.2 (mapSt gR (onGotO x0 x1).2.1 k2).2 z3 (by omega)
      have p9 := laws_heldOutS_marked (onGotO x0 x1).2.2 (mapSt gR (onGotO x0 x1).2.1 k2).2 z3 (by omega)
      obtain ⟨m1, m2⟩ := z3.marks (k := (mapSt gR (onGotO x0 x1).2.1 k2).2) (by omega)
      have d1 : decide (k3 < 0) = false := decide_eq_false (by omega)
      have d2 : decide (k2 < 0) = false := decide_eq_false (by omega)
      have d3 : decide ((mapSt gR (onGotO x0 x1).2.1 k2).2 < 0) = false := decide_eq_false (by omega)
      have d4 : decide ((mapSt gO (onGotO x0 x1).2.2 (mapSt gR (onGotO x0 x1).2.1 k2).2).2 < 0) = false := decide_eq_false (by omega)
      simp only [d0', cond_false, laws_toRaft_eq x0 hs, laws_toMsg_eq x1 hl, spec_OnGot_eq x0 x1 hs hk, impl_OnGot_eq x0 x1 hs hk, some_bind', laws_eqRaft_refl (onGotO x0 x1).1 z1, laws_eqRecS_refl (onGotO x0 x1).2.1 (by omega), laws_eqOutS_refl (onGotO x0 x1).2.2 z3, Bool.not_true, beq_self_eq_true, laws_eqRaft_refl x0 hs.z, laws_eqMsg_refl x1 hk, q1, q6, d1, p1, pe, p2, p5, p6, p8, p9, d2, d3, d4, decide_true]
end Go.TM

