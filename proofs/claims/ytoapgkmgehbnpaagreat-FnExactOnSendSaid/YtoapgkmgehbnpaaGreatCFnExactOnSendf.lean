/- Part 6 of the proof that the law FnExactOnSend holds of the program: words, the data machine and its soundness, the program's functions as pure functions, and the plain law; no condition is added. -/
import Derived.Test.YtoapgkmgehbnpaaGreatCFnExactOnSende
/- What a node hears: both sides say the same. -/
set_option linter.unusedVariables false
set_option linter.unusedSimpArgs false
set_option linter.unusedSectionVars false
set_option maxRecDepth 10000
-- left out: impl_RaftBeat_eq impl_ask_eq impl_ask_go impl_had_eq impl_sendAll_eq impl_sendAll_go spec_RaftBeat_eq spec_asks_eq spec_asks_go spec_sendAll_eq spec_sendAll_go
namespace Go.TM
open Go

abbrev eEnts (m : MsgT) : List EntT := m.2.2.2.2.2.2.2.2.2.2.2
theorem fits_all {m : MsgT} (h : msgFits m = true) : (0 ≤ m.2.1 ∧ m.2.1 ≤ 4) ∧ (m.1 = 1 ∨ m.1 = 2 ∨ m.1 = 3 ∨ m.1 = 4 → 0 ≤ m.2.2.1 ∧ m.2.2.1 ≤ 1000000000) ∧ (m.1 = 1 ∨ m.1 = 3 ∨ m.1 = 4 → 0 ≤ m.2.2.2.1 ∧ m.2.2.2.1 ≤ 80) ∧ (m.1 = 1 ∨ m.1 = 3 → 0 ≤ m.2.2.2.2.1 ∧ m.2.2.2.2.1 ≤ 1000000000) ∧ (m.1 = 3 → 0 ≤ m.2.2.2.2.2.1 ∧ m.2.2.2.2.2.1 ≤ 80) ∧ (m.1 = 3 → (eEnts m).length ≤ 6) ∧ ∀ e, e ∈ eEnts m → entOk e = true := by
  unfold msgFits at h
  simp only [Bool.and_eq_true, List.any_cons, List.any_nil, Bool.or_false] at h
  obtain ⟨_, h1, h2, h3, h4, h5, _, _, _, _, h10, _, h12⟩ := h
  refine ⟨inR_iff.1 h1, fun hk => ?_, fun hk => ?_, fun hk => ?_, fun hk => ?_, fun hk => ?_, fun e he => List.all_eq_true.1 h12 e he⟩
  · have : (decide (m.1 = 1) || (decide (m.1 = 2) || (decide (m.1 = 3) || decide (m.1 = 4)))) = true := by simp; omega
    rw [this] at h2; exact inR_iff.1 h2
  · have : (decide (m.1 = 1) || (decide (m.1 = 3) || decide (m.1 = 4))) = true := by simp; omega
    rw [this] at h3; exact inR_iff.1 h3
  · have : (decide (m.1 = 1) || decide (m.1 = 3)) = true := by simp; omega
    rw [this] at h4; exact inR_iff.1 h4
  · rw [decide_eq_true hk] at h5; exact inR_iff.1 h5
  · rw [decide_eq_true hk] at h10
    have h10 : inR (m.2.2.2.2.2.2.2.2.2.2.2.length : Int) 0 6 = true := h10
    have h10 := inR_iff.1 h10
    have e : (m.2.2.2.2.2.2.2.2.2.2.2.length : Int) = ((eEnts m).length : Int) := rfl
    omega
def hearO (r : RaftT) (m : MsgT) (k : Int) : Bool := raftO r && (msgFits m && (decide (m.1 = k) && (decide (m.2.1 < rOf r) && !decide (m.2.1 = r.1))))
theorem impl_mayHear_eq (x was : RaftT) (recs : List RecT) (outs : List OutT) (m : MsgT) (k : Int) (h : RaftS was) (hm : lok (eEnts m) = true) : impl_stepper_mayHear (x, was, recs, outs) m k = some (hearO was m k, (x, was, recs, outs)) := by
  rw [impl_stepper_mayHear_def]
  unfold hearO
  simp only [impl_stepper_mayHear_d, impl_stepper_mayHear_be, impl_stepper_mayHear_r, impl_RaftOk_eq was h, impl_MsgFits_eq m hm, some_bind']
  cases raftO was <;> cases msgFits m <;> cases decide (m.1 = k) <;> cases decide (m.2.1 < rOf was) <;> rfl
theorem spec_l10Hears_eq (r : RaftT) (m : MsgT) (k : Int) (h : RaftS r) (hm : lok (eEnts m) = true) : spec_l10Hears r m k = some (hearO r m k) := by
  rw [spec_l10Hears_def]
  unfold hearO
  simp only [spec_l10Hears_d, spec_l10Hears_be, spec_l10Hears_r, spec_RaftOk_eq r h, spec_MsgFits_eq m hm, some_bind']
  cases raftO r <;> cases msgFits m <;> cases decide (m.1 = k) <;> cases decide (m.2.1 < rOf r) <;> rfl
theorem hearO_out {r : RaftT} {m : MsgT} {k : Int} (h : hearO r m k = true) : raftO r = true ∧ msgFits m = true ∧ m.1 = k ∧ m.2.1 < rOf r ∧ m.2.1 ≠ r.1 := by
  unfold hearO at h
  simp only [Bool.and_eq_true, decide_eq_true_eq, Bool.not_eq_true', decide_eq_false_iff_not] at h
  exact h
def restO (r : RaftT) : RaftT := (r.1, rOf r, 1, rCom r, rHard r, [], [], [])
def followO (r : RaftT) (t : Int) : RaftT := (r.1, rOf r, 1, rCom r, (t, 0, rLog r), [], [], [])
def followT (r : RaftT) (t : Int) : RaftT := bif decide (t ≤ (rHard r).1) then r else followO r t
theorem impl_follow_eq (r was : RaftT) (recs : List RecT) (outs : List OutT) : impl_stepper_follow (r, was, recs, outs) = some (restO r, was, recs, outs) := by
  rw [impl_stepper_follow_def]; rfl
theorem impl_followTerm_eq (r was : RaftT) (recs : List RecT) (outs : List OutT) (t : Int) : impl_stepper_followTerm (r, was, recs, outs) t = some (!decide (t ≤ (rHard r).1), (followT r t, was, recs, outs)) := by
  rw [impl_stepper_followTerm_def]
  unfold followT
  simp only [impl_stepper_followTerm_d, impl_stepper_followTerm_be, impl_stepper_followTerm_r, impl_follow_eq, some_bind']
  cases decide (t ≤ (rHard r).1) <;> rfl
theorem spec_l10Rest_eq (r : RaftT) : spec_l10Rest r = some (restO r) := by
  rw [spec_l10Rest_def]; rfl
theorem spec_l10Follow_eq (r : RaftT) (t : Int) : spec_l10Follow r t = some (followO r t) := by
  rw [spec_l10Follow_def]
  simp only [spec_l10Follow_d, spec_l10Follow_be, spec_l10Follow_r, spec_l10Rest_eq, some_bind']
  rfl
theorem followT_log (r : RaftT) (t : Int) : rLog (followT r t) = rLog r := by
  unfold followT
  cases decide (t ≤ (rHard r).1) <;> rfl
/-! ### Messages in the laws -/
def MsgM (m : MsgT) : Prop := m.2.2.2.2.2.2.2.2.2.1.size ≤ 140737488355328 ∧ m.2.2.2.2.2.2.2.2.2.2.1.2.2.2.2.size ≤ 140737488355328 ∧ (eEnts m).length ≤ 140737488355328 ∧ ∀ e, e ∈ eEnts m → e.2.2.2.2.2.size ≤ 140737488355328
theorem laws_szMsg_eq (m : MsgT) (h : MsgM m) (l : Int) (hl : 0 ≤ l ∧ l ≤ 1048576) : ∃ t, laws_szMsg m l = some t ∧ (t = -1 ∨ (0 ≤ t ∧ t ≤ l ∧ (eEnts m).length ≤ 1048576)) := by
  obtain ⟨h1, h2, h3, h4⟩ := h
  rw [laws_szMsg_def]
  have w : wr .i64 (l - (m.2.2.2.2.2.2.2.2.2.1.size : Int)) = l - (m.2.2.2.2.2.2.2.2.2.1.size : Int) := wr64 (by omega)
  simp only [laws_szMsg_d, laws_szMsg_be, laws_szMsg_r, w]
  by_cases c1 : l - (m.2.2.2.2.2.2.2.2.2.1.size : Int) < 0
  · rw [decide_eq_true c1]; exact ⟨-1, rfl, .inl rfl⟩
  · rw [decide_eq_false c1, cond_false, laws_szCmd_eq _ _ (by omega) h2, some_bind']
    by_cases c2 : l - (m.2.2.2.2.2.2.2.2.2.1.size : Int) - (m.2.2.2.2.2.2.2.2.2.2.1.2.2.2.2.size : Int) < 0
    · rw [if_pos c2]; exact ⟨-1, rfl, .inl rfl⟩
    · rw [if_neg c2, decide_eq_false c2, cond_false]
      obtain ⟨t1, e1, g1, k1⟩ := laws_szEntryS_eq (eEnts m) (l - (m.2.2.2.2.2.2.2.2.2.1.size : Int) - (m.2.2.2.2.2.2.2.2.2.2.1.2.2.2.2.size : Int)) (by omega) ((lok_iff _).2 h3) h4
      rw [e1, some_bind']
      rcases k1 with rfl | ⟨k1, m1⟩
      · exact ⟨-1, rfl, .inl rfl⟩
      · have d1 : decide (t1 < 0) = false := decide_eq_false (by omega)
        rw [d1, cond_false]
        exact ⟨t1, rfl, .inr ⟨k1, by omega, by omega⟩⟩
theorem laws_markMsg_some (m : MsgT) (k : Int) (hx : (eEnts m).length ≤ 1048576) (hk : 0 ≤ k ∧ k ≤ 100000000000) : ∃ k' m', laws_markMsg m k = some (k', m') ∧ k ≤ k' := by
  rw [laws_markMsg_def]
  simp only [laws_markMsg_d, laws_markMsg_be, laws_markMsg_r, laws_markEntryS_eq (eEnts m) k hx hk, some_bind', mapSt_gE]
  exact ⟨_, _, rfl, by omega⟩
abbrev MsgK : K := .pair (.int .i64) (.pair (.int .i64) (.pair (.int .i64) (.pair (.int .i64) (.pair (.int .i64) (.pair (.int .i64) (.pair .bool (.pair (.int .i64) (.pair (.int .i64) (.pair .str (.pair (.pair (.int .i64) (.pair (.int .i64) (.pair (.int .i64) (.pair (.int .i64) .str)))) (.list EntK)))))))))))
theorem wfMsg (m : MsgK.T) (h : WfK MsgK m) : MsgM m := by
  have hr : reachBytes ≤ 140737488355328 := by decide
  obtain ⟨_, _, _, _, _, _, _, _, _, h1, ⟨_, _, _, _, h2⟩, h3, h4⟩ := h
  refine ⟨Nat.le_trans h1 hr, Nat.le_trans h2 hr, Nat.le_trans h3 hr, fun e he => ?_⟩
  obtain ⟨_, _, _, _, _, h6⟩ := h4 e he
  exact Nat.le_trans h6 hr

/-! ### Small words -/
theorem spec_l1Max_eq (a b : Int) : spec_l1Max a b = some (mxI a b) := by
  rw [spec_l1Max_def, mxI_eq]
  simp only [spec_l1Max_d, spec_l1Max_be, spec_l1Max_r]
  by_cases h : a > b
  · rw [decide_eq_true h, cond_true]; congr 1; omega
  · rw [decide_eq_false h, cond_false]; congr 1; omega

def setCom (r : RaftT) (c : Int) : RaftT := (r.1, rOf r, rRole r, c, rHard r, rYes r, rNext r, rMat r)
theorem endR_same {q r : RaftT} (recs : List RecT) (e1 : (rHard q).1 = (rHard r).1) (e2 : (rHard q).2.1 = (rHard r).2.1) : endR q r recs = recs := by
  unfold endR
  rw [e1, e2, decide_eq_true rfl, decide_eq_true rfl]; rfl
theorem endR_diff {q r : RaftT} (recs : List RecT) (e1 : (rHard q).1 ≠ (rHard r).1) : endR q r recs = recV q :: recs := by
  unfold endR
  rw [decide_eq_false e1]; rfl
theorem endR_of {q R was : RaftT} (recs : List RecT) (e1 : (rHard q).1 = (rHard R).1) (e2 : (rHard q).2.1 = (rHard R).2.1) : endR q was recs = endR R was [] ++ recs := by
  unfold endR recV
  rw [e1, e2]
  cases (decide ((rHard R).1 = (rHard was).1) && decide ((rHard R).2.1 = (rHard was).2.1)) <;> rfl
end Go.TM


/- Sent what to hold: both sides say the same. -/
set_option linter.unusedVariables false
set_option linter.unusedSimpArgs false
set_option linter.unusedSectionVars false
set_option maxRecDepth 10000
-- left out: impl_RaftBeat_eq impl_ask_eq impl_ask_go impl_had_eq impl_sendAll_eq impl_sendAll_go spec_RaftBeat_eq spec_asks_eq spec_asks_go spec_sendAll_eq spec_sendAll_go
namespace Go.TM
open Go

theorem dropC {α : Type} {l : List α} {i : Nat} {v : α} {es : List α} (h : l.drop i = v :: es) : l[i]? = some v ∧ l.drop (i + 1) = es := by
  constructor
  · have := congrArg (fun z : List α => z[0]?) h
    simpa [List.getElem?_drop] using this
  · have := congrArg (fun z : List α => z.drop 1) h
    simpa [List.drop_drop] using this
/-! ### Whether the entries may be -/
def rowB (top : Int) : Int → List EntT → Bool
  | _, [] => true
  | p, e :: es => inR e.1 p top && rowB top e.1 es
def rowP (m : MsgT) : Int := bif decide (m.2.2.2.1 = 0) then 0 else m.2.2.2.2.1
def fitsB (l : List EntT) (a : Nat) (t : Int) : Bool := decide (a ≤ l.length) && (decide (a = 0) || decide (termL l a = t))
def cutF (l : List EntT) (com : Int) : Nat → List EntT → Bool
  | _, [] => false
  | k, e :: es => if k ≤ l.length then (if termL l k = e.1 then cutF l com (k + 1) es else decide ((k : Int) - 1 < com)) else false
def atN (m : MsgT) : Nat := m.2.2.2.1.toNat
def fitsM (r : RaftT) (m : MsgT) : Bool := fitsB (rLog r) (atN m) m.2.2.2.2.1
def sendB (r : RaftT) (m : MsgT) : Bool := rowB m.2.2.1 (rowP m) (eEnts m) && !(fitsM r m && cutF (rLog r) (rCom r) (atN m + 1) (eEnts m))
theorem impl_inRow_eq (m : MsgT) (hm : lok (eEnts m) = true) : impl_inRow m = some (rowB m.2.2.1 (rowP m) (eEnts m)) := by
  have go : ∀ (es : List EntT) (p : Int), foldE (fun v (s : Int) => impl_inRow_G m v s) (fun (s : Int) => impl_inRow_fin s) es p = some (rowB m.2.2.1 p es) := by
    intro es
    induction es with
    | nil => intro p; rfl
    | cons e es ih =>
      intro p
      rw [foldE, rowB]
      unfold impl_inRow_G
      rw [impl_within_eq, some_bind']
      cases inR e.1 p m.2.2.1 with
      | true => exact ih e.1
      | false => rfl
  have c : ∀ p, impl_inRow_c m p (eEnts m) ((eEnts m).length : Int) 0 = some (rowB m.2.2.1 p (eEnts m)) := fun p => by
    simp only [impl_inRow_c, hm, decide_true, Bool.and_self, cond_true]
    exact go _ p
  rw [impl_inRow_def]
  unfold rowP
  simp only [impl_inRow_d, impl_inRow_be, impl_inRow_r]
  by_cases h : m.2.2.2.1 = 0
  · rw [decide_eq_true h]
    exact c 0
  · rw [decide_eq_false h]
    exact c _
theorem impl_fits_eq (l : List EntT) (m : MsgT) (ha : 0 ≤ m.2.2.2.1) (hl : l.length ≤ 80) : impl_fits l m = some (fitsB l (atN m) m.2.2.2.2.1) := by
  have e : m.2.2.2.1 = ((atN m : Nat) : Int) := (Int.toNat_of_nonneg ha).symm
  rw [impl_fits_def]
  unfold fitsB
  simp only [impl_fits_d, impl_fits_be, impl_fits_r, e]
  by_cases h1 : atN m ≤ l.length
  · have d1 : decide (((atN m : Nat) : Int) ≤ (l.length : Int)) = true := decide_eq_true (by omega)
    rw [d1, decide_eq_true h1, termAt_eq l _ h1 (by omega)]
    by_cases h2 : atN m = 0
    · have d2 : decide (((atN m : Nat) : Int) = 0) = true := decide_eq_true (by omega)
      rw [d2, decide_eq_true h2]; rfl
    · have d2 : decide (((atN m : Nat) : Int) = 0) = false := decide_eq_false (by omega)
      rw [d2, decide_eq_false h2]; rfl
  · have d1 : decide (((atN m : Nat) : Int) ≤ (l.length : Int)) = false := decide_eq_false (by omega)
    rw [d1, decide_eq_false h1]; rfl
theorem impl_cuts_go (r : RaftT) (m : MsgT) (ha : 0 ≤ m.2.2.2.1 ∧ m.2.2.2.1 ≤ 80) (hl : (rLog r).length ≤ 80) (hm : (eEnts m).length ≤ 1048576) : ∀ (es : List EntT) (i : Nat), (eEnts m).drop i = es → i + es.length = (eEnts m).length →
    Ev (fun n => impl_cutsBelow_l5 n r m (rLog r) (eEnts m) ((eEnts m).length : Int) (i : Int)) (cutF (rLog r) (rCom r) (atN m + i + 1) es)
  | [], i, hd, hi => by
    have hi : i = (eEnts m).length := hi
    refine Ev.step (g := fun _ => some false) (fun n => ?_) Ev.const
    have d : decide ((i : Int) < ((eEnts m).length : Int)) = false := decide_eq_false (by omega)
    simp only [impl_cutsBelow_l5, impl_cutsBelow_ls, impl_cutsBelow_b5, impl_cutsBelow_r, d, cond_false]
  | e :: es, i, hd, hi => by
    rw [List.length_cons] at hi
    obtain ⟨hv, hd'⟩ := dropC hd
    have ea : m.2.2.2.1 = ((atN m : Nat) : Int) := (Int.toNat_of_nonneg ha.1).symm
    have hb : atN m ≤ 80 := by omega
    have d : decide ((i : Int) < ((eEnts m).length : Int)) = true := decide_eq_true (by omega)
    have w1 : wr .i64 (((atN m : Nat) : Int) + (i : Int)) = ((atN m + i : Nat) : Int) := by rw [wr64 (by omega)]; omega
    have w2 := wnat (atN m + i) (by omega)
    have w3 : wr .i64 (((atN m + i + 1 : Nat) : Int) - 1) = ((atN m + i : Nat) : Int) := by rw [wr64 (by omega)]; omega
    have w4 := wnat i (by omega)
    rw [cutF]
    by_cases h1 : atN m + i + 1 ≤ (rLog r).length
    · have d1 : decide (((atN m + i + 1 : Nat) : Int) > ((rLog r).length : Int)) = false := decide_eq_false (by omega)
      have ht := termAt_eq (rLog r) (atN m + i + 1) h1 (by omega)
      rw [if_pos h1]
      by_cases h2 : termL (rLog r) (atN m + i + 1) = e.1
      · rw [if_pos h2]
        have ih := impl_cuts_go r m ha hl hm es (i + 1) hd' (by omega)
        have e2 : atN m + (i + 1) + 1 = atN m + i + 1 + 1 := by omega
        rw [e2] at ih
        refine Ev.step (fun n => ?_) ih
        simp only [impl_cutsBelow_l5, impl_cutsBelow_ls, impl_cutsBelow_b5, impl_cutsBelow_r, d, cond_true, idx_nat, hv, some_bind', ea, w1, w2, d1, cond_false, ht, decide_eq_true h2, Bool.not_true, w4]
      · rw [if_neg h2, show ((atN m + i + 1 : Nat) : Int) - 1 = ((atN m + i : Nat) : Int) from by omega]
        refine Ev.step (g := fun _ => some _) (fun n => ?_) Ev.const
        simp only [impl_cutsBelow_l5, impl_cutsBelow_ls, impl_cutsBelow_b5, impl_cutsBelow_r, d, cond_true, idx_nat, hv, some_bind', ea, w1, w2, d1, cond_false, ht, decide_eq_false h2, Bool.not_false, w3]
    · have d1 : decide (((atN m + i + 1 : Nat) : Int) > ((rLog r).length : Int)) = true := decide_eq_true (by omega)
      rw [if_neg h1]
      refine Ev.step (g := fun _ => some false) (fun n => ?_) Ev.const
      simp only [impl_cutsBelow_l5, impl_cutsBelow_ls, impl_cutsBelow_b5, impl_cutsBelow_r, d, cond_true, idx_nat, hv, some_bind', ea, w1, w2, d1]
theorem impl_cutsBelow_eq (r : RaftT) (m : MsgT) (ha : 0 ≤ m.2.2.2.1 ∧ m.2.2.2.1 ≤ 80) (hl : (rLog r).length ≤ 80) (hm : (eEnts m).length ≤ 1048576) : impl_cutsBelow r m = some (fitsM r m && cutF (rLog r) (rCom r) (atN m + 1) (eEnts m)) := by
  rw [impl_cutsBelow_def]
  unfold fitsM
  have hf := impl_fits_eq (rLog r) m ha.1 hl
  cases h : fitsB (rLog r) (atN m) m.2.2.2.2.1 with
  | false =>
    rw [h] at hf
    refine lim_of 0 fun n => ?_
    simp only [impl_cutsBelow_be, impl_cutsBelow_r, hf, some_bind', Bool.not_false, cond_true, Bool.false_and]
  | true =>
    rw [h] at hf
    refine lim_ev (Ev.congr (fun n => ?_) (impl_cuts_go r m ha hl hm (eEnts m) 0 rfl (by omega)))
    simp only [impl_cutsBelow_be, impl_cutsBelow_r, hf, some_bind', Bool.not_true, cond_false]
    rfl
theorem sf5 (n : Nat) : spec_l10Fits_l5 (n + 1) = spec_l10Fits_b5 (spec_l10Fits_l5 n) (spec_l10Fits_l13 n) spec_l10Fits_r := rfl
theorem sf13 (n : Nat) : spec_l10Fits_l13 (n + 1) = spec_l10Fits_b13 (spec_l10Fits_l5 n) (spec_l10Fits_l13 n) spec_l10Fits_r := rfl
theorem spec_fits2_go (r : RaftT) (m : MsgT) (ha : 0 ≤ m.2.2.2.1 ∧ m.2.2.2.1 ≤ 80) (hl : (rLog r).length ≤ 80) (hc : 0 ≤ rCom r ∧ rCom r ≤ rEnd r) (hm : (eEnts m).length ≤ 1048576) : ∀ (es : List EntT) (i : Nat), (eEnts m).drop i = es → i + es.length = (eEnts m).length →
    Ev (fun n => spec_l10Fits_l13 n r m (i : Int)) (!cutF (rLog r) (rCom r) (atN m + i + 1) es)
  | [], i, hd, hi => by
    have hi : i = (eEnts m).length := hi
    refine Ev.step (g := fun _ => some true) (fun n => ?_) Ev.const
    have d : decide ((i : Int) < ((eEnts m).length : Int)) = false := decide_eq_false (by omega)
    rw [sf13]
    simp only [spec_l10Fits_b13, spec_l10Fits_r, d, cond_false]
  | e :: es, i, hd, hi => by
    rw [List.length_cons] at hi
    obtain ⟨hv, hd'⟩ := dropC hd
    have ea : m.2.2.2.1 = ((atN m : Nat) : Int) := (Int.toNat_of_nonneg ha.1).symm
    have hb : atN m ≤ 80 := by omega
    have he : rEnd r = ((rLog r).length : Int) := rfl
    have d : decide ((i : Int) < ((eEnts m).length : Int)) = true := decide_eq_true (by omega)
    have w1 := wnat (atN m) (by omega)
    have w2 : wr .i64 (((atN m + 1 : Nat) : Int) + (i : Int)) = ((atN m + i + 1 : Nat) : Int) := by rw [wr64 (by omega)]; omega
    have w4 := wnat i (by omega)
    rw [cutF]
    by_cases h1 : atN m + i + 1 ≤ (rLog r).length
    · have ht := spec_l10Term_eq (rHard r) (atN m + i + 1) h1 (by have : (rHard r).2.2.length = (rLog r).length := rfl; omega)
      have d1 : decide (((atN m + i + 1 : Nat) : Int) > rEnd r) = false := decide_eq_false (by omega)
      rw [if_pos h1]
      by_cases h2 : termL (rLog r) (atN m + i + 1) = e.1
      · rw [if_pos h2]
        have ih := spec_fits2_go r m ha hl hc hm es (i + 1) hd' (by omega)
        have e2 : atN m + (i + 1) + 1 = atN m + i + 1 + 1 := by omega
        rw [e2] at ih
        refine Ev.step (fun n => ?_) ih
        rw [sf13]
        cases hcc : decide (((atN m + i + 1 : Nat) : Int) ≤ rCom r) <;>
        simp only [spec_l10Fits_b13, spec_l10Fits_r, d, cond_true, idx_nat, hv, some_bind', ea, w1, w2, hcc, cond_false, ht, decide_eq_true h2, Bool.not_true, spec_l10End_eq, d1, w4]
      · rw [if_neg h2]
        refine Ev.step (g := fun _ => some _) (fun n => ?_) Ev.const
        rw [sf13]
        by_cases hcc : ((atN m + i + 1 : Nat) : Int) ≤ rCom r
        · have d2 : decide (((atN m + i + 1 : Nat) : Int) - 1 < rCom r) = true := decide_eq_true (by omega)
          simp only [spec_l10Fits_b13, spec_l10Fits_r, d, cond_true, idx_nat, hv, some_bind', ea, w1, w2, decide_eq_true hcc, ht, decide_eq_false h2, Bool.not_false, d2, Bool.not_true]
        · have d2 : decide (((atN m + i + 1 : Nat) : Int) - 1 < rCom r) = false := decide_eq_false (by omega)
          simp only [spec_l10Fits_b13, spec_l10Fits_r, d, cond_true, cond_false, idx_nat, hv, some_bind', ea, w1, w2, decide_eq_false hcc, ht, decide_eq_false h2, Bool.not_false, d2, spec_l10End_eq, d1]
    · have hcc : ¬ ((atN m + i + 1 : Nat) : Int) ≤ rCom r := by omega
      have d1 : decide (((atN m + i + 1 : Nat) : Int) > rEnd r) = true := decide_eq_true (by omega)
      rw [if_neg h1]
      refine Ev.step (g := fun _ => some true) (fun n => ?_) Ev.const
      rw [sf13]
      simp only [spec_l10Fits_b13, spec_l10Fits_r, d, cond_true, cond_false, idx_nat, hv, some_bind', ea, w1, w2, decide_eq_false hcc, spec_l10End_eq, d1]
theorem spec_fits1_go (r : RaftT) (m : MsgT) (ha : 0 ≤ m.2.2.2.1 ∧ m.2.2.2.1 ≤ 80) (hl : (rLog r).length ≤ 80) (hc : 0 ≤ rCom r ∧ rCom r ≤ rEnd r) (hm : (eEnts m).length ≤ 1048576) : ∀ (es : List EntT) (i : Nat) (p : Int), (eEnts m).drop i = es → i + es.length = (eEnts m).length →
    Ev (fun n => spec_l10Fits_l5 n r m p (i : Int)) (rowB m.2.2.1 p es && !(fitsM r m && cutF (rLog r) (rCom r) (atN m + 1) (eEnts m)))
  | [], i, p, hd, hi => by
    have hi : i = (eEnts m).length := hi
    have ea : m.2.2.2.1 = ((atN m : Nat) : Int) := (Int.toNat_of_nonneg ha.1).symm
    have he : rEnd r = ((rLog r).length : Int) := rfl
    have d : decide ((i : Int) < ((eEnts m).length : Int)) = false := decide_eq_false (by omega)
    have l13 := spec_fits2_go r m ha hl hc hm (eEnts m) 0 rfl (by omega)
    unfold fitsM fitsB
    rw [rowB, Bool.true_and]
    by_cases h1 : atN m ≤ (rLog r).length
    · have d1 : decide (((atN m : Nat) : Int) > rEnd r) = false := decide_eq_false (by omega)
      have ht := spec_l10Term_eq (rHard r) (atN m) h1 (by have : (rHard r).2.2.length = (rLog r).length := rfl; omega)
      rw [decide_eq_true h1, Bool.true_and]
      by_cases h2 : atN m = 0
      · have d2 : decide (((atN m : Nat) : Int) > 0) = false := decide_eq_false (by omega)
        rw [decide_eq_true h2, Bool.true_or, Bool.true_and]
        refine Ev.step (fun n => ?_) l13
        rw [sf5]
        simp only [spec_l10Fits_b5, spec_l10Fits_r, d, cond_false, spec_l10End_eq, some_bind', ea, d1, d2]
        rfl
      · have d2 : decide (((atN m : Nat) : Int) > 0) = true := decide_eq_true (by omega)
        rw [decide_eq_false h2, Bool.false_or]
        by_cases h3 : termL (rLog r) (atN m) = m.2.2.2.2.1
        · rw [decide_eq_true h3, Bool.true_and]
          refine Ev.step (fun n => ?_) l13
          rw [sf5]
          simp only [spec_l10Fits_b5, spec_l10Fits_r, d, cond_false, cond_true, spec_l10End_eq, some_bind', ea, d1, d2, ht, decide_eq_true h3, Bool.not_true]
          rfl
        · rw [decide_eq_false h3, Bool.false_and]
          refine Ev.step (g := fun _ => some true) (fun n => ?_) Ev.const
          rw [sf5]
          simp only [spec_l10Fits_b5, spec_l10Fits_r, d, cond_false, cond_true, spec_l10End_eq, some_bind', ea, d1, d2, ht, decide_eq_false h3, Bool.not_false]
    · have d1 : decide (((atN m : Nat) : Int) > rEnd r) = true := decide_eq_true (by omega)
      rw [decide_eq_false h1, Bool.false_and, Bool.false_and]
      refine Ev.step (g := fun _ => some true) (fun n => ?_) Ev.const
      rw [sf5]
      simp only [spec_l10Fits_b5, spec_l10Fits_r, d, cond_false, cond_true, spec_l10End_eq, some_bind', ea, d1]
  | e :: es, i, p, hd, hi => by
    rw [List.length_cons] at hi
    obtain ⟨hv, hd'⟩ := dropC hd
    have d : decide ((i : Int) < ((eEnts m).length : Int)) = true := decide_eq_true (by omega)
    have w4 := wnat i (by omega)
    rw [rowB]
    by_cases h1 : e.1 < p
    · have hr : inR e.1 p m.2.2.1 = false := by
        cases hq : inR e.1 p m.2.2.1 with
        | false => rfl
        | true => have := inR_iff.1 hq; omega
      rw [hr, Bool.false_and, Bool.false_and]
      refine Ev.step (g := fun _ => some false) (fun n => ?_) Ev.const
      rw [sf5]
      simp only [spec_l10Fits_b5, spec_l10Fits_r, d, cond_true, idx_nat, hv, some_bind', decide_eq_true h1]
    · by_cases h2 : e.1 > m.2.2.1
      · have hr : inR e.1 p m.2.2.1 = false := by
          cases hq : inR e.1 p m.2.2.1 with
          | false => rfl
          | true => have := inR_iff.1 hq; omega
        rw [hr, Bool.false_and, Bool.false_and]
        refine Ev.step (g := fun _ => some false) (fun n => ?_) Ev.const
        rw [sf5]
        simp only [spec_l10Fits_b5, spec_l10Fits_r, d, cond_true, cond_false, idx_nat, hv, some_bind', decide_eq_false h1, decide_eq_true h2]
      · have hr : inR e.1 p m.2.2.1 = true := inR_iff.2 (by omega)
        rw [hr, Bool.true_and]
        refine Ev.step (fun n => ?_) (spec_fits1_go r m ha hl hc hm es (i + 1) e.1 hd' (by omega))
        rw [sf5]
        simp only [spec_l10Fits_b5, spec_l10Fits_r, d, cond_true, cond_false, idx_nat, hv, some_bind', decide_eq_false h1, decide_eq_false h2, w4]
theorem spec_l10Fits_eq (r : RaftT) (m : MsgT) (ha : 0 ≤ m.2.2.2.1 ∧ m.2.2.2.1 ≤ 80) (hl : (rLog r).length ≤ 80) (hc : 0 ≤ rCom r ∧ rCom r ≤ rEnd r) (hm : (eEnts m).length ≤ 1048576) : spec_l10Fits r m = some (sendB r m) := by
  rw [spec_l10Fits_def]
  unfold sendB rowP
  have q := fun p => spec_fits1_go r m ha hl hc hm (eEnts m) 0 p rfl (by omega)
  by_cases h : m.2.2.2.1 = 0
  · have d : decide (m.2.2.2.1 > 0) = false := decide_eq_false (by omega)
    rw [decide_eq_true h]
    refine lim_ev (Ev.congr (fun n => ?_) (q 0))
    simp only [spec_l10Fits_be, d, cond_false]
    rfl
  · have d : decide (m.2.2.2.1 > 0) = true := decide_eq_true (by omega)
    rw [decide_eq_false h]
    refine lim_ev (Ev.congr (fun n => ?_) (q m.2.2.2.2.1))
    simp only [spec_l10Fits_be, d, cond_true]
    rfl

/-! ### Taking the entries -/
def cutO (r : RaftT) (j : Nat) : RaftT := (r.1, rOf r, rRole r, rCom r, ((rHard r).1, (rHard r).2.1, (rLog r).take j), rYes r, rNext r, rMat r)
def recC (j : Nat) : RecT := (3, 0, 0, (j : Int), 0, 0, 0, 0, 0, ⟨#[]⟩)
/-- The entries es stand from k + 1 on; n: what is held so far. -/
def takeF (r : RaftT) (n : Nat) (k : Nat) : List EntT → RaftT × List RecT × Nat
  | [] => (r, [], n)
  | e :: es =>
    if k + 1 ≤ (rLog r).length then
      if termL (rLog r) (k + 1) = e.1 then takeF r (k + 1) (k + 1) es
      else
        let t := takeF (putO (cutO r k) e) (k + 1) (k + 1) es
        (t.1, recC k :: recP (((k + 1 : Nat) : Int)) e :: t.2.1, t.2.2)
    else if (rLog r).length = 80 then (r, [], n)
    else
      let t := takeF (putO r e) (k + 1) (k + 1) es
      (t.1, recP (rEnd r + 1) e :: t.2.1, t.2.2)
theorem takeF_keep : ∀ (es : List EntT) (r : RaftT) (n k : Nat), (takeF r n k es).1.1 = r.1 ∧ (rHard (takeF r n k es).1).1 = (rHard r).1 ∧ (rHard (takeF r n k es).1).2.1 = (rHard r).2.1
  | [], r, n, k => ⟨rfl, rfl, rfl⟩
  | e :: es, r, n, k => by
    rw [takeF]
    split
    · split
      · exact takeF_keep es r _ _
      · exact takeF_keep es (putO (cutO r k) e) _ _
    · split
      · exact ⟨rfl, rfl, rfl⟩
      · exact takeF_keep es (putO r e) _ _
theorem takeF_recs : ∀ (es : List EntT) (r : RaftT) (n k : Nat), (takeF r n k es).2.1.length ≤ 2 * es.length
  | [], r, n, k => Nat.le_refl _
  | e :: es, r, n, k => by
    rw [takeF, List.length_cons]
    split
    · split
      · have := takeF_recs es r (k + 1) (k + 1)
        omega
      · have := takeF_recs es (putO (cutO r k) e) (k + 1) (k + 1)
        simp only [List.length_cons]; omega
    · split
      · simp
      · have := takeF_recs es (putO r e) (k + 1) (k + 1)
        simp only [List.length_cons]; omega
theorem takeF_n : ∀ (es : List EntT) (r : RaftT) (n k : Nat), (rLog r).length ≤ 80 → n ≤ k → k ≤ (rLog r).length → (takeF r n k es).2.2 ≤ 80 ∧ (rLog (takeF r n k es).1).length ≤ 80
  | [], r, n, k, h1, h2, h3 => by rw [takeF]; exact ⟨by show n ≤ 80; omega, h1⟩
  | e :: es, r, n, k, h1, h2, h3 => by
    have e1 : (rLog (putO (cutO r k) e)).length = min k (rLog r).length + 1 := by
      show ((rLog r).take k ++ [e]).length = _
      rw [List.length_append, List.length_take]; rfl
    have e2 : (rLog (putO r e)).length = (rLog r).length + 1 := by
      show (rLog r ++ [e]).length = _
      rw [List.length_append]; rfl
    rw [takeF]
    split
    · split
      · exact takeF_n es r _ _ h1 (Nat.le_refl _) (by omega)
      · exact takeF_n es (putO (cutO r k) e) _ _ (by omega) (Nat.le_refl _) (by omega)
    · split
      · exact ⟨by show n ≤ 80; omega, h1⟩
      · exact takeF_n es (putO r e) _ _ (by omega) (Nat.le_refl _) (by omega)
theorem impl_take_go (was : RaftT) (outs : List OutT) (m : MsgT) (ha : 0 ≤ m.2.2.2.1 ∧ m.2.2.2.1 ≤ 80) (hm : (eEnts m).length ≤ 6) : ∀ (es : List EntT) (i : Nat) (r : RaftT) (recs : List RecT) (n : Nat), (eEnts m).drop i = es → i + es.length = (eEnts m).length → (rLog r).length ≤ 80 → atN m + i ≤ (rLog r).length → recs.length ≤ 1000 + 2 * i →
    Ev (fun q => impl_stepper_take_l3 q (r, was, recs, outs) m (n : Int) (eEnts m) ((eEnts m).length : Int) (i : Int)) (((takeF r n (atN m + i) es).2.2 : Int), (takeF r n (atN m + i) es).1, was, recs ++ (takeF r n (atN m + i) es).2.1, outs)
  | [], i, r, recs, n, hd, hi, h1, h2, h3 => by
    have hi : i = (eEnts m).length := hi
    have d : decide ((i : Int) < ((eEnts m).length : Int)) = false := decide_eq_false (by omega)
    rw [takeF, List.append_nil]
    refine Ev.step (g := fun _ => some ((n : Int), r, was, recs, outs)) (fun q => ?_) Ev.const
    simp only [impl_stepper_take_l3, impl_stepper_take_ls, impl_stepper_take_b3, impl_stepper_take_r, d, cond_false]
  | e :: es, i, r, recs, n, hd, hi, h1, h2, h3 => by
    rw [List.length_cons] at hi
    obtain ⟨hv, hd'⟩ := dropC hd
    have ea : m.2.2.2.1 = ((atN m : Nat) : Int) := (Int.toNat_of_nonneg ha.1).symm
    have d : decide ((i : Int) < ((eEnts m).length : Int)) = true := decide_eq_true (by omega)
    have w1 : wr .i64 (((atN m : Nat) : Int) + (i : Int)) = ((atN m + i : Nat) : Int) := by rw [wr64 (by omega)]; omega
    have w2 := wnat (atN m + i) (by omega)
    have w3 : wr .i64 (((atN m + i + 1 : Nat) : Int) - 1) = ((atN m + i : Nat) : Int) := by rw [wr64 (by omega)]; omega
    have w4 := wnat i (by omega)
    rw [takeF]
    by_cases c1 : atN m + i + 1 ≤ (rLog r).length
    · have d1 : decide (((atN m + i + 1 : Nat) : Int) ≤ ((rLog r).length : Int)) = true := decide_eq_true (by omega)
      have d1' : decide (((atN m + i + 1 : Nat) : Int) > ((rLog r).length : Int)) = false := decide_eq_false (by omega)
      have ht := termAt_eq (rLog r) (atN m + i + 1) c1 (by omega)
      rw [if_pos c1]
      by_cases c2 : termL (rLog r) (atN m + i + 1) = e.1
      · rw [if_pos c2]
        have ih := impl_take_go was outs m ha hm es (i + 1) r recs (atN m + i + 1) hd' (by omega) h1 (by omega) (by omega)
        refine Ev.step (fun q => ?_) ih
        simp only [impl_stepper_take_l3, impl_stepper_take_ls, impl_stepper_take_b3, impl_stepper_take_r, d, cond_true, idx_nat, hv, some_bind', ea, w1, w2, d1, ht, decide_eq_true c2, Bool.not_true, cond_false, d1', w4]
      · rw [if_neg c2]
        have e1 : (rLog (putO (cutO r (atN m + i)) e)).length = atN m + i + 1 := by
          show ((rLog r).take (atN m + i) ++ [e]).length = _
          rw [List.length_append, List.length_take, Nat.min_eq_left (by omega)]; rfl
        have e2 : rEnd (cutO r (atN m + i)) = ((atN m + i : Nat) : Int) := by
          show (((rLog r).take (atN m + i)).length : Int) = _
          rw [List.length_take, Nat.min_eq_left (by omega)]
        have ih := impl_take_go was outs m ha hm es (i + 1) (putO (cutO r (atN m + i)) e) (recs ++ [recC (atN m + i)] ++ [recP ((atN m + i + 1 : Nat) : Int) e]) (atN m + i + 1) hd' (by omega) (by omega) (by omega) (by simp; omega)
        have d2 : decide (0 ≤ ((atN m + i : Nat) : Int)) = true := decide_eq_true (by omega)
        have d3 : decide (((atN m + i : Nat) : Int) ≤ ((rLog r).length : Int)) = true := decide_eq_true (by omega)
        have d4 : ∀ q : RecT, decide ((recs.length + ([q] : List RecT).length) * 88 ≤ 140737488355328) = true := fun q => dlc (by simp; omega)
        have d5 : decide (((atN m + i + 1 : Nat) : Int) > ((atN m + i : Nat) : Int)) = true := decide_eq_true (by omega)
        have d6 : decide (((atN m + i : Nat) : Int) = 80) = false := decide_eq_false (by omega)
        have hp := impl_put_eq (cutO r (atN m + i)) was (recs ++ [recC (atN m + i)]) outs e (by show ((rLog r).take _).length ≤ _; rw [List.length_take]; omega) (by simp; omega)
        rw [e2, show ((atN m + i : Nat) : Int) + 1 = ((atN m + i + 1 : Nat) : Int) from by omega] at hp
        have ih : Ev (fun q => impl_stepper_take_l3 q (putO (cutO r (atN m + i)) e, was, recs ++ [recC (atN m + i)] ++ [recP ((atN m + i + 1 : Nat) : Int) e], outs) m ((atN m + i + 1 : Nat) : Int) (eEnts m) ((eEnts m).length : Int) ((i + 1 : Nat) : Int)) (((takeF (putO (cutO r (atN m + i)) e) (atN m + i + 1) (atN m + i + 1) es).2.2 : Int), (takeF (putO (cutO r (atN m + i)) e) (atN m + i + 1) (atN m + i + 1) es).1, was, recs ++ (recC (atN m + i) :: recP ((atN m + i + 1 : Nat) : Int) e :: (takeF (putO (cutO r (atN m + i)) e) (atN m + i + 1) (atN m + i + 1) es).2.1), outs) := by
          have e3 : recs ++ (recC (atN m + i) :: recP ((atN m + i + 1 : Nat) : Int) e :: (takeF (putO (cutO r (atN m + i)) e) (atN m + i + 1) (atN m + i + 1) es).2.1) = recs ++ [recC (atN m + i)] ++ [recP ((atN m + i + 1 : Nat) : Int) e] ++ (takeF (putO (cutO r (atN m + i)) e) (atN m + i + 1) (atN m + i + 1) es).2.1 := by simp
          rw [e3]; exact ih
        refine Ev.step (fun q => ?_) ih
        simp only [impl_stepper_take_l3, impl_stepper_take_ls, impl_stepper_take_b3, impl_stepper_take_r, d, cond_true, idx_nat, hv, some_bind', ea, w1, w2, d1, ht, decide_eq_false c2, Bool.not_false, w3, Nat.le_refl, decide_true, d2, d3, Bool.and_self, d4, Int.sub_zero, Int.toNat_natCast, d5, d6, cond_false, w4]
        exact bind_of hp rfl
    · have d1 : decide (((atN m + i + 1 : Nat) : Int) ≤ ((rLog r).length : Int)) = false := decide_eq_false (by omega)
      have d1' : decide (((atN m + i + 1 : Nat) : Int) > ((rLog r).length : Int)) = true := decide_eq_true (by omega)
      rw [if_neg c1]
      by_cases c2 : (rLog r).length = 80
      · have d2 : decide (((rLog r).length : Int) = 80) = true := decide_eq_true (by omega)
        rw [if_pos c2, List.append_nil]
        refine Ev.step (g := fun _ => some ((n : Int), r, was, recs, outs)) (fun q => ?_) Ev.const
        simp only [impl_stepper_take_l3, impl_stepper_take_ls, impl_stepper_take_b3, impl_stepper_take_r, d, cond_true, idx_nat, hv, some_bind', ea, w1, w2, d1, cond_false, d1', d2]
      · have d2 : decide (((rLog r).length : Int) = 80) = false := decide_eq_false (by omega)
        rw [if_neg c2]
        have e2 : (rLog (putO r e)).length = (rLog r).length + 1 := by
          show (rLog r ++ [e]).length = _
          rw [List.length_append]; rfl
        have hp := impl_put_eq r was recs outs e (by omega) (by omega)
        have ih := impl_take_go was outs m ha hm es (i + 1) (putO r e) (recs ++ [recP (rEnd r + 1) e]) (atN m + i + 1) hd' (by omega) (by omega) (by omega) (by simp; omega)
        have ih : Ev (fun q => impl_stepper_take_l3 q (putO r e, was, recs ++ [recP (rEnd r + 1) e], outs) m ((atN m + i + 1 : Nat) : Int) (eEnts m) ((eEnts m).length : Int) ((i + 1 : Nat) : Int)) (((takeF (putO r e) (atN m + i + 1) (atN m + i + 1) es).2.2 : Int), (takeF (putO r e) (atN m + i + 1) (atN m + i + 1) es).1, was, recs ++ (recP (rEnd r + 1) e :: (takeF (putO r e) (atN m + i + 1) (atN m + i + 1) es).2.1), outs) := by
          have e3 : recs ++ (recP (rEnd r + 1) e :: (takeF (putO r e) (atN m + i + 1) (atN m + i + 1) es).2.1) = recs ++ [recP (rEnd r + 1) e] ++ (takeF (putO r e) (atN m + i + 1) (atN m + i + 1) es).2.1 := by simp
          rw [e3]; exact ih
        refine Ev.step (fun q => ?_) ih
        simp only [impl_stepper_take_l3, impl_stepper_take_ls, impl_stepper_take_b3, impl_stepper_take_r, d, cond_true, idx_nat, hv, some_bind', ea, w1, w2, d1, cond_false, d1', d2, hp, w4]
theorem impl_take_eq (r was : RaftT) (recs : List RecT) (outs : List OutT) (m : MsgT) (ha : 0 ≤ m.2.2.2.1 ∧ m.2.2.2.1 ≤ 80) (hm : (eEnts m).length ≤ 6) (h1 : (rLog r).length ≤ 80) (h2 : atN m ≤ (rLog r).length) (h3 : recs.length ≤ 1000) : impl_stepper_take (r, was, recs, outs) m = some (((takeF r (atN m) (atN m) (eEnts m)).2.2 : Int), (takeF r (atN m) (atN m) (eEnts m)).1, was, recs ++ (takeF r (atN m) (atN m) (eEnts m)).2.1, outs) := by
  have ea : m.2.2.2.1 = ((atN m : Nat) : Int) := (Int.toNat_of_nonneg ha.1).symm
  rw [impl_stepper_take_def]
  refine lim_ev (Ev.congr (fun q => ?_) (impl_take_go was outs m ha hm (eEnts m) 0 r recs (atN m) rfl (by omega) h1 (by omega) (by omega)))
  simp only [impl_stepper_take_be, ea]
  rfl
def finO (r : RaftT) (m : MsgT) (n : Nat) : RaftT := setCom r (mxI (rCom r) (mnI m.2.2.2.2.2.1 (n : Int)))
def gotM (id term to : Int) (y : Bool) (a : Int) : OutT := (to, 4, id, term, a, 0, 0, y, 0, 0, ⟨#[]⟩, noCmd, [])
theorem spec_take_go (m : MsgT) (z : RaftT) (id term : Int) (ha : 0 ≤ m.2.2.2.1 ∧ m.2.2.2.1 ≤ 80) (hm : (eEnts m).length ≤ 6) : ∀ (es : List EntT) (i : Nat) (r : RaftT) (recs : List RecT) (n : Nat), (eEnts m).drop i = es → i + es.length = (eEnts m).length → (rLog r).length ≤ 80 → atN m + i ≤ (rLog r).length → recs.length ≤ 1000 + 2 * i →
    Ev (fun q => spec_OnSend_l20 q m z r recs [] (4, id, term, 0, 0, 0, false, 0, 0, ⟨#[]⟩, noCmd, []) (n : Int) (i : Int)) (finO (takeF r n (atN m + i) es).1 m (takeF r n (atN m + i) es).2.2, recs ++ (takeF r n (atN m + i) es).2.1, [gotM id term m.2.1 true ((takeF r n (atN m + i) es).2.2 : Int)])
  | [], i, r, recs, n, hd, hi, h1, h2, h3 => by
    have hi : i = (eEnts m).length := hi
    have d : decide ((i : Int) < ((eEnts m).length : Int)) = false := decide_eq_false (by omega)
    have d7 : ∀ o : OutT, decide ((([] : List OutT).length + ([o] : List OutT).length) * 168 ≤ 140737488355328) = true := fun o => rfl
    rw [takeF, List.append_nil]
    refine Ev.step (g := fun _ => some _) (fun q => ?_) Ev.const
    simp only [spec_OnSend_l20, spec_OnSend_ls, spec_OnSend_b20, spec_OnSend_r, d, cond_false, spec_l1Min_eq, spec_l1Max_eq, some_bind', d7, cond_true, List.nil_append]
    rw [← mnI_eq]
    rfl
  | e :: es, i, r, recs, n, hd, hi, h1, h2, h3 => by
    rw [List.length_cons] at hi
    obtain ⟨hv, hd'⟩ := dropC hd
    have ea : m.2.2.2.1 = ((atN m : Nat) : Int) := (Int.toNat_of_nonneg ha.1).symm
    have d : decide ((i : Int) < ((eEnts m).length : Int)) = true := decide_eq_true (by omega)
    have w1 := wnat (atN m) (by omega)
    have w2 : wr .i64 (((atN m + 1 : Nat) : Int) + (i : Int)) = ((atN m + i + 1 : Nat) : Int) := by rw [wr64 (by omega)]; omega
    have w3 : wr .i64 (((atN m + i + 1 : Nat) : Int) - 1) = ((atN m + i : Nat) : Int) := by rw [wr64 (by omega)]; omega
    have w4 := wnat i (by omega)
    have he : rEnd r = ((rLog r).length : Int) := rfl
    have d7 : ∀ o : OutT, decide ((([] : List OutT).length + ([o] : List OutT).length) * 168 ≤ 140737488355328) = true := fun o => rfl
    rw [takeF]
    by_cases c1 : atN m + i + 1 ≤ (rLog r).length
    · have d1 : decide (((atN m + i + 1 : Nat) : Int) ≤ rEnd r) = true := decide_eq_true (by omega)
      have ht := spec_l10Term_eq (rHard r) (atN m + i + 1) c1 (by have : (rHard r).2.2.length = (rLog r).length := rfl; omega)
      rw [if_pos c1]
      by_cases c2 : termL (rLog r) (atN m + i + 1) = e.1
      · rw [if_pos c2]
        have ih := spec_take_go m z id term ha hm es (i + 1) r recs (atN m + i + 1) hd' (by omega) h1 (by omega) (by omega)
        refine Ev.step (fun q => ?_) ih
        simp only [spec_OnSend_l20, spec_OnSend_ls, spec_OnSend_b20, spec_OnSend_r, d, cond_true, spec_l10End_eq, some_bind', ea, w1, w2, d1, ht, idx_nat, hv, decide_eq_true c2, w4]
      · rw [if_neg c2]
        have e1 : (rLog (putO (cutO r (atN m + i)) e)).length = atN m + i + 1 := by
          show ((rLog r).take (atN m + i) ++ [e]).length = _
          rw [List.length_append, List.length_take, Nat.min_eq_left (by omega)]; rfl
        have e2 : rEnd (cutO r (atN m + i)) = ((atN m + i : Nat) : Int) := by
          show (((rLog r).take (atN m + i)).length : Int) = _
          rw [List.length_take, Nat.min_eq_left (by omega)]
        have ih := spec_take_go m z id term ha hm es (i + 1) (putO (cutO r (atN m + i)) e) (recs ++ [recC (atN m + i)] ++ [recP ((atN m + i + 1 : Nat) : Int) e]) (atN m + i + 1) hd' (by omega) (by omega) (by omega) (by simp; omega)
        have d2 : decide (0 ≤ ((atN m + i : Nat) : Int)) = true := decide_eq_true (by omega)
        have d3 : decide (((atN m + i : Nat) : Int) ≤ ((rLog r).length : Int)) = true := decide_eq_true (by omega)
        have d4 : ∀ q : RecT, decide ((recs.length + ([q] : List RecT).length) * 88 ≤ 140737488355328) = true := fun q => dlc (by simp; omega)
        have d5 : decide ((([] : List EntT).length + ((rLog r).take (atN m + i)).length) * 56 ≤ 140737488355328) = true := dlc (by rw [List.length_take]; simp; omega)
        have d6 : decide (((atN m + i + 1 : Nat) : Int) > 80) = false := decide_eq_false (by omega)
        have hp := spec_l10Put_eq (cutO r (atN m + i)) e (recs ++ [recC (atN m + i)]) (by show ((rLog r).take _).length ≤ _; rw [List.length_take]; omega) (by simp; omega)
        rw [e2, show ((atN m + i : Nat) : Int) + 1 = ((atN m + i + 1 : Nat) : Int) from by omega] at hp
        have e3 : recs ++ (recC (atN m + i) :: recP ((atN m + i + 1 : Nat) : Int) e :: (takeF (putO (cutO r (atN m + i)) e) (atN m + i + 1) (atN m + i + 1) es).2.1) = recs ++ [recC (atN m + i)] ++ [recP ((atN m + i + 1 : Nat) : Int) e] ++ (takeF (putO (cutO r (atN m + i)) e) (atN m + i + 1) (atN m + i + 1) es).2.1 := by simp
        have ih : Ev (fun q => spec_OnSend_l20 q m z (putO (cutO r (atN m + i)) e) (recs ++ [recC (atN m + i)] ++ [recP ((atN m + i + 1 : Nat) : Int) e]) [] (4, id, term, 0, 0, 0, false, 0, 0, ⟨#[]⟩, noCmd, []) ((atN m + i + 1 : Nat) : Int) ((i + 1 : Nat) : Int)) (finO (takeF (putO (cutO r (atN m + i)) e) (atN m + i + 1) (atN m + i + 1) es).1 m (takeF (putO (cutO r (atN m + i)) e) (atN m + i + 1) (atN m + i + 1) es).2.2, recs ++ (recC (atN m + i) :: recP ((atN m + i + 1 : Nat) : Int) e :: (takeF (putO (cutO r (atN m + i)) e) (atN m + i + 1) (atN m + i + 1) es).2.1), [gotM id term m.2.1 true ((takeF (putO (cutO r (atN m + i)) e) (atN m + i + 1) (atN m + i + 1) es).2.2 : Int)]) := by
          rw [e3]; exact ih
        refine Ev.step (fun q => ?_) ih
        simp only [spec_OnSend_l20, spec_OnSend_ls, spec_OnSend_b20, spec_OnSend_r, d, cond_true, spec_l10End_eq, some_bind', ea, w1, w2, d1, ht, idx_nat, hv, decide_eq_false c2, cond_false, w3, Nat.le_refl, decide_true, d2, d3, Bool.and_self, List.drop_zero, Int.sub_zero, Int.toNat_natCast, d4, d5, d6, w4, List.nil_append]
        exact bind_of hp rfl
    · have d1 : decide (((atN m + i + 1 : Nat) : Int) ≤ rEnd r) = false := decide_eq_false (by omega)
      rw [if_neg c1]
      by_cases c2 : (rLog r).length = 80
      · have d6 : decide (((atN m + i + 1 : Nat) : Int) > 80) = true := decide_eq_true (by omega)
        rw [if_pos c2, List.append_nil]
        refine Ev.step (g := fun _ => some _) (fun q => ?_) Ev.const
        simp only [spec_OnSend_l20, spec_OnSend_ls, spec_OnSend_b20, spec_OnSend_r, d, cond_true, spec_l10End_eq, some_bind', ea, w1, w2, d1, cond_false, d6, spec_l1Min_eq, spec_l1Max_eq, d7, List.nil_append]
        rw [← mnI_eq]
        rfl
      · have d6 : decide (((atN m + i + 1 : Nat) : Int) > 80) = false := decide_eq_false (by omega)
        rw [if_neg c2]
        have e2 : (rLog (putO r e)).length = (rLog r).length + 1 := by
          show (rLog r ++ [e]).length = _
          rw [List.length_append]; rfl
        have hp := spec_l10Put_eq r e recs (by omega) (by omega)
        have ih := spec_take_go m z id term ha hm es (i + 1) (putO r e) (recs ++ [recP (rEnd r + 1) e]) (atN m + i + 1) hd' (by omega) (by omega) (by omega) (by simp; omega)
        have e3 : recs ++ (recP (rEnd r + 1) e :: (takeF (putO r e) (atN m + i + 1) (atN m + i + 1) es).2.1) = recs ++ [recP (rEnd r + 1) e] ++ (takeF (putO r e) (atN m + i + 1) (atN m + i + 1) es).2.1 := by simp
        have ih : Ev (fun q => spec_OnSend_l20 q m z (putO r e) (recs ++ [recP (rEnd r + 1) e]) [] (4, id, term, 0, 0, 0, false, 0, 0, ⟨#[]⟩, noCmd, []) ((atN m + i + 1 : Nat) : Int) ((i + 1 : Nat) : Int)) (finO (takeF (putO r e) (atN m + i + 1) (atN m + i + 1) es).1 m (takeF (putO r e) (atN m + i + 1) (atN m + i + 1) es).2.2, recs ++ (recP (rEnd r + 1) e :: (takeF (putO r e) (atN m + i + 1) (atN m + i + 1) es).2.1), [gotM id term m.2.1 true ((takeF (putO r e) (atN m + i + 1) (atN m + i + 1) es).2.2 : Int)]) := by
          rw [e3]; exact ih
        refine Ev.step (fun q => ?_) ih
        simp only [spec_OnSend_l20, spec_OnSend_ls, spec_OnSend_b20, spec_OnSend_r, d, cond_true, spec_l10End_eq, some_bind', ea, w1, w2, d1, cond_false, d6, idx_nat, hv, hp, w4]

/-! ### Sent what to hold -/
def sendO (R was : RaftT) (m : MsgT) : RaftT × List RecT × List OutT :=
  bif fitsM R m then (finO (takeF R (atN m) (atN m) (eEnts m)).1 m (takeF R (atN m) (atN m) (eEnts m)).2.2, endR R was [] ++ (takeF R (atN m) (atN m) (eEnts m)).2.1, [gotM R.1 m.2.2.1 m.2.1 true ((takeF R (atN m) (atN m) (eEnts m)).2.2 : Int)])
  else (R, endR R was [], [gotM R.1 m.2.2.1 m.2.1 false (mnI (rEnd R) (m.2.2.2.1 - 1))])
def onSendO (r : RaftT) (m : MsgT) : RaftT × List RecT × List OutT :=
  bif hearO r m 3 && sendB r m then
    bif decide (m.2.2.1 < (rHard r).1) then (r, [], [gotM r.1 (rHard r).1 m.2.1 false 0])
    else bif decide (m.2.2.1 ≤ (rHard r).1) && decide (rRole r = 3) then (r, [], [])
    else sendO (restO (followT r m.2.2.1)) r m
  else (sameO r, [], [])
theorem impl_got_eq (r was : RaftT) (recs : List RecT) (to : Int) (y : Bool) (a : Int) : impl_stepper_got (r, was, recs, []) to y a = some (r, was, recs, [gotM r.1 (rHard r).1 to y a]) := by
  rw [impl_stepper_got_def]
  simp only [impl_stepper_got_d, impl_stepper_got_be, impl_stepper_got_r, impl_stepper_message_def, impl_stepper_message_d, impl_stepper_message_be, impl_stepper_message_r, some_bind']
  rfl
theorem impl_sendO (R was : RaftT) (m : MsgT) (ha : 0 ≤ m.2.2.2.1 ∧ m.2.2.2.1 ≤ 80) (hm : (eEnts m).length ≤ 6) (h1 : (rLog R).length ≤ 80) (hT : (rHard R).1 = m.2.2.1) (hl : rLog was = rLog R) :
    ((impl_fits (rLog was) m).bind fun t13 => bif !t13 then ((impl_stepper_got (R, was, [], []) m.2.1 false (mnI ((rLog was).length : Int) (wr .i64 (m.2.2.2.1 - 1)))).bind fun t14 => (impl_stepper_end t14).bind fun t15 => some (t15.1, t15.2.1, t15.2.2)) else ((impl_stepper_take (R, was, [], []) m).bind fun t16 => (impl_stepper_got ((t16.2.1.1, t16.2.1.2.1, t16.2.1.2.2.1, mxI t16.2.1.2.2.2.1 (mnI m.2.2.2.2.2.1 t16.1), t16.2.1.2.2.2.2), t16.2.2) m.2.1 true t16.1).bind fun t17 => (impl_stepper_end t17).bind fun t18 => some (t18.1, t18.2.1, t18.2.2))) = some (sendO R was m) := by
  have w : wr .i64 (m.2.2.2.1 - 1) = m.2.2.2.1 - 1 := wr64 (by omega)
  have hf := impl_fits_eq (rLog R) m ha.1 h1
  unfold sendO fitsM
  rw [hl]
  cases h : fitsB (rLog R) (atN m) m.2.2.2.2.1 with
  | false =>
    rw [h] at hf
    simp only [hf, some_bind', Bool.not_false, cond_true, cond_false, impl_got_eq, w, impl_end_eq R was [] _ (by simp), hT]
  | true =>
    rw [h] at hf
    have hle : atN m ≤ (rLog R).length := by
      unfold fitsB at h
      simp only [Bool.and_eq_true, decide_eq_true_eq] at h
      exact h.1
    obtain ⟨k1, k2, k3⟩ := takeF_keep (eEnts m) R (atN m) (atN m)
    have k4 := takeF_recs (eEnts m) R (atN m) (atN m)
    simp only [hf, some_bind', Bool.not_true, cond_true, cond_false, impl_take_eq R was [] [] m ha hm h1 hle (by simp), List.nil_append]
    generalize takeF R (atN m) (atN m) (eEnts m) = t at k1 k2 k3 k4 ⊢
    refine bind_of (impl_got_eq (finO t.1 m t.2.2) was t.2.1 m.2.1 true (t.2.2 : Int)) ?_
    refine bind_of (impl_end_eq _ was _ _ (by omega)) ?_
    rw [endR_of (q := finO t.1 m t.2.2) (R := R) (was := was) t.2.1 k2 k3]
    have e1 : (finO t.1 m t.2.2).1 = R.1 := k1
    have e2 : (rHard (finO t.1 m t.2.2)).1 = m.2.2.1 := by rw [← hT]; exact k2
    rw [e1, e2]
theorem impl_OnSend_eq (r : RaftT) (m : MsgT) (hs : RaftS r) (hm : lok (eEnts m) = true) : impl_OnSend r m = some (onSendO r m) := by
  rw [impl_OnSend_def]
  unfold onSendO
  simp only [impl_OnSend_d, impl_OnSend_be, impl_OnSend_r, stepOf_eq r hs, impl_mayHear_eq r r [] [] m 3 hs hm, some_bind']
  cases h : hearO r m 3 with
  | false => simp only [Bool.not_false, Bool.false_and, cond_true, cond_false, impl_none_eq r r [] [] hs, some_bind']
  | true =>
    obtain ⟨g1, g2, g3, g4, g5⟩ := hearO_out h
    obtain ⟨f1, f2, f3, _, _, f6, _⟩ := fits_all g2
    have f2 := f2 (.inr (.inr (.inl g3)))
    have f3 := f3 (.inr (.inl g3))
    have f6 := f6 g3
    have hlog := raftO_log g1
    simp only [Bool.not_true, cond_true, cond_false, Bool.true_and, impl_inRow_eq m hm, some_bind', impl_cutsBelow_eq r m f3 hlog (by omega)]
    unfold sendB
    cases hr : rowB m.2.2.1 (rowP m) (eEnts m) with
    | false => simp only [Bool.not_false, Bool.false_and, cond_true, cond_false, impl_none_eq r r [] [] hs, some_bind']
    | true =>
      cases hc : fitsM r m && cutF (rLog r) (rCom r) (atN m + 1) (eEnts m) with
      | true => simp only [Bool.not_true, Bool.and_false, cond_true, cond_false, impl_none_eq r r [] [] hs, some_bind']
      | false =>
        simp only [Bool.not_true, Bool.not_false, Bool.and_self, cond_true, cond_false]
        by_cases h1 : m.2.2.1 < (rHard r).1
        · simp only [decide_eq_true h1, cond_true, impl_got_eq, some_bind', impl_end_eq r r [] _ (by simp), endR_same (q := r) (r := r) [] rfl rfl]
        · simp only [decide_eq_false h1, cond_false, impl_followTerm_eq, some_bind']
          by_cases h2 : m.2.2.1 ≤ (rHard r).1
          · simp only [decide_eq_true h2, Bool.not_true, Bool.not_false, cond_true, Bool.true_and]
            have e : followT r m.2.2.1 = r := by unfold followT; rw [decide_eq_true h2]; rfl
            rw [e]
            by_cases h3 : rRole r = 3
            · have hsame : sameO r = r := by unfold sameO; rw [g1]; rfl
              simp only [decide_eq_true h3, cond_true, impl_none_eq r r [] [] hs, some_bind', hsame]
            · simp only [decide_eq_false h3, cond_false, impl_follow_eq, some_bind']
              exact impl_sendO (restO r) r m f3 f6 hlog (by show (rHard r).1 = m.2.2.1; omega) rfl
          · simp only [decide_eq_false h2, Bool.not_false, Bool.not_true, cond_false, Bool.false_and]
            have e : followT r m.2.2.1 = followO r m.2.2.1 := by unfold followT; rw [decide_eq_false h2]; rfl
            rw [e]
            simp only [impl_follow_eq, some_bind']
            exact impl_sendO (restO (followO r m.2.2.1)) r m f3 f6 hlog rfl rfl
theorem spec_OnSend_eq (r : RaftT) (m : MsgT) (hs : RaftS r) (hm : lok (eEnts m) = true) : spec_OnSend r m = some (onSendO r m) := by
  rw [spec_OnSend_def]
  unfold onSendO
  cases h : hearO r m 3 with
  | false =>
    refine lim_of 0 fun n => ?_
    simp only [spec_OnSend_be, spec_OnSend_r, spec_l10Same_eq r hs, spec_l10Hears_eq r m 3 hs hm, h, some_bind', Bool.not_false, Bool.false_and, cond_true, cond_false]
  | true =>
    obtain ⟨g1, g2, g3, g4, g5⟩ := hearO_out h
    obtain ⟨f1, f2, f3, _, _, f6, _⟩ := fits_all g2
    have f2 := f2 (.inr (.inr (.inl g3)))
    have f3 := f3 (.inr (.inl g3))
    have f6 := f6 g3
    have hlog := raftO_log g1
    have o := raftO_out g1
    have hsame : sameO r = r := by unfold sameO; rw [g1]; rfl
    have hft := spec_l10Fits_eq r m f3 hlog o.2.2.2.2.1 (by omega)
    cases hb : sendB r m with
    | false =>
      rw [hb] at hft
      refine lim_of 0 fun n => ?_
      simp only [spec_OnSend_be, spec_OnSend_r, spec_l10Same_eq r hs, spec_l10Hears_eq r m 3 hs hm, h, hft, some_bind', Bool.not_true, Bool.not_false, Bool.true_and, cond_true, cond_false]
    | true =>
      rw [hb] at hft
      have d7 : ∀ o : OutT, decide ((([] : List OutT).length + ([o] : List OutT).length) * 168 ≤ 140737488355328) = true := fun o => rfl
      have d8 : ∀ o : RecT, decide ((([] : List RecT).length + ([o] : List RecT).length) * 88 ≤ 140737488355328) = true := fun o => rfl
      have w : wr .i64 (m.2.2.2.1 - 1) = m.2.2.2.1 - 1 := wr64 (by omega)
      have ea : m.2.2.2.1 = ((atN m : Nat) : Int) := (Int.toNat_of_nonneg f3.1).symm
      have key : ∀ (R : RaftT) (recs : List RecT) (z : RaftT), (rLog R).length ≤ 80 → R.1 = r.1 → recs = endR R r [] → recs.length ≤ 1 → Ev (fun n => bif decide (m.2.2.2.1 > rEnd R) then some (R, recs, [gotM r.1 m.2.2.1 m.2.1 false (min (rEnd R) (m.2.2.2.1 - 1))]) else (bif decide (m.2.2.2.1 > 0) then ((spec_l10Term (rHard R) m.2.2.2.1).bind fun t9 => bif !(decide (t9 = m.2.2.2.2.1)) then some (R, recs, [gotM r.1 m.2.2.1 m.2.1 false (min (rEnd R) (m.2.2.2.1 - 1))]) else (spec_OnSend_l20 n m z R recs [] (4, r.1, m.2.2.1, 0, 0, 0, false, 0, 0, ⟨#[]⟩, noCmd, []) m.2.2.2.1 0)) else (spec_OnSend_l20 n m z R recs [] (4, r.1, m.2.2.1, 0, 0, 0, false, 0, 0, ⟨#[]⟩, noCmd, []) m.2.2.2.1 0))) (sendO R r m) := by
        intro R recs z hR hid hrec hrl
        have he : rEnd R = ((rLog R).length : Int) := rfl
        unfold sendO fitsM fitsB
        rw [← hrec, hid, mnI_eq]
        by_cases c1 : atN m ≤ (rLog R).length
        · have d1 : decide (m.2.2.2.1 > rEnd R) = false := decide_eq_false (by omega)
          have ht := spec_l10Term_eq (rHard R) (atN m) c1 (by have : (rHard R).2.2.length = (rLog R).length := rfl; omega)
          have tk := spec_take_go m z r.1 m.2.2.1 f3 f6 (eEnts m) 0 R recs (atN m) rfl (by omega) hR (by omega) (by omega)
          rw [← ea] at ht
          rw [Nat.add_zero, ← ea] at tk
          rw [decide_eq_true c1, Bool.true_and]
          by_cases c2 : atN m = 0
          · have d2 : decide (m.2.2.2.1 > 0) = false := decide_eq_false (by omega)
            rw [decide_eq_true c2, Bool.true_or, cond_true]
            refine Ev.congr (fun n => ?_) tk
            simp only [d1, d2, cond_false]
            rfl
          · have d2 : decide (m.2.2.2.1 > 0) = true := decide_eq_true (by omega)
            rw [decide_eq_false c2, Bool.false_or]
            by_cases c3 : termL (rLog R) (atN m) = m.2.2.2.2.1
            · rw [decide_eq_true c3, cond_true]
              refine Ev.congr (fun n => ?_) tk
              simp only [d1, d2, cond_false, cond_true, ht, some_bind', decide_eq_true c3, Bool.not_true]
              rfl
            · rw [decide_eq_false c3, cond_false]
              refine Ev.congr (g := fun _ => some _) (fun n => ?_) Ev.const
              simp only [d1, d2, cond_false, cond_true, ht, some_bind', decide_eq_false c3, Bool.not_false]
        · have d1 : decide (m.2.2.2.1 > rEnd R) = true := decide_eq_true (by omega)
          rw [decide_eq_false c1, Bool.false_and, cond_false]
          refine Ev.congr (g := fun _ => some _) (fun n => ?_) Ev.const
          simp only [d1, cond_true]
      by_cases h1 : m.2.2.1 < (rHard r).1
      · refine lim_of 0 fun n => ?_
        simp only [spec_OnSend_be, spec_OnSend_r, spec_l10Same_eq r hs, hsame, spec_l10Hears_eq r m 3 hs hm, h, hft, some_bind', Bool.not_true, Bool.and_self, cond_true, cond_false, decide_eq_true h1, d7, List.nil_append]
        rfl
      · by_cases h2 : m.2.2.1 ≤ (rHard r).1
        · have d2 : decide (m.2.2.1 > (rHard r).1) = false := decide_eq_false (by omega)
          have e : followT r m.2.2.1 = r := by unfold followT; rw [decide_eq_true h2]; rfl
          by_cases h3 : rRole r = 3
          · refine lim_of 0 fun n => ?_
            simp only [spec_OnSend_be, spec_OnSend_r, spec_l10Same_eq r hs, hsame, spec_l10Hears_eq r m 3 hs hm, h, hft, some_bind', Bool.not_true, Bool.and_self, cond_true, cond_false, decide_eq_false h1, d2, decide_eq_true h2, decide_eq_true h3]
          · rw [e]
            have q := key (restO r) [] noRaft hlog rfl (endR_same (q := restO r) (r := r) [] rfl rfl).symm (by simp)
            simp only [Bool.and_self, cond_true, decide_eq_false h1, decide_eq_true h2, decide_eq_false h3, Bool.and_false, cond_false]
            refine lim_ev (Ev.congr (fun n => ?_) q)
            simp only [spec_OnSend_be, spec_OnSend_r, spec_l10Same_eq r hs, hsame, spec_l10Hears_eq r m 3 hs hm, h, hft, some_bind', Bool.not_true, cond_true, cond_false, decide_eq_false h1, d2, decide_eq_false h3, spec_l10Rest_eq, spec_l10End_eq, spec_l1Min_eq, w, d7, List.nil_append]
            rfl
        · have d2 : decide (m.2.2.1 > (rHard r).1) = true := decide_eq_true (by omega)
          have e : followT r m.2.2.1 = followO r m.2.2.1 := by unfold followT; rw [decide_eq_false h2]; rfl
          rw [e]
          have e1 : (rHard (restO (followO r m.2.2.1))).1 ≠ (rHard r).1 := by show m.2.2.1 ≠ (rHard r).1; omega
          have q := key (restO (followO r m.2.2.1)) [recV (followO r m.2.2.1)] noRaft hlog rfl (by rw [endR_diff [] e1]; rfl) (by simp)
          simp only [Bool.and_self, cond_true, decide_eq_false h1, decide_eq_false h2, Bool.false_and, cond_false]
          refine lim_ev (Ev.congr (fun n => ?_) q)
          simp only [spec_OnSend_be, spec_OnSend_r, spec_l10Same_eq r hs, hsame, spec_l10Hears_eq r m 3 hs hm, h, hft, some_bind', Bool.not_true, cond_true, cond_false, decide_eq_false h1, d2, spec_l10Follow_eq, spec_l10Vote_eq, d8, spec_l10Rest_eq, spec_l10End_eq, spec_l1Min_eq, w, d7, List.nil_append]
          rfl
end Go.TM


/- OnSend: the program's and the reference's say the same of every node and message. -/
set_option linter.unusedVariables false
set_option linter.unusedSimpArgs false
set_option linter.unusedSectionVars false
set_option maxRecDepth 10000
-- left out: impl_RaftBeat_eq impl_ask_eq impl_ask_go impl_had_eq impl_sendAll_eq impl_sendAll_go spec_RaftBeat_eq spec_asks_eq spec_asks_go spec_sendAll_eq spec_sendAll_go
namespace Go.TM
open Go

theorem endR_le (q was : RaftT) : (endR q was []).length ≤ 1 := by
  unfold endR
  cases (decide ((rHard q).1 = (rHard was).1) && decide ((rHard q).2.1 = (rHard was).2.1)) <;> simp
theorem gotM_z (id term to : Int) (y : Bool) (a : Int) : OutZ [gotM id term to y a] := ⟨by simp, fun o ho => by
  have : o = gotM id term to y a := List.mem_singleton.1 ho
  subst this
  simp [gotM]⟩
theorem takeF_lists : ∀ (es : List EntT) (r : RaftT) (n k : Nat), rYes (takeF r n k es).1 = rYes r ∧ rNext (takeF r n k es).1 = rNext r ∧ rMat (takeF r n k es).1 = rMat r
  | [], r, n, k => ⟨rfl, rfl, rfl⟩
  | e :: es, r, n, k => by
    rw [takeF]
    split
    · split
      · exact takeF_lists es r _ _
      · exact takeF_lists es (putO (cutO r k) e) _ _
    · split
      · exact ⟨rfl, rfl, rfl⟩
      · exact takeF_lists es (putO r e) _ _
theorem sendO_z (R was : RaftT) (m : MsgT) (hl : (rLog R).length ≤ 80) (hy : rYes R = []) (hn : rNext R = []) (hmt : rMat R = []) (hm : (eEnts m).length ≤ 6) : RaftZ (sendO R was m).1 ∧ (sendO R was m).2.1.length ≤ 1000 ∧ OutZ (sendO R was m).2.2 := by
  have h1 := endR_le R was
  unfold sendO
  cases h : fitsM R m with
  | false => exact ⟨⟨by show (rLog R).length ≤ _; omega, by show (rYes R).length ≤ _; rw [hy]; simp, by show (rNext R).length ≤ _; rw [hn]; simp, by show (rMat R).length ≤ _; rw [hmt]; simp⟩, by show (endR R was []).length ≤ 1000; omega, gotM_z _ _ _ _ _⟩
  | true =>
    have hle : atN m ≤ (rLog R).length := by
      unfold fitsM fitsB at h
      simp only [Bool.and_eq_true, decide_eq_true_eq] at h
      exact h.1
    have h2 := takeF_n (eEnts m) R (atN m) (atN m) hl (Nat.le_refl _) hle
    have h3 := takeF_recs (eEnts m) R (atN m) (atN m)
    obtain ⟨h4, h5, h6⟩ := takeF_lists (eEnts m) R (atN m) (atN m)
    rw [cond_true]
    generalize takeF R (atN m) (atN m) (eEnts m) = t at h2 h3 h4 h5 h6 ⊢
    refine ⟨⟨?_, ?_, ?_, ?_⟩, ?_, gotM_z _ _ _ _ _⟩
    · show (rLog t.1).length ≤ _
      omega
    · show (rYes t.1).length ≤ _
      rw [h4, hy]; simp
    · show (rNext t.1).length ≤ _
      rw [h5, hn]; simp
    · show (rMat t.1).length ≤ _
      rw [h6, hmt]; simp
    · show (endR R was [] ++ t.2.1).length ≤ 1000
      rw [List.length_append]; omega
theorem onSendO_z (r : RaftT) (hs : RaftS r) (m : MsgT) : RaftZ (onSendO r m).1 ∧ (onSendO r m).2.1.length ≤ 1000 ∧ OutZ (onSendO r m).2.2 := by
  have nil : OutZ [] := ⟨by simp, fun o ho => by cases ho⟩
  unfold onSendO
  cases h : hearO r m 3 with
  | false => exact ⟨sameO_z hs.z, by simp, nil⟩
  | true =>
    obtain ⟨g1, g2, g3, g4, g5⟩ := hearO_out h
    have f6 := (fits_all g2).2.2.2.2.2.1 g3
    cases sendB r m with
    | false => exact ⟨sameO_z hs.z, by simp, nil⟩
    | true =>
      cases decide (m.2.2.1 < (rHard r).1) with
      | true => exact ⟨hs.z, by simp, gotM_z _ _ _ _ _⟩
      | false =>
        cases decide (m.2.2.1 ≤ (rHard r).1) && decide (rRole r = 3) with
        | true => exact ⟨hs.z, by simp, nil⟩
        | false => exact sendO_z (restO (followT r m.2.2.1)) r m (by show (rLog (followT r m.2.2.1)).length ≤ 80; rw [followT_log]; exact raftO_log g1) rfl rfl rfl f6
theorem pure_FnExactOnSend (x0 : RaftK.T) (x1 : MsgK.T) (h : WfK RaftK x0) (h' : WfK MsgK x1) : laws_FnExactOnSend x0 x1 = some true := by
  have hm := wfRaft x0 h
  have hc := wfMsg x1 h'
  obtain ⟨t, e1, ht⟩ := laws_szRaft_eq x0 hm 1048576 (by omega)
  rw [laws_FnExactOnSend_def]
  simp only [laws_FnExactOnSend_d, laws_FnExactOnSend_be, laws_FnExactOnSend_r, e1, some_bind']
  rcases ht with rfl | ⟨h0, hle, hs⟩
  · rfl
  · have d0 : decide (t < 0) = false := decide_eq_false (by omega)
    obtain ⟨t2, e2, ht2⟩ := laws_szMsg_eq x1 hc t (by omega)
    simp only [d0, cond_false, e2, some_bind']
    rcases ht2 with rfl | ⟨h02, _, hl⟩
    · rfl
    · have d0' : decide (t2 < 0) = false := decide_eq_false (by omega)
      have hk : lok (eEnts x1) = true := (lok_iff _).2 (by omega)
      obtain ⟨z1, z2, z3⟩ := onSendO_z x0 hs x1
      obtain ⟨k1, r1, q1, q2, q3, q4, q5⟩ := laws_markRaft_some x0 hs.z 1 (by omega)
      obtain ⟨k3, r3, q6, q7⟩ := laws_markMsg_some x1 k1 hl (by omega)
      obtain ⟨k2, r2, p1, p2, p3, p4, pe⟩ := laws_markRaft_some (onSendO x0 x1).1 z1 1 (by omega)
      have p5 := laws_markRecS_eq (onSendO x0 x1).2.1 k2 (by omega) (by omega)
      have p6 := laws_heldRecS_marked (onSendO x0 x1).2.1 k2 (by omega) (by omega)
      have p7 := mapSt_gR (onSendO x0 x1).2.1 k2
      have p8 := laws_markOutS_eq (onSendO x0 x1).2.2 (mapSt gR (onSendO x0 x1).2.1 k2).2 z3 (by omega)
      have p9 := laws_heldOutS_marked (onSendO x0 x1).2.2 (mapSt gR (onSendO x0 x1).2.1 k2).2 z3 (by omega)
      obtain ⟨m1, m2⟩ := z3.marks (k := (mapSt gR (onSendO x0 x1).2.1 k2).2) (by omega)
      have d1 : decide (k3 < 0) = false := decide_eq_false (by omega)
      have d2 : decide (k2 < 0) = false := decide_eq_false (by omega)
      have d3 : decide ((mapSt gR (onSendO x0 x1).2.1 k2).2 < 0) = false := decide_eq_false (by omega)
      have d4 : decide ((mapSt gO (onSendO x0 x1).2.2 (mapSt gR (onSendO x0 x1).2.1 k2).2).2 < 0) = false := decide_eq_false (by omega)
      simp only [d0', cond_false, laws_toRaft_eq x0 hs, laws_toMsg_eq x1 hl, spec_OnSend_eq x0 x1 hs hk, impl_OnSend_eq x0 x1 hs hk, some_bind', laws_eqRaft_refl (onSendO x0 x1).1 z1, laws_eqRecS_refl (onSendO x0 x1).2.1 (by omega), laws_eqOutS_refl (onSendO x0 x1).2.2 z3, Bool.not_true, beq_self_eq_true, laws_eqRaft_refl x0 hs.z, laws_eqMsg_refl x1 hk, q1, q6, d1, p1, pe, p2, p5, p6, p8, p9, d2, d3, d4, decide_true]
end Go.TM

