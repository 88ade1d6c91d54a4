/- Part 4 of the proof that the law FnExactParcelWhole holds of the program: words, the data machine and its soundness, the program's functions as pure functions, and the plain law; no condition is added. -/
import Derived.Test.YtckfpekljgbjoaaCFnExactParcelWholec
/- ParcelWhole: the program's and the reference's make the same text and the same code of every parcel. -/
set_option linter.unusedVariables false
set_option linter.unusedSimpArgs false
set_option linter.unusedSectionVars false
set_option maxRecDepth 10000
namespace Go.TM
open Go

abbrev ParT := Int × ByteArray × List ByteArray
def inR (x lo hi : Int) : Bool := decide (lo ≤ x) && decide (x ≤ hi)
theorem inR_iff {x lo hi : Int} : inR x lo hi = true ↔ lo ≤ x ∧ x ≤ hi := by simp [inR]
theorem spec_l1In_eq (x lo hi : Int) : spec_l1In x lo hi = some (inR x lo hi) := by
  rw [spec_l1In_def]
  simp only [spec_l1In_d, spec_l1In_be, spec_l1In_r, inR, ge_iff_le]
  cases decide (lo ≤ x) <;> rfl
theorem impl_isSize_eq (x : Int) : impl_isSize x = some (inR x 0 1000) := by
  rw [impl_isSize_def]
  simp only [impl_isSize_d, impl_isSize_be, impl_isSize_r, impl_within_def, impl_within_d, impl_within_be, impl_within_r, inR, ge_iff_le]
  cases decide (0 ≤ x) <;> rfl
def partsI (s : Int) : Int := bif inR s 0 1000 then (s + 15) / 16 else -1
theorem parts_div {s : Int} (h : inR s 0 1000 = true) : wr .i64 (Int.tdiv (wr .i64 ((wr .i64 (s + 16)) - 1)) 16) = (s + 15) / 16 := by
  have := inR_iff.1 h
  rw [wr64 (x := s + 16) (by omega), wr64 (x := s + 16 - 1) (by omega), Int.tdiv_eq_ediv_of_nonneg (by omega), wr64 (by omega)]
  congr 1
  omega
theorem spec_PartsOf_eq (s : Int) : spec_PartsOf s = some (partsI s) := by
  rw [spec_PartsOf_def]
  simp only [spec_PartsOf_d, spec_PartsOf_be, spec_PartsOf_r, spec_l1In_eq, some_bind', partsI]
  cases h : inR s 0 1000 with
  | false => rfl
  | true => rw [parts_div h]; rfl
theorem impl_PartsOf_eq (s : Int) : impl_PartsOf s = some (partsI s) := by
  rw [impl_PartsOf_def]
  simp only [impl_PartsOf_d, impl_PartsOf_be, impl_PartsOf_r, impl_isSize_eq, some_bind', partsI]
  cases h : inR s 0 1000 with
  | false => rfl
  | true => rw [parts_div h]; rfl
def longI (s : Int) (i : Nat) : Int := mnI 16 (s - (i : Int) * 16)
theorem spec_l9Long_eq {s : Int} (h : inR s 0 1000 = true) (i : Nat) (hi : i ≤ 100) : spec_l9Long s (i : Int) = some (longI s i) := by
  have := inR_iff.1 h
  rw [spec_l9Long_def]
  simp only [spec_l9Long_d, spec_l9Long_be, spec_l9Long_r, spec_l1Min_def, spec_l1Min_d, spec_l1Min_be, spec_l1Min_r, wr64 (x := (i : Int) * 16) (by omega), wr64 (x := s - (i : Int) * 16) (by omega), longI, mnI]
  by_cases h1 : 16 < s - (i : Int) * 16
  · have h2 : decide (s - (i : Int) * 16 < 16) = false := by simp; omega
    rw [decide_eq_true h1, h2]; rfl
  · rw [decide_eq_false h1]
    by_cases h2 : s - (i : Int) * 16 < 16
    · rw [decide_eq_true h2]; rfl
    · have : s - (i : Int) * 16 = 16 := by omega
      rw [this]; rfl
theorem impl_partLong_eq {s : Int} (h : inR s 0 1000 = true) (i : Nat) (hi : i ≤ 100) : impl_partLong s (i : Int) = some (longI s i) := by
  have := inR_iff.1 h
  rw [impl_partLong_def]
  simp only [impl_partLong_d, impl_partLong_be, impl_partLong_r, wr64 (x := (i : Int) * 16) (by omega), wr64 (x := s - (i : Int) * 16) (by omega), longI]
def okL (s : Int) : Nat → List ByteArray → Bool
  | _, [] => true
  | i, v :: r => (decide (v.size = 0) || decide ((v.size : Int) = longI s i)) && okL s (i + 1) r
def pO (p : ParT) : Bool := inR p.1 0 1000 && (decide ((p.2.1.size : Int) = 32) && (decide ((p.2.2.length : Int) = (p.1 + 15) / 16) && okL p.1 0 p.2.2))
theorem drop_nilN {α : Type} {b : List α} {i : Nat} (h : b.drop i = []) : b.length ≤ i := by
  apply Nat.le_of_not_lt
  intro hlt
  have := congrArg List.length h
  rw [List.length_drop, List.length_nil] at this
  omega
theorem size_nil (v : ByteArray) : strEq v ⟨#[]⟩ = decide (v.size = 0) := by
  rw [strEq_dec]
  obtain ⟨⟨l⟩⟩ := v
  have : (⟨⟨l⟩⟩ : ByteArray).size = l.length := rfl
  rw [this]
  cases l with
  | nil => rfl
  | cons x l => simp
theorem spec_ok_go (p : ParT) (h : inR p.1 0 1000 = true) (hl : p.2.2.length ≤ 100) : ∀ (xs : List ByteArray) (i : Nat), p.2.2.drop i = xs → Ev (fun n => spec_ParcelOk_l4 n p (i : Int)) (okL p.1 i xs)
  | [], i, hd => by
    have := drop_nilN hd
    refine Ev.step (g := fun _ => some true) (fun n => ?_) Ev.const
    have d : decide ((i : Int) < (p.2.2.length : Int)) = false := by simp; omega
    simp only [spec_ParcelOk_l4, spec_ParcelOk_ls, spec_ParcelOk_b4, spec_ParcelOk_r, d, cond_false]
  | v :: xs, i, hd => by
    obtain ⟨g1, g2, g3⟩ := drop_consN hd
    have d : decide ((i : Int) < (p.2.2.length : Int)) = true := by simp; omega
    have w : wr .i64 ((i : Int) + 1) = ((i + 1 : Nat) : Int) := by rw [wr64 (by omega)]; omega
    have ih := spec_ok_go p h hl xs (i + 1) g2
    rw [okL]
    by_cases hz : v.size = 0
    · have dz : decide ((v.size : Int) = 0) = true := decide_eq_true (by omega)
      rw [decide_eq_true hz, Bool.true_or, Bool.true_and]
      refine Ev.step (fun n => ?_) ih
      simp only [spec_ParcelOk_l4, spec_ParcelOk_ls, spec_ParcelOk_b4, spec_ParcelOk_r, d, cond_true, idx_nat, g1, some_bind', dz, Bool.not_true, cond_false, w]
    · have dz : decide ((v.size : Int) = 0) = false := decide_eq_false (by omega)
      rw [decide_eq_false hz, Bool.false_or]
      cases hq : decide ((v.size : Int) = longI p.1 i) with
      | true =>
        rw [Bool.true_and]
        refine Ev.step (fun n => ?_) ih
        simp only [spec_ParcelOk_l4, spec_ParcelOk_ls, spec_ParcelOk_b4, spec_ParcelOk_r, d, cond_true, idx_nat, g1, some_bind', dz, Bool.not_false, Bool.not_true, cond_false, w, spec_l9Long_eq h i (by omega), hq]
      | false =>
        rw [Bool.false_and]
        refine Ev.step (g := fun _ => some false) (fun n => ?_) Ev.const
        simp only [spec_ParcelOk_l4, spec_ParcelOk_ls, spec_ParcelOk_b4, spec_ParcelOk_r, d, cond_true, idx_nat, g1, some_bind', dz, Bool.not_false, Bool.not_true, cond_false, w, spec_l9Long_eq h i (by omega), hq]
theorem impl_ok_go (p : ParT) (h : inR p.1 0 1000 = true) (hl : p.2.2.length ≤ 100) : ∀ (xs : List ByteArray) (i : Nat), p.2.2.drop i = xs → Ev (fun n => impl_ParcelOk_l4 n p p.2.2 (p.2.2.length : Int) (i : Int)) (okL p.1 i xs)
  | [], i, hd => by
    have := drop_nilN hd
    refine Ev.step (g := fun _ => some true) (fun n => ?_) Ev.const
    have d : decide ((i : Int) < (p.2.2.length : Int)) = false := by simp; omega
    simp only [impl_ParcelOk_l4, impl_ParcelOk_ls, impl_ParcelOk_b4, impl_ParcelOk_r, d, cond_false]
  | v :: xs, i, hd => by
    obtain ⟨g1, g2, g3⟩ := drop_consN hd
    have d : decide ((i : Int) < (p.2.2.length : Int)) = true := by simp; omega
    have w : wr .i64 ((i : Int) + 1) = ((i + 1 : Nat) : Int) := by rw [wr64 (by omega)]; omega
    have ih := impl_ok_go p h hl xs (i + 1) g2
    rw [okL]
    cases hz : decide (v.size = 0) with
    | true =>
      rw [Bool.true_or, Bool.true_and]
      refine Ev.step (fun n => ?_) ih
      simp only [impl_ParcelOk_l4, impl_ParcelOk_ls, impl_ParcelOk_b4, impl_ParcelOk_r, d, cond_true, idx_nat, g1, some_bind', size_nil, hz, Bool.not_true, cond_false, w]
    | false =>
      rw [Bool.false_or]
      cases hq : decide ((v.size : Int) = longI p.1 i) with
      | true =>
        rw [Bool.true_and]
        refine Ev.step (fun n => ?_) ih
        simp only [impl_ParcelOk_l4, impl_ParcelOk_ls, impl_ParcelOk_b4, impl_ParcelOk_r, d, cond_true, idx_nat, g1, some_bind', size_nil, hz, Bool.not_false, Bool.not_true, cond_false, w, impl_partLong_eq h i (by omega), hq]
      | false =>
        rw [Bool.false_and]
        refine Ev.step (g := fun _ => some false) (fun n => ?_) Ev.const
        simp only [impl_ParcelOk_l4, impl_ParcelOk_ls, impl_ParcelOk_b4, impl_ParcelOk_r, d, cond_true, idx_nat, g1, some_bind', size_nil, hz, Bool.not_false, Bool.not_true, cond_false, w, impl_partLong_eq h i (by omega), hq]
theorem spec_ParcelOk_eq (p : ParT) : spec_ParcelOk p = some (pO p) := by
  rw [spec_ParcelOk_def]
  unfold pO
  cases h : inR p.1 0 1000 with
  | false =>
    refine lim_of 0 fun n => ?_
    simp only [spec_ParcelOk_be, spec_ParcelOk_r, spec_PartsOf_eq, partsI, h, cond_false, some_bind', Bool.false_and]
    rfl
  | true =>
    have hb := inR_iff.1 h
    have d0 : decide ((p.1 + 15) / 16 < 0) = false := by simp; omega
    cases h1 : decide ((p.2.1.size : Int) = 32) with
    | false =>
      refine lim_of 0 fun n => ?_
      simp only [spec_ParcelOk_be, spec_ParcelOk_r, spec_PartsOf_eq, partsI, h, cond_true, cond_false, some_bind', d0, h1, Bool.not_false, Bool.false_and, Bool.and_false]
    | true =>
      cases h2 : decide ((p.2.2.length : Int) = (p.1 + 15) / 16) with
      | false =>
        refine lim_of 0 fun n => ?_
        simp only [spec_ParcelOk_be, spec_ParcelOk_r, spec_PartsOf_eq, partsI, h, cond_true, cond_false, some_bind', d0, h1, h2, Bool.not_false, Bool.not_true, Bool.false_and, Bool.and_false]
      | true =>
        have := of_decide_eq_true h2
        refine lim_ev (Ev.congr (fun n => ?_) (spec_ok_go p h (by omega) p.2.2 0 rfl))
        simp only [spec_ParcelOk_be, spec_PartsOf_eq, partsI, h, cond_true, cond_false, some_bind', d0, h1, h2, Bool.not_true]
        rfl
theorem impl_ParcelOk_eq (p : ParT) : impl_ParcelOk p = some (pO p) := by
  rw [impl_ParcelOk_def]
  unfold pO
  cases h : inR p.1 0 1000 with
  | false =>
    refine lim_of 0 fun n => ?_
    simp only [impl_ParcelOk_be, impl_ParcelOk_r, impl_isSize_eq, h, cond_true, Bool.not_false, some_bind', Bool.false_and]
  | true =>
    have hb := inR_iff.1 h
    cases h1 : decide ((p.2.1.size : Int) = 32) with
    | false =>
      refine lim_of 0 fun n => ?_
      simp only [impl_ParcelOk_be, impl_ParcelOk_r, impl_isSize_eq, h, cond_true, cond_false, some_bind', h1, Bool.not_true, Bool.not_false, Bool.false_and, Bool.and_false]
    | true =>
      cases h2 : decide ((p.2.2.length : Int) = (p.1 + 15) / 16) with
      | false =>
        refine lim_of 0 fun n => ?_
        simp only [impl_ParcelOk_be, impl_ParcelOk_r, impl_isSize_eq, impl_PartsOf_eq, partsI, h, cond_true, cond_false, some_bind', h1, h2, Bool.not_false, Bool.not_true, Bool.false_and, Bool.and_false]
      | true =>
        have := of_decide_eq_true h2
        refine lim_ev (Ev.congr (fun n => ?_) (impl_ok_go p h (by omega) p.2.2 0 rfl))
        simp only [impl_ParcelOk_be, impl_isSize_eq, impl_PartsOf_eq, partsI, h, cond_true, cond_false, some_bind', h1, h2, Bool.not_true]
        rfl
theorem pO_len {p : ParT} (h : pO p = true) : p.2.2.length ≤ 100 := by
  unfold pO at h
  simp only [Bool.and_eq_true, decide_eq_true_eq, inR_iff] at h
  omega

/-! ### The text -/
def catL (xs : List ByteArray) : List UInt8 := (xs.map (·.data.toList)).flatten
def lacks (xs : List ByteArray) : Bool := xs.any fun v => decide (v.size = 0)
theorem join_flat : ∀ xs : List (List UInt8), Lib.join xs [] = xs.flatten
  | [] => rfl
  | x :: r => by
    rw [Lib.join_cons, Lib.joinTail, List.flatten_cons]
    congr 1
    congr 1
    conv => rhs; rw [← List.map_id r]
    exact List.map_congr_left fun v _ => rfl
def tot : List ByteArray → Nat
  | [] => 0
  | v :: r => v.size + tot r
theorem catL_len : ∀ xs : List ByteArray, (catL xs).length = tot xs
  | [] => rfl
  | v :: r => by
    have := catL_len r
    unfold catL at this ⊢
    rw [List.map_cons, List.flatten_cons, List.length_append, this, tot]
    rfl
theorem join_eq (xs : List ByteArray) (h1 : xs.length ≤ 140737488355328) (h2 : tot xs ≤ 281474976710656) : strings_Join xs ⟨#[]⟩ = some ⟨(catL xs).toArray⟩ := by
  rw [strings_Join_def]
  unfold strings_Join_d
  have e : joinB xs ⟨#[]⟩ = catL xs := join_flat _
  rw [e, catL_len, decide_eq_true h1, decide_eq_true h2]
  rfl
theorem app_mk (a : List UInt8) (v : ByteArray) : (⟨a.toArray⟩ : ByteArray) ++ v = ⟨(a ++ v.data.toList).toArray⟩ := by
  apply ByteArray.ext
  rw [ByteArray.data_append]
  simp
def endP (p : ParT) (t : List UInt8) : ByteArray × Int := bif !(strEq (ofBytes (shaM (toBytes ⟨t.toArray⟩))) p.2.1) then (⟨#[]⟩, 3) else (⟨t.toArray⟩, 0)
def wholeP (p : ParT) : ByteArray × Int := bif pO p then (bif lacks p.2.2 then (⟨#[]⟩, 2) else endP p (catL p.2.2)) else (⟨#[]⟩, 1)
theorem spec_wh_go (p : ParT) (hl : p.2.2.length ≤ 100) : ∀ (xs : List ByteArray) (i : Nat) (acc : List UInt8), p.2.2.drop i = xs → acc.length + tot xs ≤ 1000000000 → Ev (fun n => spec_ParcelWhole_l5 n p ⟨acc.toArray⟩ (i : Int)) (bif lacks xs then (⟨#[]⟩, 2) else endP p (acc ++ catL xs))
  | [], i, acc, hd, hs => by
    have := drop_nilN hd
    refine Ev.step (g := fun _ => some (endP p acc)) (fun n => ?_) (by simp only [lacks, List.any_nil, cond_false, catL, List.map_nil, List.flatten_nil, List.append_nil]; exact Ev.const)
    have d : decide ((i : Int) < (p.2.2.length : Int)) = false := by simp; omega
    simp only [spec_ParcelWhole_l5, spec_ParcelWhole_ls, spec_ParcelWhole_b5, spec_ParcelWhole_r, d, cond_false, spec_Sha_eq (toBytes_bytes _), some_bind', endP]
    cases strEq (ofBytes (shaM (toBytes ⟨acc.toArray⟩))) p.2.1 <;> rfl
  | v :: xs, i, acc, hd, hs => by
    obtain ⟨g1, g2, g3⟩ := drop_consN hd
    rw [tot] at hs
    have d : decide ((i : Int) < (p.2.2.length : Int)) = true := by simp; omega
    have w : wr .i64 ((i : Int) + 1) = ((i + 1 : Nat) : Int) := by rw [wr64 (by omega)]; omega
    have hz : v.data.toList.length = v.size := rfl
    cases hq : decide (v.size = 0) with
    | true =>
      refine Ev.step (g := fun _ => some (⟨#[]⟩, 2)) (fun n => ?_) (by simp only [lacks, List.any_cons, hq, Bool.true_or, cond_true]; exact Ev.const)
      simp only [spec_ParcelWhole_l5, spec_ParcelWhole_ls, spec_ParcelWhole_b5, spec_ParcelWhole_r, d, cond_true, idx_nat, g1, some_bind', size_nil, hq]
    | false =>
      have ih := spec_wh_go p hl xs (i + 1) (acc ++ v.data.toList) g2 (by rw [List.length_append, hz]; omega)
      have e : acc ++ v.data.toList ++ catL xs = acc ++ catL (v :: xs) := by simp [catL]
      have e2 : lacks (v :: xs) = lacks xs := by simp only [lacks, List.any_cons, hq, Bool.false_or]
      rw [e, ← e2] at ih
      refine Ev.step (fun n => ?_) ih
      have d2 : decide ((⟨acc.toArray⟩ : ByteArray).size + v.size ≤ 9223372036854775807) = true := by
        have : (⟨acc.toArray⟩ : ByteArray).size = acc.length := rfl
        rw [this]; exact decide_eq_true (by omega)
      simp only [spec_ParcelWhole_l5, spec_ParcelWhole_ls, spec_ParcelWhole_b5, spec_ParcelWhole_r, d, cond_true, idx_nat, g1, some_bind', size_nil, hq, cond_false, d2, w, app_mk]
theorem spec_ParcelWhole_eq (p : ParT) (ht : tot p.2.2 ≤ 1048576) : spec_ParcelWhole p = some (wholeP p) := by
  rw [spec_ParcelWhole_def]
  unfold wholeP
  cases h : pO p with
  | false =>
    refine lim_of 0 fun n => ?_
    simp only [spec_ParcelWhole_be, spec_ParcelWhole_r, spec_ParcelOk_eq, h, some_bind', Bool.not_false, cond_true, cond_false]
  | true =>
    refine lim_ev (Ev.congr (fun n => ?_) (spec_wh_go p (pO_len h) p.2.2 0 [] rfl (by simp; omega)))
    simp only [spec_ParcelWhole_be, spec_ParcelOk_eq, h, some_bind', Bool.not_true, cond_false]
    rfl
theorem lk_go (P : List ByteArray) (hl : P.length ≤ 100) : ∀ (xs : List ByteArray) (i : Nat) (acc : List Int), P.drop i = xs → acc.length ≤ i → ∃ y, Ev (fun n => impl_ParcelLacks_l5 n acc P (P.length : Int) (i : Int)) y ∧ (decide ((y.length : Int) > 0) = (decide ((acc.length : Int) > 0) || lacks xs))
  | [], i, acc, hd, ha => by
    have := drop_nilN hd
    refine ⟨acc, Ev.step (g := fun _ => some acc) (fun n => ?_) Ev.const, by simp [lacks]⟩
    have d : decide ((i : Int) < (P.length : Int)) = false := by simp; omega
    simp only [impl_ParcelLacks_l5, impl_ParcelLacks_ls, impl_ParcelLacks_b5, impl_ParcelLacks_r, d, cond_false]
  | v :: xs, i, acc, hd, ha => by
    obtain ⟨g1, g2, g3⟩ := drop_consN hd
    have d : decide ((i : Int) < (P.length : Int)) = true := by simp; omega
    have w : wr .i64 ((i : Int) + 1) = ((i + 1 : Nat) : Int) := by rw [wr64 (by omega)]; omega
    cases hq : decide (v.size = 0) with
    | true =>
      obtain ⟨y, h1, h2⟩ := lk_go P hl xs (i + 1) (acc ++ [(i : Int)]) g2 (by simp; omega)
      refine ⟨y, Ev.step (fun n => ?_) h1, ?_⟩
      · have d2 : decide ((acc.length + ([(i : Int)] : List Int).length) * 8 ≤ 140737488355328) = true := by simp; omega
        simp only [impl_ParcelLacks_l5, impl_ParcelLacks_ls, impl_ParcelLacks_b5, impl_ParcelLacks_r, d, cond_true, idx_nat, g1, some_bind', size_nil, hq, d2, w]
      · rw [h2]
        have : decide (((acc ++ [(i : Int)]).length : Int) > 0) = true := decide_eq_true (by simp)
        rw [this]
        simp only [lacks, List.any_cons, hq, Bool.true_or, Bool.or_true]
    | false =>
      obtain ⟨y, h1, h2⟩ := lk_go P hl xs (i + 1) acc g2 (by omega)
      refine ⟨y, Ev.step (fun n => ?_) h1, ?_⟩
      · simp only [impl_ParcelLacks_l5, impl_ParcelLacks_ls, impl_ParcelLacks_b5, impl_ParcelLacks_r, d, cond_true, cond_false, idx_nat, g1, some_bind', size_nil, hq, w]
      · rw [h2]
        simp only [lacks, List.any_cons, hq, Bool.false_or]
theorem lacks_ok (p : ParT) (h : pO p = true) : ∃ y, impl_ParcelLacks p = some y ∧ decide ((y.length : Int) > 0) = lacks p.2.2 := by
  obtain ⟨y, h1, h2⟩ := lk_go p.2.2 (pO_len h) p.2.2 0 [] rfl (Nat.le_refl _)
  rw [impl_ParcelLacks_def]
  refine ⟨y, lim_ev (Ev.congr (fun n => ?_) h1), by rw [h2]; simp⟩
  simp only [impl_ParcelLacks_be, impl_ParcelOk_eq, h, some_bind', Bool.not_true, cond_false]
  rfl
theorem impl_ParcelWhole_eq (p : ParT) (hl : p.2.2.length ≤ 1048576) (ht : tot p.2.2 ≤ 1048576) : impl_ParcelWhole p = some (wholeP p) := by
  rw [impl_ParcelWhole_def]
  unfold wholeP
  simp only [impl_ParcelWhole_d, impl_ParcelWhole_be, impl_ParcelWhole_r, join_eq p.2.2 (by omega) (by omega), some_bind', impl_ParcelOk_eq]
  cases h : pO p with
  | false => rfl
  | true =>
    obtain ⟨y, h1, h2⟩ := lacks_ok p h
    simp only [Bool.not_true, cond_false, h1, some_bind', h2, impl_Sha_eq (toBytes_bytes _), cond_true]
    cases lacks p.2.2 with
    | true => rfl
    | false =>
      simp only [cond_false, endP]
      cases strEq (ofBytes (shaM (toBytes ⟨(catL p.2.2).toArray⟩))) p.2.1 <;> rfl

/-! ### The law -/
theorem szS_go : ∀ (xs : List ByteArray) (s : Int), (∀ v, v ∈ xs → v.size ≤ 140737488355328) → 0 ≤ s ∧ s ≤ 1048576 → ∃ t, foldE (fun v (s : Int) => laws_szStringS_G v s) (fun (s : Int) => laws_szStringS_fin s) xs s = some t ∧ (0 ≤ t → (tot xs : Int) ≤ s)
  | [], s, _, hs => ⟨s, rfl, fun _ => by simp [tot]; omega⟩
  | v :: xs, s, hv, hs => by
    have h1 := hv v List.mem_cons_self
    rw [foldE]
    by_cases h : s - (v.size : Int) < 0
    · have e : laws_szStringS_G v s = some (.inr (-1)) := by
        simp only [laws_szStringS_G, wr64 (x := s - (v.size : Int)) (by omega), decide_eq_true h, cond_true]
      exact ⟨-1, by rw [e]; rfl, by omega⟩
    · have e : laws_szStringS_G v s = some (.inl (s - (v.size : Int))) := by
        simp only [laws_szStringS_G, wr64 (x := s - (v.size : Int)) (by omega), decide_eq_false h, cond_false]
      obtain ⟨t, h2, h3⟩ := szS_go xs (s - (v.size : Int)) (fun u hu => hv u (List.mem_cons_of_mem _ hu)) (by omega)
      refine ⟨t, by rw [e]; exact h2, fun h => ?_⟩
      have := h3 h
      rw [tot]; omega
theorem szP (p : ParT) (hd : p.2.1.size ≤ 140737488355328) (hl : p.2.2.length ≤ 140737488355328) (hv : ∀ v, v ∈ p.2.2 → v.size ≤ 140737488355328) : ∃ t, laws_szParcel p 1048576 = some t ∧ (0 ≤ t → p.2.2.length ≤ 1048576 ∧ tot p.2.2 ≤ 1048576) := by
  rw [laws_szParcel_def]
  simp only [laws_szParcel_d, laws_szParcel_be, laws_szParcel_r, wr64 (x := 1048576 - (p.2.1.size : Int)) (by omega)]
  by_cases h : 1048576 - (p.2.1.size : Int) < 0
  · exact ⟨-1, by rw [decide_eq_true h]; rfl, by omega⟩
  · rw [decide_eq_false h, cond_false, laws_szStringS_def]
    simp only [laws_szStringS_d, laws_szStringS_be, laws_szStringS_r, wr64 (x := 1048576 - (p.2.1.size : Int) - (p.2.2.length : Int)) (by omega)]
    by_cases h2 : 1048576 - (p.2.1.size : Int) - (p.2.2.length : Int) < 0
    · exact ⟨-1, by rw [decide_eq_true h2]; rfl, by omega⟩
    · rw [decide_eq_false h2, cond_false]
      obtain ⟨t, h3, h4⟩ := szS_go p.2.2 (1048576 - (p.2.1.size : Int) - (p.2.2.length : Int)) hv (by omega)
      simp only [laws_szStringS_c, (lok_iff p.2.2).2 hl, decide_true, Bool.and_self, cond_true, h3, some_bind']
      by_cases h5 : t < 0
      · exact ⟨-1, by rw [decide_eq_true h5]; rfl, by omega⟩
      · refine ⟨t, by rw [decide_eq_false h5]; rfl, fun h => ?_⟩
        have := h4 h
        omega
theorem toS_eq (xs : List ByteArray) (h : xs.length ≤ 1048576) : laws_toStringS xs = some xs := by
  rw [laws_toStringS_def]
  have h1 : decide ((xs.length : Int) * 16 ≤ 140737488355328) = true := by simp; omega
  have h2 : decide (0 ≤ (xs.length : Int)) = true := by simp
  refine lim_of (xs.length + 1) fun m => ?_
  simp only [laws_toStringS_be, h1, h2, decide_true, Bool.and_self, cond_true]
  have := copyL xs (by omega) (fun v => v) (fun n i ys => laws_toStringS_l3 n xs ys i) some (fun n ys hy => by simp only [laws_toStringS_l3, laws_toStringS_ls, laws_toStringS_b3, laws_toStringS_r, Int.lt_irrefl, decide_false, cond_false])
    (fun n i ys v hy h0 h1 hm hi hw => by
      have h2 : i < (ys.length : Int) := by rw [hy]; exact h1
      obtain ⟨u, hu, _⟩ := idx_get (xs := ys) h0 h2
      simp only [laws_toStringS_l3, laws_toStringS_ls, laws_toStringS_b3, laws_toStringS_r, h1, hi, hw, h0, h2, hu, decide_true, cond_true, Bool.and_self, some_bind']) (List.replicate ((xs.length : Int)).toNat ⟨#[]⟩) (by simp) m
  rw [this]
  simp
theorem eqS_refl (a : List ByteArray) (h : lok a = true) : laws_eqStringS a a = some true := by
  rw [laws_eqStringS_def]
  have hb := (lok_iff a).1 h
  refine lim_of (a.length + 1) fun m => ?_
  have key := eqL a a rfl hb (fun n i => laws_eqStringS_l4 n a a i) (fun n => by simp only [laws_eqStringS_l4, laws_eqStringS_ls, laws_eqStringS_b4, laws_eqStringS_r, Int.lt_irrefl, decide_false, cond_false])
    (fun n i v u h1 h2 h3 h4 => by
      have hu : v = u := by rw [h2] at h3; injection h3
      subst hu
      simp only [laws_eqStringS_l4, laws_eqStringS_ls, laws_eqStringS_b4, laws_eqStringS_r, h1, h2, h4, decide_true, cond_true, some_bind', strEq_refl, Bool.not_true, cond_false]) m
  have : decide ((a.length : Int) = (a.length : Int)) = true := by simp
  simp only [laws_eqStringS_be, this, Bool.not_true, cond_false]
  rw [key]
  simp
abbrev ParK : K := .pair (.int .i64) (.pair .str (.list .str))
theorem pure_FnExactParcelWhole (x0 : ParK.T) (h : WfK ParK x0) : laws_FnExactParcelWhole x0 = some true := by
  obtain ⟨_, h2, h3, h4⟩ := h
  have hr : reachBytes ≤ 140737488355328 := by decide
  have h2' : x0.2.1.size ≤ 140737488355328 := Nat.le_trans h2 hr
  have h3' : x0.2.2.length ≤ 140737488355328 := Nat.le_trans h3 hr
  obtain ⟨t, e, ht⟩ := szP x0 h2' h3' (fun v hv => Nat.le_trans (h4 v hv) hr)
  rw [laws_FnExactParcelWhole_def]
  simp only [laws_FnExactParcelWhole_d, laws_FnExactParcelWhole_be, laws_FnExactParcelWhole_r, e, some_bind']
  by_cases hn : t < 0
  · rw [decide_eq_true hn]; rfl
  · obtain ⟨g1, g2⟩ := ht (by omega)
    have hto : laws_toParcel x0 = some x0 := by
      rw [laws_toParcel_def]
      simp only [laws_toParcel_d, laws_toParcel_be, laws_toParcel_r, toS_eq x0.2.2 g1, some_bind']
    have heq : laws_eqParcel x0 x0 = some true := by
      rw [laws_eqParcel_def]
      simp only [laws_eqParcel_d, laws_eqParcel_be, laws_eqParcel_r, decide_true, Bool.not_true, cond_false, strEq_refl, eqS_refl x0.2.2 ((lok_iff _).2 (by omega)), some_bind']
    rw [decide_eq_false hn]
    simp only [cond_false, hto, some_bind', spec_ParcelWhole_eq x0 (by omega), impl_ParcelWhole_eq x0 g1 g2, strEq_refl, decide_true, Bool.not_true, heq]
end Go.TM
