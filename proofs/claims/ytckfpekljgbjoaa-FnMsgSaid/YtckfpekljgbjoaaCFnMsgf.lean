/- Part 6 of the proof that the law FnMsg holds of the program: words, the data machine and its soundness, the program's functions as pure functions, and the plain law; no condition is added. -/
import Derived.Test.YtckfpekljgbjoaaCFnMsge
/- The digest: the reference's, whole. -/
set_option linter.unusedVariables false
set_option linter.unusedSimpArgs false
set_option linter.unusedSectionVars false
set_option maxRecDepth 10000
namespace Go.TM
open Go

theorem getD_of {l : List Nat} {i : Nat} (h : i < l.length) : l[i]? = some (l.getD i 0) := by
  rw [List.getD_eq_getElem?_getD, List.getElem?_eq_getElem h]; rfl
theorem all_getD {l : List Nat} (h : All32 l) (i : Nat) : l.getD i 0 < 4294967296 := by
  rw [List.getD_eq_getElem?_getD]
  cases hi : l[i]? with
  | none => decide
  | some x => exact h x (List.mem_of_getElem? hi)
theorem nxt_lt (w : List Nat) : nxt w < 4294967296 := Nat.mod_lt _ (by decide)
theorem xpd_ok : ∀ (j : Nat) (w : List Nat), All32 w → (xpd j w).length = w.length + j ∧ All32 (xpd j w)
  | 0, w, h => ⟨rfl, h⟩
  | j + 1, w, h => by
    obtain ⟨h1, h2⟩ := xpd_ok j (w ++ [nxt w]) (fun x hx => by
      rcases List.mem_append.1 hx with hx | hx
      · exact h x hx
      · simp only [List.mem_singleton] at hx; subst hx; exact nxt_lt w)
    refine ⟨?_, h2⟩
    rw [xpd, h1]; simp; omega
theorem lt63' {x : Nat} (h : x < 4294967296) : x < 9223372036854775808 := by omega
theorem sg0_eq {x : Nat} (h : x < 4294967296) : bitsOf .xor .i64 (bitsOf .xor .i64 ((tr x 7 : Nat) : Int) ((tr x 18 : Nat) : Int)) (shrOf .i64 (x : Int) 3) = ((sg0 x : Nat) : Int) := by
  have := shr_nat x 3 (by omega)
  rw [show ((3 : Nat) : Int) = 3 from rfl] at this
  rw [this, xor_nat _ _ (lt63' (tr_lt _ _)) (lt63' (tr_lt _ _)), xor_nat _ _ (lt63' (xor_lt (tr_lt _ _) (tr_lt _ _))) (by have := Nat.div_le_self x (2 ^ 3); omega)]; rfl
theorem sg1_eq {x : Nat} (h : x < 4294967296) : bitsOf .xor .i64 (bitsOf .xor .i64 ((tr x 17 : Nat) : Int) ((tr x 19 : Nat) : Int)) (shrOf .i64 (x : Int) 10) = ((sg1 x : Nat) : Int) := by
  have := shr_nat x 10 (by omega)
  rw [show ((10 : Nat) : Int) = 10 from rfl] at this
  rw [this, xor_nat _ _ (lt63' (tr_lt _ _)) (lt63' (tr_lt _ _)), xor_nat _ _ (lt63' (xor_lt (tr_lt _ _) (tr_lt _ _))) (by have := Nat.div_le_self x (2 ^ 10); omega)]; rfl
theorem blk_7 {H : List Nat} (hH : H.length = 8) (aH : All32 H) : ∀ (j t : Nat) (W : List Nat), t + j = 64 → W.length = t → 16 ≤ t → All32 W → Ev (fun n => spec_l2Block_l7 n (toI H) (toI W) (t : Int)) (toI (addL H (rnds keysN (xpd j W) H)))
  | 0, t, W, ht, hW, h16, aW => by
    refine Ev.step (fun n => ?_) (blk_15 hH aH (by omega) aW keysN W 0 H rfl rfl (by omega) hH aH)
    have d : decide ((t : Int) < 64) = false := by simp; omega
    have d2 : decide ((([] : List Int).length + (toI H).length) * 8 ≤ 140737488355328) = true := by rw [toI_len, hH]; decide
    rw [l2b7]
    simp only [spec_l2Block_b7, d, d2, cond_false, cond_true, spec_l2Keys_eq, some_bind', List.nil_append]
    rfl
  | j + 1, t, W, ht, hW, h16, aW => by
    have ih := blk_7 hH aH j (t + 1) (W ++ [nxt W]) (by omega) (by simp; omega) (by omega) (fun x hx => by
      rcases List.mem_append.1 hx with hx | hx
      · exact aW x hx
      · simp only [List.mem_singleton] at hx; subst hx; exact nxt_lt W)
    refine Ev.step (fun n => ?_) ih
    have dt : decide ((t : Int) < 64) = true := by simp; omega
    have w1 : wr .i64 ((t : Int) - 15) = ((t - 15 : Nat) : Int) := by rw [wr64 (by omega)]; omega
    have w2 : wr .i64 ((t : Int) - 2) = ((t - 2 : Nat) : Int) := by rw [wr64 (by omega)]; omega
    have w3 : wr .i64 ((t : Int) - 7) = ((t - 7 : Nat) : Int) := by rw [wr64 (by omega)]; omega
    have w4 : wr .i64 ((t : Int) - 16) = ((t - 16 : Nat) : Int) := by rw [wr64 (by omega)]; omega
    have w5 : wr .i64 ((t : Int) + 1) = ((t + 1 : Nat) : Int) := by rw [wr64 (by omega)]; omega
    have p : ∀ i : Nat, decide (0 ≤ (i : Int)) = true := fun i => by simp
    have q : ∀ i : Nat, i < t → decide ((i : Int) < ((toI W).length : Int)) = true := fun i hi => by rw [toI_len]; simp; omega
    have i1 := toI_idx (getD_of (show t - 15 < W.length by omega))
    have i2 := toI_idx (getD_of (show t - 2 < W.length by omega))
    have i3 := toI_idx (getD_of (show t - 7 < W.length by omega))
    have i4 := toI_idx (getD_of (show t - 16 < W.length by omega))
    have a1 := all_getD aW (t - 15)
    have a2 := all_getD aW (t - 2)
    have a3 := all_getD aW (t - 7)
    have a4 := all_getD aW (t - 16)
    have c1 := spec_l2Turn_eq 7 a1 (by omega)
    have c2 := spec_l2Turn_eq 18 a1 (by omega)
    have c3 := spec_l2Turn_eq 17 a2 (by omega)
    have c4 := spec_l2Turn_eq 19 a2 (by omega)
    simp only [show ((7 : Nat) : Int) = 7 from rfl, show ((18 : Nat) : Int) = 18 from rfl, show ((17 : Nat) : Int) = 17 from rfl, show ((19 : Nat) : Int) = 19 from rfl] at c1 c2 c3 c4
    have g0 := sg0_lt a1
    have g1 := sg1_lt a2
    have s1 : wr .i64 (((sg1 (W.getD (t - 2) 0) : Nat) : Int) + ((W.getD (t - 7) 0 : Nat) : Int)) = ((sg1 (W.getD (t - 2) 0) + W.getD (t - 7) 0 : Nat) : Int) := by rw [wr64 (by omega)]; omega
    have s2 : wr .i64 (((sg1 (W.getD (t - 2) 0) + W.getD (t - 7) 0 : Nat) : Int) + ((sg0 (W.getD (t - 15) 0) : Nat) : Int)) = ((sg1 (W.getD (t - 2) 0) + W.getD (t - 7) 0 + sg0 (W.getD (t - 15) 0) : Nat) : Int) := by rw [wr64 (by omega)]; omega
    have s3 : wr .i64 (((sg1 (W.getD (t - 2) 0) + W.getD (t - 7) 0 + sg0 (W.getD (t - 15) 0) : Nat) : Int) + ((W.getD (t - 16) 0 : Nat) : Int)) = ((sg1 (W.getD (t - 2) 0) + W.getD (t - 7) 0 + sg0 (W.getD (t - 15) 0) + W.getD (t - 16) 0 : Nat) : Int) := by rw [wr64 (by omega)]; omega
    have s4 := spec_l2Low_eq (x := sg1 (W.getD (t - 2) 0) + W.getD (t - 7) 0 + sg0 (W.getD (t - 15) 0) + W.getD (t - 16) 0) (by omega)
    have e : (sg1 (W.getD (t - 2) 0) + W.getD (t - 7) 0 + sg0 (W.getD (t - 15) 0) + W.getD (t - 16) 0) % 4294967296 = nxt W := by unfold nxt; rw [hW]
    rw [e] at s4
    have d3 : ∀ x : Int, decide (((toI W).length + ([x] : List Int).length) * 8 ≤ 140737488355328) = true := by intro x; rw [toI_len]; simp; omega
    rw [l2b7]
    simp only [spec_l2Block_b7, dt, cond_true, w1, w2, w3, w4, w5, p, q (t - 15) (by omega), q (t - 2) (by omega), q (t - 7) (by omega), q (t - 16) (by omega), Bool.and_self, i1, i2, i3, i4, some_bind', c1, c2, c3, c4, sg0_eq a1, sg1_eq a2, s1, s2, s3, s4, d3]
    rw [toI_app]
    rfl
theorem be_or {p q r s : Nat} (hp : p ≤ 255) (hq : q ≤ 255) (hr : r ≤ 255) (hs : s ≤ 255) : ((p * 2 ^ 24 ||| q * 2 ^ 16) ||| r * 2 ^ 8) ||| s = p * 16777216 + q * 65536 + r * 256 + s := by
  have e1 : p * 2 ^ 24 ||| q * 2 ^ 16 = 2 ^ 16 * (p * 256 + q) := by
    rw [Nat.mul_comm p, ← Nat.two_pow_add_eq_or_of_lt (by omega)]; omega
  have e2 : 2 ^ 16 * (p * 256 + q) ||| r * 2 ^ 8 = 2 ^ 8 * (p * 65536 + q * 256 + r) := by
    rw [← Nat.two_pow_add_eq_or_of_lt (by omega)]; omega
  rw [e1, e2, ← Nat.two_pow_add_eq_or_of_lt (by omega)]; omega
theorem be_eq {p q r s : Int} (hp : 0 ≤ p ∧ p ≤ 255) (hq : 0 ≤ q ∧ q ≤ 255) (hr : 0 ≤ r ∧ r ≤ 255) (hs : 0 ≤ s ∧ s ≤ 255) :
    bitsOf .or .i64 (bitsOf .or .i64 (bitsOf .or .i64 (shlOf .i64 p 24) (shlOf .i64 q 16)) (shlOf .i64 r 8)) s = ((p.toNat * 16777216 + q.toNat * 65536 + r.toNat * 256 + s.toNat : Nat) : Int) := by
  obtain ⟨p, rfl⟩ : ∃ n : Nat, p = n := ⟨p.toNat, by omega⟩
  obtain ⟨q, rfl⟩ : ∃ n : Nat, q = n := ⟨q.toNat, by omega⟩
  obtain ⟨r, rfl⟩ : ∃ n : Nat, r = n := ⟨r.toNat, by omega⟩
  obtain ⟨s, rfl⟩ : ∃ n : Nat, s = n := ⟨s.toNat, by omega⟩
  have e1 := shl_nat p 24 (by omega) (by omega)
  have e2 := shl_nat q 16 (by omega) (by omega)
  have e3 := shl_nat r 8 (by omega) (by omega)
  simp only [show ((24 : Nat) : Int) = 24 from rfl, show ((16 : Nat) : Int) = 16 from rfl, show ((8 : Nat) : Int) = 8 from rfl] at e1 e2 e3
  have o1 : p * 2 ^ 24 ||| q * 2 ^ 16 < 2 ^ 32 := Nat.or_lt_two_pow (by omega) (by omega)
  have o2 : (p * 2 ^ 24 ||| q * 2 ^ 16) ||| r * 2 ^ 8 < 2 ^ 32 := Nat.or_lt_two_pow o1 (by omega)
  rw [e1, e2, e3, or_nat _ _ (by omega) (by omega), or_nat _ _ (by omega) (by omega), or_nat _ _ (by omega) (by omega), be_or (by omega) (by omega) (by omega) (by omega)]
  simp only [Int.toNat_natCast]
theorem four_up {l : List Int} {j : Nat} (h : l.length = 4 * (j + 1)) : ∃ p q r s rest, l = p :: q :: r :: s :: rest ∧ rest.length = 4 * j := by
  match l, h with
  | p :: q :: r :: s :: rest, h => exact ⟨p, q, r, s, rest, rfl, by simp only [List.length_cons] at h; omega⟩
theorem blk_3 {H : List Nat} (hH : H.length = 8) (aH : All32 H) {b : List Int} (hb : Bytes b) (hl : b.length = 64) : ∀ (j t : Nat) (bs : List Int) (W : List Nat), t + j = 16 → W.length = t → All32 W → b.drop (4 * t) = bs → Ev (fun n => spec_l2Block_l3 n (toI H) b (toI W) (t : Int)) (toI (addL H (rnds keysN (xpd 48 (W ++ ldw j bs)) H)))
  | 0, t, bs, W, ht, hW, aW, hd => by
    have hbs : ldw 0 bs = [] := by cases bs <;> rfl
    rw [hbs, List.append_nil]
    refine Ev.step (fun n => ?_) (blk_7 hH aH 48 16 W (by omega) (by omega) (by omega) aW)
    have d : decide ((t : Int) < 16) = false := by simp; omega
    rw [l2b3]
    simp only [spec_l2Block_b3, d, cond_false]
    rfl
  | j + 1, t, bs, W, ht, hW, aW, hd => by
    obtain ⟨p, q, r, s, rest, rfl, hrl⟩ := four_up (l := bs) (j := j) (by rw [← hd, List.length_drop]; omega)
    obtain ⟨x1, y1, z1⟩ := drop_cons hd
    obtain ⟨x2, y2, z2⟩ := drop_cons y1
    obtain ⟨x3, y3, z3⟩ := drop_cons y2
    obtain ⟨x4, y4, z4⟩ := drop_cons y3
    have b1 := hb p (List.mem_of_getElem? x1)
    have b2 := hb q (List.mem_of_getElem? x2)
    have b3 := hb r (List.mem_of_getElem? x3)
    have b4 := hb s (List.mem_of_getElem? x4)
    have ih := blk_3 hH aH hb hl j (t + 1) rest (W ++ [p.toNat * 16777216 + q.toNat * 65536 + r.toNat * 256 + s.toNat]) (by omega) (by simp; omega) (fun x hx => by
      rcases List.mem_append.1 hx with hx | hx
      · exact aW x hx
      · simp only [List.mem_singleton] at hx; omega) (by rw [← y4]; congr 1)
    have e : W ++ [p.toNat * 16777216 + q.toNat * 65536 + r.toNat * 256 + s.toNat] ++ ldw j rest = W ++ ldw (j + 1) (p :: q :: r :: s :: rest) := by simp [ldw]
    rw [e] at ih
    refine Ev.step (fun n => ?_) ih
    have dt : decide ((t : Int) < 16) = true := by simp; omega
    have w1 : wr .i64 (4 * (t : Int)) = ((4 * t : Nat) : Int) := by rw [wr64 (by omega)]; omega
    have w2 : wr .i64 (((4 * t : Nat) : Int) + 1) = ((4 * t + 1 : Nat) : Int) := by rw [wr64 (by omega)]; omega
    have w3 : wr .i64 (((4 * t : Nat) : Int) + 2) = ((4 * t + 1 + 1 : Nat) : Int) := by rw [wr64 (by omega)]; omega
    have w4 : wr .i64 (((4 * t : Nat) : Int) + 3) = ((4 * t + 1 + 1 + 1 : Nat) : Int) := by rw [wr64 (by omega)]; omega
    have w5 : wr .i64 ((t : Int) + 1) = ((t + 1 : Nat) : Int) := by rw [wr64 (by omega)]; omega
    have d3 : ∀ x : Int, decide (((toI W).length + ([x] : List Int).length) * 8 ≤ 140737488355328) = true := by intro x; rw [toI_len]; simp; omega
    rw [l2b3]
    simp only [spec_l2Block_b3, dt, cond_true, w1, w2, w3, w4, w5, idx_nat, x1, x2, x3, x4, some_bind', wr64 (x := p) (by omega), wr64 (x := q) (by omega), wr64 (x := r) (by omega), wr64 (x := s) (by omega), be_eq b1 b2 b3 b4, d3]
    rw [toI_app]
    rfl
theorem spec_l2Block_eq {H : List Nat} (hH : H.length = 8) (aH : All32 H) {b : List Int} (hb : Bytes b) (hl : b.length = 64) : spec_l2Block (toI H) b = some (toI (blkF H b)) := by
  rw [spec_l2Block_def]
  refine lim_ev (Ev.congr (fun n => ?_) (blk_3 hH aH hb hl 16 0 b [] rfl rfl (fun x hx => by cases hx) rfl))
  simp only [spec_l2Block_be]
  rfl
theorem addL_ok {h v : List Nat} (h1 : h.length = 8) (h2 : v.length = 8) : (addL h v).length = 8 ∧ All32 (addL h v) := by
  refine ⟨by simp [addL, h1, h2], fun x hx => ?_⟩
  simp only [addL] at hx
  rw [List.mem_iff_getElem] at hx
  obtain ⟨i, hi, rfl⟩ := hx
  rw [List.getElem_zipWith]
  exact Nat.mod_lt _ (by decide)
theorem rnds_len : ∀ (ks ws v : List Nat), v.length = 8 → All32 v → (rnds ks ws v).length = 8
  | [], _, _, h, _ => by simp only [rnds]; exact h
  | _ :: _, [], _, h, _ => by simp only [rnds]; exact h
  | k :: ks, w :: ws, v, h, a => by
    obtain ⟨h1, h2⟩ := rnd_ok (k := k) (w := w) h a
    exact rnds_len ks ws _ h1 h2
theorem blkF_ok {h : List Nat} {b : List Int} (h1 : h.length = 8) (h2 : All32 h) : (blkF h b).length = 8 ∧ All32 (blkF h b) := addL_ok h1 (rnds_len _ _ _ h1 h2)

/-! ### The whole -/
def padZ (n : Nat) : Nat := (119 - n % 64) % 64
def lenB (n : Nat) : Nat → List Int
  | 0 => []
  | j + 1 => (((8 * n) / 2 ^ (8 * j) % 256 : Nat) : Int) :: lenB n j
def padB (b : List Int) : List Int := ((b ++ [128]) ++ List.replicate (padZ b.length) 0) ++ lenB b.length 8
def hash : Nat → List Int → List Nat → List Nat
  | 0, _, h => h
  | q + 1, m, h => hash q (m.drop 64) (blkF h (m.take 64))
def outB (h : List Nat) : List Int := h.flatMap fun x => [((x / 16777216 % 256 : Nat) : Int), ((x / 65536 % 256 : Nat) : Int), ((x / 256 % 256 : Nat) : Int), ((x % 256 : Nat) : Int)]
def first8 : List Nat := [1779033703, 3144134277, 1013904242, 2773480762, 1359893119, 2600822924, 528734635, 1541459225]
def shaM (b : List Int) : List Int := if b.length > 4000 then [] else outB (hash ((padB b).length / 64) (padB b) first8)
theorem shs5 (n : Nat) : spec_Sha_l5 (n + 1) = spec_Sha_b5 (spec_Sha_l5 n) (spec_Sha_l8 n) (spec_Sha_l13 n) (spec_Sha_l17 n) spec_Sha_r := rfl
theorem shs8 (n : Nat) : spec_Sha_l8 (n + 1) = spec_Sha_b8 (spec_Sha_l5 n) (spec_Sha_l8 n) (spec_Sha_l13 n) (spec_Sha_l17 n) spec_Sha_r := rfl
theorem shs13 (n : Nat) : spec_Sha_l13 (n + 1) = spec_Sha_b13 (spec_Sha_l5 n) (spec_Sha_l8 n) (spec_Sha_l13 n) (spec_Sha_l17 n) spec_Sha_r := rfl
theorem shs17 (n : Nat) : spec_Sha_l17 (n + 1) = spec_Sha_b17 (spec_Sha_l5 n) (spec_Sha_l8 n) (spec_Sha_l13 n) (spec_Sha_l17 n) spec_Sha_r := rfl
theorem outB_len : ∀ h : List Nat, (outB h).length = 4 * h.length
  | [] => rfl
  | x :: h => by
    have := outB_len h
    unfold outB at this ⊢
    rw [List.flatMap_cons, List.length_append, this]
    simp only [List.length_cons, List.length_nil]; omega
theorem sha_17 {h : List Nat} (hh : h.length = 8) (ah : All32 h) : ∀ (xs : List Nat) (i : Nat) (out : List Int), h.drop i = xs → out.length = 4 * i → i ≤ 8 → Ev (fun n => spec_Sha_l17 n out (toI h) (i : Int)) (out ++ outB xs)
  | [], i, out, hd, ho, hi => by
    have h8 : 8 ≤ i := by
      apply Nat.le_of_not_lt
      intro hlt
      have := congrArg List.length hd
      rw [List.length_drop, List.length_nil] at this
      omega
    refine Ev.step (g := fun _ => some out) (fun n => ?_) (by simp only [outB, List.flatMap_nil, List.append_nil]; exact Ev.const)
    have d : decide ((i : Int) < 8) = false := by simp; omega
    rw [shs17]
    simp only [spec_Sha_b17, spec_Sha_r, d, cond_false]
  | x :: xs, i, out, hd, ho, hi => by
    obtain ⟨a1, a2, a3⟩ := drop_consN hd
    have hx := ah x (List.mem_of_getElem? a1)
    have ih := sha_17 hh ah xs (i + 1) (out ++ [((x / 16777216 % 256 : Nat) : Int), ((x / 65536 % 256 : Nat) : Int), ((x / 256 % 256 : Nat) : Int), ((x % 256 : Nat) : Int)]) a2 (by simp; omega) (by omega)
    have e : out ++ [((x / 16777216 % 256 : Nat) : Int), ((x / 65536 % 256 : Nat) : Int), ((x / 256 % 256 : Nat) : Int), ((x % 256 : Nat) : Int)] ++ outB xs = out ++ outB (x :: xs) := by simp [outB]
    rw [e] at ih
    refine Ev.step (fun n => ?_) ih
    have d : decide ((i : Int) < 8) = true := by simp; omega
    have d1 : decide (0 ≤ (i : Int)) = true := by simp
    have d2 : decide ((i : Int) < ((toI h).length : Int)) = true := by rw [toI_len]; simp; omega
    have s1 := shr_nat x 24 (by omega)
    have s2 := shr_nat x 16 (by omega)
    have s3 := shr_nat x 8 (by omega)
    simp only [show ((24 : Nat) : Int) = 24 from rfl, show ((16 : Nat) : Int) = 16 from rfl, show ((8 : Nat) : Int) = 8 from rfl] at s1 s2 s3
    have w5 : wr .i64 ((i : Int) + 1) = ((i + 1 : Nat) : Int) := by rw [wr64 (by omega)]; omega
    have d3 : ∀ p q r s : Int, decide ((out.length + ([p, q, r, s] : List Int).length) * 1 ≤ 140737488355328) = true := by intro p q r s; simp; omega
    rw [shs17]
    simp only [spec_Sha_b17, spec_Sha_r, d, d1, d2, Bool.and_self, cond_true, toI_idx a1, some_bind', s1, s2, s3, wr8, d3, w5]
    norm_cast
end Go.TM

/- The digest: the reference's loops over the text. -/
set_option linter.unusedVariables false
set_option linter.unusedSimpArgs false
set_option linter.unusedSectionVars false
set_option maxRecDepth 10000
namespace Go.TM
open Go

theorem hash_ok : ∀ (q : Nat) (m : List Int) (h : List Nat), h.length = 8 → All32 h → (hash q m h).length = 8 ∧ All32 (hash q m h)
  | 0, m, h, h1, h2 => ⟨h1, h2⟩
  | q + 1, m, h, h1, h2 => by
    obtain ⟨g1, g2⟩ := blkF_ok (b := m.take 64) h1 h2
    exact hash_ok q _ _ g1 g2
theorem sha_13 {m : List Int} (hm : Bytes m) (hl : m.length ≤ 100000) : ∀ (q i : Nat) (h : List Nat), i + 64 * q = m.length → h.length = 8 → All32 h → Ev (fun n => spec_Sha_l13 n [] m (toI h) (i : Int)) (outB (hash q (m.drop i) h))
  | 0, i, h, hi, h8, ah => by
    refine Ev.step (fun n => ?_) (sha_17 h8 ah h 0 [] rfl rfl (by omega))
    have d : decide ((i : Int) < (m.length : Int)) = false := by simp; omega
    rw [shs13]
    simp only [spec_Sha_b13, d, cond_false]
    rfl
  | q + 1, i, h, hi, h8, ah => by
    obtain ⟨g1, g2⟩ := blkF_ok (b := (m.drop i).take 64) h8 ah
    have ih := sha_13 hm hl q (i + 64) (blkF h ((m.drop i).take 64)) (by omega) g1 g2
    rw [← List.drop_drop] at ih
    refine Ev.step (fun n => ?_) ih
    have d : decide ((i : Int) < (m.length : Int)) = true := by simp; omega
    have w1 : wr .i64 ((i : Int) + 64) = ((i + 64 : Nat) : Int) := by rw [wr64 (by omega)]; omega
    have d1 : decide (0 ≤ (i : Int)) = true := by simp
    have d2 : decide ((i : Int) ≤ ((i + 64 : Nat) : Int)) = true := by simp; omega
    have d3 : decide (((i + 64 : Nat) : Int) ≤ (m.length : Int)) = true := by simp; omega
    have e : (((i + 64 : Nat) : Int) - (i : Int)).toNat = 64 := by omega
    rw [shs13]
    simp only [spec_Sha_b13, d, w1, d1, d2, d3, Bool.and_self, cond_true, e, Int.toNat_natCast, spec_l2Block_eq h8 ah (bytes_take (bytes_drop hm i) 64) (show ((m.drop i).take 64).length = 64 by rw [List.length_take, List.length_drop]; omega), some_bind']
theorem first8_ok : first8.length = 8 ∧ All32 first8 := ⟨rfl, by unfold All32; decide⟩
theorem lenB_len (n : Nat) : ∀ j, (lenB n j).length = j
  | 0 => rfl
  | j + 1 => by simp [lenB, lenB_len n j]
theorem sha_8 {b : List Int} (hb : b.length ≤ 4000) : ∀ (j : Nat) (m : List Int), j ≤ 8 → (m.length + j) % 64 = 0 → Bytes m → m.length ≤ 10000 →
    Ev (fun n => spec_Sha_l8 n b [] m ((j : Int) - 1)) (outB (hash ((m ++ lenB b.length j).length / 64) (m ++ lenB b.length j) first8))
  | 0, m, hj, hm, hby, hl => by
    simp only [lenB, List.append_nil]
    have := sha_13 hby (by omega) (m.length / 64) 0 first8 (by omega) first8_ok.1 first8_ok.2
    rw [List.drop_zero] at this
    refine Ev.step (fun n => ?_) this
    have d : decide (((0 : Nat) : Int) - 1 ≥ 0) = false := by decide
    rw [shs8]
    simp only [spec_Sha_b8, d, cond_false]
    rfl
  | j + 1, m, hj, hm, hby, hl => by
    have ih := sha_8 hb j (m ++ [(((8 * b.length) / 2 ^ (8 * j) % 256 : Nat) : Int)]) (by omega) (by simp; omega) (hby.app (fun v hv => by simp only [List.mem_singleton] at hv; omega)) (by simp; omega)
    have e : m ++ [(((8 * b.length) / 2 ^ (8 * j) % 256 : Nat) : Int)] ++ lenB b.length j = m ++ lenB b.length (j + 1) := by simp [lenB]
    rw [e] at ih
    refine Ev.step (fun n => ?_) ih
    have e1 : (((j + 1 : Nat) : Int) - 1) = (j : Int) := by omega
    have d : decide ((j : Int) ≥ 0) = true := by simp
    have w1 : wr .i64 (8 * (j : Int)) = ((8 * j : Nat) : Int) := by rw [wr64 (by omega)]; omega
    have w2 : wr .i64 (8 * (b.length : Int)) = ((8 * b.length : Nat) : Int) := by rw [wr64 (by omega)]; omega
    have w3 : wr .i64 ((j : Int) - 1) = (j : Int) - 1 := wr64 (by omega)
    have d2 : decide (((8 * j : Nat) : Int) < 0) = false := by simp; omega
    have s1 := shr_nat (8 * b.length) (8 * j) (by omega)
    have s2 : wr .u8 (((8 * b.length) / 2 ^ (8 * j) : Nat) : Int) = (((8 * b.length) / 2 ^ (8 * j) % 256 : Nat) : Int) := by rw [wr8]; norm_cast
    have d3 : ∀ x : Int, decide ((m.length + ([x] : List Int).length) * 1 ≤ 140737488355328) = true := by intro x; simp; omega
    rw [shs8, e1]
    simp only [spec_Sha_b8, d, w1, w2, w3, d2, s1, s2, d3, cond_true, cond_false]
theorem sha_5 {b : List Int} (hb : b.length ≤ 4000) : ∀ (z : Nat) (m : List Int), z < 64 → (m.length + z) % 64 = 56 → Bytes m → m.length + z ≤ 9000 →
    Ev (fun n => spec_Sha_l5 n b [] m) (outB (hash (((m ++ List.replicate z 0) ++ lenB b.length 8).length / 64) ((m ++ List.replicate z 0) ++ lenB b.length 8) first8))
  | 0, m, hz, hm, hby, hl => by
    have := sha_8 hb 8 m (by omega) (by omega) hby (by omega)
    simp only [List.replicate_zero, List.append_nil]
    refine Ev.step (fun n => ?_) this
    have t : Int.tmod (m.length : Int) 64 = ((m.length % 64 : Nat) : Int) := by rw [Int.tmod_eq_emod_of_nonneg (by omega)]; norm_cast
    have d : decide (((m.length % 64 : Nat) : Int) = 56) = true := by simp; omega
    rw [shs5]
    simp only [spec_Sha_b5, t, d, Bool.not_true, cond_false]
    rfl
  | z + 1, m, hz, hm, hby, hl => by
    have ih := sha_5 hb z (m ++ [0]) (by omega) (by simp; omega) (hby.app (fun v hv => by simp only [List.mem_singleton] at hv; omega)) (by simp; omega)
    have e : m ++ [0] ++ List.replicate z 0 = m ++ List.replicate (z + 1) 0 := by simp [List.replicate_succ]
    rw [e] at ih
    refine Ev.step (fun n => ?_) ih
    have t : Int.tmod (m.length : Int) 64 = ((m.length % 64 : Nat) : Int) := by rw [Int.tmod_eq_emod_of_nonneg (by omega)]; norm_cast
    have d : decide (((m.length % 64 : Nat) : Int) = 56) = false := by simp; omega
    have d3 : decide ((m.length + ([0] : List Int).length) * 1 ≤ 140737488355328) = true := by simp; omega
    rw [shs5]
    simp only [spec_Sha_b5, t, d, d3, Bool.not_false, cond_true]
theorem spec_Sha_eq {b : List Int} (hb : Bytes b) : spec_Sha b = some (shaM b) := by
  rw [spec_Sha_def]
  unfold shaM
  by_cases h : b.length > 4000
  · rw [if_pos h]
    refine lim_of 0 fun n => ?_
    have d : decide ((b.length : Int) > 4000) = true := by simp; omega
    simp only [spec_Sha_be, spec_Sha_r, d, cond_true]
  · rw [if_neg h]
    have := sha_5 (b := b) (by omega) (padZ b.length) (b ++ [128]) (by unfold padZ; omega) (by unfold padZ; simp; omega) (hb.app (fun v hv => by simp only [List.mem_singleton] at hv; omega)) (by unfold padZ; simp; omega)
    refine lim_ev (Ev.congr (fun n => ?_) this)
    have d : decide ((b.length : Int) > 4000) = false := by simp; omega
    have d1 : decide ((([] : List Int).length + b.length) * 1 ≤ 140737488355328) = true := by simp; omega
    have d2 : decide ((b.length + ([128] : List Int).length) * 1 ≤ 140737488355328) = true := by simp; omega
    simp only [spec_Sha_be, d, d1, d2, cond_true, cond_false, List.nil_append]
theorem outB_bytes : ∀ h : List Nat, Bytes (outB h) := by
  intro h v hv
  simp only [outB, List.mem_flatMap, List.mem_cons, List.not_mem_nil, or_false] at hv
  obtain ⟨x, _, rfl | rfl | rfl | rfl⟩ := hv <;> omega
theorem shaM_ok (b : List Int) : Bytes (shaM b) ∧ (shaM b).length ≤ 32 := by
  unfold shaM
  split
  · exact ⟨bytes_nil, by simp⟩
  · refine ⟨outB_bytes _, ?_⟩
    rw [outB_len, (hash_ok _ _ _ first8_ok.1 first8_ok.2).1]
    omega
end Go.TM

/- What is drawn: the reference's draws always say something, and something within bounds. -/
set_option linter.unusedVariables false
set_option linter.unusedSimpArgs false
set_option linter.unusedSectionVars false
set_option maxRecDepth 10000
namespace Go.TM
open Go

abbrev CurT := List Int × Int × Int
def CurOk (c : CurT) : Prop := c.1.length ≤ 1048576 ∧ 0 ≤ c.2.1
section
variable {R : Type}
theorem evb {P : R → Prop} {c : Bool} {A B : Nat → Option R} (h1 : c = true → ∃ y, Ev A y ∧ P y) (h2 : c = false → ∃ y, Ev B y ∧ P y) : ∃ y, Ev (fun n => bif c then A n else B n) y ∧ P y := by
  cases c with
  | true => exact h1 rfl
  | false => exact h2 rfl
theorem exb {P : R → Prop} {c : Bool} {A B : Option R} (h1 : c = true → ∃ y, A = some y ∧ P y) (h2 : c = false → ∃ y, B = some y ∧ P y) : ∃ y, (bif c then A else B) = some y ∧ P y := by
  cases c with
  | true => exact h1 rfl
  | false => exact h2 rfl
theorem evs {P : R → Prop} {L g : Nat → Option R} (h : ∀ n, L (n + 1) = g n) (k : ∃ y, Ev g y ∧ P y) : ∃ y, Ev L y ∧ P y := by
  obtain ⟨y, h1, h2⟩ := k
  exact ⟨y, Ev.step h h1, h2⟩
end
theorem and255_bd (x : Int) : 0 ≤ bitsOf .and .i64 x 255 ∧ bitsOf .and .i64 x 255 ≤ 255 := by
  simp only [bitsOf]
  have hb : (IntKind.i64).bits = 64 := rfl
  rw [hb, BitVec.toNat_and]
  have h1 : (BitVec.ofInt 64 x).toNat &&& (BitVec.ofInt 64 255).toNat ≤ (BitVec.ofInt 64 255).toNat := Nat.and_le_right
  have h2 : (BitVec.ofInt 64 (255 : Int)).toNat = 255 := by decide
  rw [h2] at h1 ⊢
  have h3 : wr .i64 (((BitVec.ofInt 64 x).toNat &&& 255 : Nat) : Int) = (((BitVec.ofInt 64 x).toNat &&& 255 : Nat) : Int) := wr64 (by omega)
  show 0 ≤ wr .i64 (((BitVec.ofInt 64 x).toNat &&& 255 : Nat) : Int) ∧ wr .i64 (((BitVec.ofInt 64 x).toNat &&& 255 : Nat) : Int) ≤ 255
  rw [h3]
  omega
theorem byte_ok {c : CurT} (h : CurOk c) : ∃ v c', spec_l1Byte c = some (v, c') ∧ CurOk c' ∧ 0 ≤ v ∧ v ≤ 255 := by
  obtain ⟨h1, h2⟩ := h
  rw [spec_l1Byte_def]
  simp only [spec_l1Byte_d, spec_l1Byte_be, spec_l1Byte_r]
  by_cases hi : c.2.1 < (c.1.length : Int)
  · obtain ⟨v, hv, _⟩ := idx_get h2 hi
    rw [decide_eq_true hi, cond_true, hv]
    have b := and255_bd (wr .i64 ((bitsOf .and .i64 (bitsOf .xor .i64 (shrOf .i64 (wr .i64 ((wr .i64 (c.2.2 * 6364136223846793005)) + 1442695040888963407)) 33) (shrOf .i64 (wr .i64 ((wr .i64 (c.2.2 * 6364136223846793005)) + 1442695040888963407)) 45)) 255) + (wr .i64 (v))))
    refine ⟨_, _, rfl, ⟨h1, ?_⟩, b.1, b.2⟩
    show 0 ≤ wr .i64 (c.2.1 + 1)
    rw [wr64 (by omega)]; omega
  · have b := and255_bd (bitsOf .xor .i64 (shrOf .i64 (wr .i64 ((wr .i64 (c.2.2 * 6364136223846793005)) + 1442695040888963407)) 33) (shrOf .i64 (wr .i64 ((wr .i64 (c.2.2 * 6364136223846793005)) + 1442695040888963407)) 45))
    rw [decide_eq_false hi, cond_false]
    exact ⟨_, _, rfl, ⟨h1, h2⟩, b.1, b.2⟩
theorem tmod_bd {x n : Int} (hx : 0 ≤ x) (hn : 0 < n) : 0 ≤ Int.tmod x n ∧ Int.tmod x n < n := by
  rw [Int.tmod_eq_emod_of_nonneg hx]
  exact ⟨Int.emod_nonneg _ (by omega), Int.emod_lt_of_pos _ hn⟩
theorem below_ok {c : CurT} (h : CurOk c) (n : Int) : ∃ v c', spec_l1Below c n = some (v, c') ∧ CurOk c' ∧ 0 ≤ v ∧ (0 < n → v < n) ∧ (n ≤ 0 → v = 0) := by
  rw [spec_l1Below_def]
  simp only [spec_l1Below_d, spec_l1Below_be, spec_l1Below_r]
  by_cases h0 : n ≤ 0
  · rw [decide_eq_true h0, cond_true]
    exact ⟨0, c, rfl, h, by omega, fun h => by omega, fun _ => rfl⟩
  · rw [decide_eq_false h0, cond_false]
    have hz : decide (n = 0) = false := by simp; omega
    obtain ⟨v1, c1, e1, k1, a1, b1⟩ := byte_ok h
    by_cases h2 : n ≤ 256
    · rw [decide_eq_true h2, cond_true]
      simp only [e1, some_bind', hz, cond_false]
      have t := tmod_bd a1 (show 0 < n by omega)
      exact ⟨_, _, rfl, k1, t.1, fun _ => t.2, fun h => by omega⟩
    · rw [decide_eq_false h2, cond_false]
      obtain ⟨v2, c2, e2, k2, a2, b2⟩ := byte_ok k1
      obtain ⟨v3, c3, e3, k3, a3, b3⟩ := byte_ok k2
      obtain ⟨v4, c4, e4, k4, a4, b4⟩ := byte_ok k3
      simp only [e1, e2, e3, e4, some_bind', hz, cond_false, wr64 (x := v1 * 16777216) (by omega), wr64 (x := v2 * 65536) (by omega), wr64 (x := v3 * 256) (by omega), wr64 (x := v1 * 16777216 + v2 * 65536) (by omega), wr64 (x := v1 * 16777216 + v2 * 65536 + v3 * 256) (by omega), wr64 (x := v1 * 16777216 + v2 * 65536 + v3 * 256 + v4) (by omega)]
      have t := tmod_bd (x := v1 * 16777216 + v2 * 65536 + v3 * 256 + v4) (n := n) (by omega) (by omega)
      exact ⟨_, _, rfl, k4, t.1, fun _ => t.2, fun h => by omega⟩
theorem once_ok {c : CurT} (h : CurOk c) (n : Int) : ∃ v c', spec_l1Once c n = some (v, c') ∧ CurOk c' := by
  obtain ⟨v, c', e, k, _⟩ := below_ok h n
  rw [spec_l1Once_def]
  simp only [spec_l1Once_d, spec_l1Once_be, spec_l1Once_r, e, some_bind']
  exact ⟨_, _, rfl, k⟩
theorem pick_ok {c : CurT} (h : CurOk c) (l : List Int) (hl : 0 < l.length) : ∃ v c', spec_l1PickInt c l = some (v, c') ∧ CurOk c' ∧ v ∈ l := by
  obtain ⟨v, c', e, k, a, b, _⟩ := below_ok h (l.length : Int)
  obtain ⟨w, h1, h2⟩ := idx_get a (b (by omega))
  rw [spec_l1PickInt_def]
  simp only [spec_l1PickInt_d, spec_l1PickInt_be, spec_l1PickInt_r, e, some_bind', h1]
  exact ⟨_, _, rfl, k, List.mem_of_getElem? h2⟩
theorem new_go {xs : List Int} (hl : xs.length ≤ 1048576) : ∀ (suf : List Int) (i : Nat) (s : Int), xs.drop i = suf → ∃ y, Ev (fun n => spec_l1New_l3 n xs s (i : Int)) y ∧ CurOk y
  | [], i, s, hd => by
    refine evs (g := fun _ => some (xs, 0, s)) (fun n => ?_) ⟨_, Ev.const, hl, Int.le_refl _⟩
    have := drop_nil hd
    have d : decide ((i : Int) < (xs.length : Int)) = false := by simp; omega
    simp only [spec_l1New_l3, spec_l1New_ls, spec_l1New_b3, spec_l1New_r, d, cond_false]
  | v :: suf, i, s, hd => by
    obtain ⟨g1, g2, g3⟩ := drop_cons hd
    have d : decide ((i : Int) < (xs.length : Int)) = true := by simp; omega
    have w : wr .i64 ((i : Int) + 1) = ((i + 1 : Nat) : Int) := by rw [wr64 (by omega)]; omega
    refine evs (g := fun n => bif decide ((i : Int) < 4000) then spec_l1New_l3 n xs (bitsOf .and .i64 (wr .i64 ((wr .i64 ((wr .i64 (s * 131)) + (wr .i64 (v)))) + 7)) 1073741823) ((i + 1 : Nat) : Int) else some (xs, 0, s)) (fun n => ?_) (evb (fun _ => new_go hl suf (i + 1) _ g2) (fun _ => ⟨_, Ev.const, hl, Int.le_refl _⟩))
    simp only [spec_l1New_l3, spec_l1New_ls, spec_l1New_b3, spec_l1New_r, d, cond_true, idx_nat, g1, some_bind', w]
theorem new_ok {xs : List Int} (hl : xs.length ≤ 1048576) : ∃ c, spec_l1New xs = some c ∧ CurOk c := by
  rw [spec_l1New_def]
  obtain ⟨y, h1, h2⟩ := new_go hl xs 0 (wr .i64 (10677 + (xs.length : Int))) rfl
  exact ⟨y, lim_ev (Ev.congr (fun n => by simp only [spec_l1New_be]; rfl) h1), h2⟩
theorem bytes_go (N : Nat) (hN : N ≤ 1000000) : ∀ (j i : Nat) (c : CurT) (acc : List Int), i + j = N → acc.length = i → Bytes acc → CurOk c → ∃ y, Ev (fun n => spec_l1DrawBytes_l4 n c acc (N : Int) (i : Int)) y ∧ Bytes y.1 ∧ y.1.length ≤ N ∧ CurOk y.2
  | 0, i, c, acc, hi, ha, hb, hc => by
    refine evs (g := fun _ => some (acc, c)) (fun n => ?_) ⟨_, Ev.const, hb, by simp only; omega, hc⟩
    have d : decide ((i : Int) < (N : Int)) = false := by simp; omega
    simp only [spec_l1DrawBytes_l4, spec_l1DrawBytes_ls, spec_l1DrawBytes_b4, spec_l1DrawBytes_r, d, cond_false]
  | j + 1, i, c, acc, hi, ha, hb, hc => by
    obtain ⟨v, c', e, k, a, b⟩ := byte_ok hc
    have d : decide ((i : Int) < (N : Int)) = true := by simp; omega
    have w : wr .i64 ((i : Int) + 1) = ((i + 1 : Nat) : Int) := by rw [wr64 (by omega)]; omega
    have d2 : decide ((acc.length + ([wr .u8 v] : List Int).length) * 1 ≤ 140737488355328) = true := by simp; omega
    refine evs (fun n => ?_) (bytes_go N hN j (i + 1) c' (acc ++ [wr .u8 v]) (by omega) (by simp; omega) (hb.app (fun u hu => by simp only [List.mem_singleton] at hu; rw [hu, wr8]; omega)) k)
    simp only [spec_l1DrawBytes_l4, spec_l1DrawBytes_ls, spec_l1DrawBytes_b4, spec_l1DrawBytes_r, d, cond_true, e, some_bind', d2, w]
theorem drawBytes_ok {c : CurT} (h : CurOk c) (n : Nat) (hn : n ≤ 1000000) : ∃ l c', spec_l1DrawBytes c (n : Int) = some (l, c') ∧ CurOk c' ∧ Bytes l ∧ l.length ≤ n := by
  obtain ⟨v, c', e, k, a, b, _⟩ := below_ok h ((n : Int) + 1)
  have b := b (by omega)
  obtain ⟨N, rfl⟩ : ∃ N : Nat, v = N := ⟨v.toNat, by omega⟩
  obtain ⟨y, h1, h2, h3, h4⟩ := bytes_go N (by omega) N 0 c' [] (by omega) rfl bytes_nil k
  rw [spec_l1DrawBytes_def]
  have w : wr .i64 ((n : Int) + 1) = (n : Int) + 1 := wr64 (by omega)
  refine ⟨y.1, y.2, lim_ev (Ev.congr (fun m => ?_) h1), h4, h2, by omega⟩
  simp only [spec_l1DrawBytes_be, w, e, some_bind']
  rfl
theorem drawText_ok {c : CurT} (h : CurOk c) (n : Nat) (hn : n ≤ 1000000) : ∃ s c', spec_l3DrawText c (n : Int) = some (s, c') ∧ CurOk c' ∧ s.size ≤ n := by
  obtain ⟨l, c', e, k, _, hl⟩ := drawBytes_ok h n hn
  rw [spec_l3DrawText_def]
  simp only [spec_l3DrawText_d, spec_l3DrawText_be, spec_l3DrawText_r, e, some_bind']
  exact ⟨_, _, rfl, k, by rw [ofBytes_size]; exact hl⟩
theorem digest_ok {c : CurT} (h : CurOk c) : ∃ s c', spec_l5DrawDigest c = some (s, c') ∧ CurOk c' ∧ s.size ≤ 32 := by
  obtain ⟨v, c', e, k, _⟩ := below_ok h 4
  have hb : Bytes [wr .u8 v] := fun u hu => by simp only [List.mem_singleton] at hu; rw [hu, wr8]; omega
  rw [spec_l5DrawDigest_def]
  simp only [spec_l5DrawDigest_d, spec_l5DrawDigest_be, spec_l5DrawDigest_r, e, some_bind', spec_Sha_eq hb]
  exact ⟨_, _, rfl, k, by rw [ofBytes_size]; exact (shaM_ok _).2⟩
theorem right_ok {c : CurT} (h : CurOk c) : ∃ q : CmdT × CurT, spec_l5DrawRight c = some q ∧ CurOk q.2 ∧ q.1.2.2.2.2.size ≤ 32 := by
  obtain ⟨v, c1, e1, k1, _⟩ := below_ok h 5
  obtain ⟨v2, c2, e2, k2, _⟩ := below_ok k1 4
  obtain ⟨v3, c3, e3, k3, _⟩ := below_ok k2 3
  obtain ⟨v4, c4, e4, k4, _⟩ := below_ok k2 40
  obtain ⟨s4, c5, e5, k5, z5⟩ := digest_ok k4
  obtain ⟨v6, c6, e6, k6, _⟩ := below_ok k1 3
  obtain ⟨v7, c7, e7, k7, _⟩ := below_ok k1 40
  obtain ⟨s8, c8, e8, k8, z8⟩ := digest_ok k7
  have z : (⟨#[]⟩ : ByteArray).size = 0 := rfl
  rw [spec_l5DrawRight_def]
  simp only [spec_l5DrawRight_d, spec_l5DrawRight_be, spec_l5DrawRight_r, e1, e2, e3, e4, e5, e6, e7, e8, some_bind']
  repeat' (refine exb (fun _ => ?_) (fun _ => ?_))
  all_goals first
    | exact ⟨_, rfl, k3, by simp only [z]; omega⟩
    | exact ⟨_, rfl, k5, z5⟩
    | exact ⟨_, rfl, k2, by simp only [z]; omega⟩
    | exact ⟨_, rfl, k6, by simp only [z]; omega⟩
    | exact ⟨_, rfl, k8, z8⟩
    | exact ⟨_, rfl, k1, by simp only [z]; omega⟩
theorem cmd_draw_ok {c : CurT} (h : CurOk c) : ∃ q : CmdT × CurT, spec_l5DrawCmd c = some q ∧ CurOk q.2 := by
  obtain ⟨q, e0, k0, z0⟩ := right_ok h
  obtain ⟨v, c1, e1, k1, _⟩ := below_ok k0 25
  obtain ⟨v2, c2, e2, k2, _⟩ := below_ok k1 7
  obtain ⟨v3, c3, e3, k3, _⟩ := pick_ok k1 [0, 1000, 1001] (by decide)
  obtain ⟨v4, c4, e4, k4, _⟩ := pick_ok k1 [(-1), 4, 5] (by decide)
  obtain ⟨v5, c5, e5, k5, _⟩ := pick_ok k1 [(-1), 1000, 1001] (by decide)
  have d : decide (q.1.2.2.2.2.size + 1 ≤ 9223372036854775807) = true := by simp; omega
  rw [spec_l5DrawCmd_def]
  simp only [spec_l5DrawCmd_d, spec_l5DrawCmd_be, spec_l5DrawCmd_r, e0, e1, e2, e3, e4, e5, some_bind', d, cond_true]
  repeat' (refine exb (fun _ => ?_) (fun _ => ?_))
  all_goals first
    | exact ⟨_, rfl, k2⟩
    | exact ⟨_, rfl, k3⟩
    | exact ⟨_, rfl, k4⟩
    | exact ⟨_, rfl, k5⟩
    | exact ⟨_, rfl, k1⟩
end Go.TM

/- Messages and bytes that are drawn. -/
set_option linter.unusedVariables false
set_option linter.unusedSimpArgs false
set_option linter.unusedSectionVars false
set_option maxRecDepth 10000
namespace Go.TM
open Go

theorem dr4 (n : Nat) : spec_l8DrawRight_l4 (n + 1) = spec_l8DrawRight_b4 (spec_l8DrawRight_l4 n) (spec_l8DrawRight_l29 n) spec_l8DrawRight_r := rfl
theorem dr29 (n : Nat) : spec_l8DrawRight_l29 (n + 1) = spec_l8DrawRight_b29 (spec_l8DrawRight_l4 n) (spec_l8DrawRight_l29 n) spec_l8DrawRight_r := rfl
abbrev ents (m : MsgT) : List EntT := m.2.2.2.2.2.2.2.2.2.2.2
def DrP (y : MsgT × CurT) : Prop := MsgW y.1 ∧ CurOk y.2 ∧ (ents y.1).length ≤ 1000
def DrK (x2 : MsgT) (s : ByteArray) (i : Nat) : Prop := ∀ (c : CurT) (m : MsgT), CurOk c → MsgW m → (ents m).length ≤ 7 * i → ∃ y, Ev (fun n => spec_l8DrawRight_l4 n c x2 m s (i : Int)) y ∧ DrP y
theorem dr_29 {x2 : MsgT} {s : ByteArray} {i : Nat} (hi : i ≤ 100) (K : DrK x2 s (i + 1)) : ∀ (j x6 : Nat) (c : CurT) (m : MsgT), x6 + j = 6 → CurOk c → MsgW m → (ents m).length ≤ 7 * i + x6 → ∃ y, Ev (fun n => spec_l8DrawRight_l29 n c x2 m s (i : Int) (x6 : Int)) y ∧ DrP y := by
  intro j
  induction j with
  | zero =>
    intro x6 c m hx hc hm he
    obtain ⟨v, c1, e1, k1, a1, b1, _⟩ := below_ok hc 7
    have b1 := b1 (by omega)
    have w : wr .i64 ((i : Int) + 1) = ((i + 1 : Nat) : Int) := by rw [wr64 (by omega)]; omega
    have d : decide ((x6 : Int) < v) = false := by simp; omega
    refine evs (fun n => ?_) (K c1 m k1 hm (by omega))
    rw [dr29]
    simp only [spec_l8DrawRight_b29, e1, some_bind', d, cond_false, w]
  | succ j ih =>
    intro x6 c m hx hc hm he
    obtain ⟨v, c1, e1, k1, a1, b1, _⟩ := below_ok hc 7
    have b1 := b1 (by omega)
    obtain ⟨v2, c2, e2, k2, a2, b2, _⟩ := below_ok k1 4
    have b2 := b2 (by omega)
    obtain ⟨q, e3, k3, _⟩ := right_ok k2
    have w : wr .i64 ((i : Int) + 1) = ((i + 1 : Nat) : Int) := by rw [wr64 (by omega)]; omega
    have w2 : wr .i64 ((x6 : Int) + 1) = ((x6 + 1 : Nat) : Int) := by rw [wr64 (by omega)]; omega
    have d2 : ∀ e : EntT, decide ((m.2.2.2.2.2.2.2.2.2.2.2.length + ([e] : List EntT).length) * 56 ≤ 140737488355328) = true := by
      intro e
      have : m.2.2.2.2.2.2.2.2.2.2.2.length ≤ 7 * i + x6 := he
      simp; omega
    obtain ⟨m1, m2, m3, m4, m5, m6, m7, m8⟩ := hm
    have ih' := ih (x6 + 1) q.2 (m.1, m.2.1, m.2.2.1, m.2.2.2.1, m.2.2.2.2.1, m.2.2.2.2.2.1, m.2.2.2.2.2.2.1, m.2.2.2.2.2.2.2.1, m.2.2.2.2.2.2.2.2.1, m.2.2.2.2.2.2.2.2.2.1, m.2.2.2.2.2.2.2.2.2.2.1, m.2.2.2.2.2.2.2.2.2.2.2 ++ [(wr .i64 (1 + v2), q.1)]) (by omega) k3 ⟨m1, m2, m3, m4, m5, m6, m7, m8⟩ (by simp only [ents, List.length_append, List.length_cons, List.length_nil]; have : m.2.2.2.2.2.2.2.2.2.2.2.length ≤ 7 * i + x6 := he; omega)
    refine evs (g := fun n => bif decide ((x6 : Int) < v) then spec_l8DrawRight_l29 n q.2 x2 (m.1, m.2.1, m.2.2.1, m.2.2.2.1, m.2.2.2.2.1, m.2.2.2.2.2.1, m.2.2.2.2.2.2.1, m.2.2.2.2.2.2.2.1, m.2.2.2.2.2.2.2.2.1, m.2.2.2.2.2.2.2.2.2.1, m.2.2.2.2.2.2.2.2.2.2.1, m.2.2.2.2.2.2.2.2.2.2.2 ++ [(wr .i64 (1 + v2), q.1)]) s (i : Int) ((x6 + 1 : Nat) : Int) else spec_l8DrawRight_l4 n c1 x2 m s ((i + 1 : Nat) : Int)) (fun n => ?_) (evb (fun _ => ih') (fun _ => K c1 m k1 ⟨m1, m2, m3, m4, m5, m6, m7, m8⟩ (by omega)))
    rw [dr29]
    simp only [spec_l8DrawRight_b29, e1, e2, e3, some_bind', d2, cond_true, w, w2]
theorem dr_4 (x2 : MsgT) (s : ByteArray) (hs : s.size ≤ 100) : ∀ (cs : List Int) (i : Nat), (toBytes s).drop i = cs → i ≤ s.size → DrK x2 s i
  | [], i, hd, hi => by
    intro c m hc hm he
    have hl := drop_nil hd
    rw [toBytes_length] at hl
    refine evs (g := fun _ => some (m, c)) (fun n => ?_) ⟨_, Ev.const, hm, hc, by simp only; omega⟩
    have d : decide ((i : Int) < (s.size : Int)) = false := by simp; omega
    rw [dr4]
    simp only [spec_l8DrawRight_b4, spec_l8DrawRight_r, d, cond_false]
  | v :: cs, i, hd, hi => by
    obtain ⟨g1, g2, g3⟩ := drop_cons hd
    rw [toBytes_length] at g3
    have K := dr_4 x2 s hs cs (i + 1) g2 (by omega)
    intro c m hc hm he
    have hm' := hm
    obtain ⟨m1, m2, m3, m4, m5, m6, m7, m8⟩ := hm
    obtain ⟨v3, c3, e3, k3, a3, b3, _⟩ := below_ok hc 3
    obtain ⟨v5, c5, e5, k5, a5, b5, _⟩ := below_ok hc 5
    obtain ⟨v4, c4, e4, k4, a4, b4, _⟩ := below_ok hc 4
    obtain ⟨vo, co, eo, ko⟩ := once_ok hc 2
    obtain ⟨vt, ct, et, kt, zt⟩ := drawText_ok hc 15 (by omega)
    rw [show ((15 : Nat) : Int) = 15 from rfl] at et
    obtain ⟨q, er, kr, _⟩ := right_ok hc
    have b3 := b3 (by omega)
    have b5 := b5 (by omega)
    have b4 := b4 (by omega)
    have w : wr .i64 ((i : Int) + 1) = ((i + 1 : Nat) : Int) := by rw [wr64 (by omega)]; omega
    have w4 : wr .i64 (1 + v4) = 1 + v4 := wr64 (by omega)
    have d : decide ((i : Int) < (s.size : Int)) = true := by simp; omega
    have dt : decide (1 + vt.size ≤ 9223372036854775807) = true := by simp; omega
    have he' : (ents m).length ≤ 7 * (i + 1) := by omega
    have hb : byteAt s (i : Int) = some v := by rw [byteAt_idx, idx_nat]; exact g1
    refine evs (g := fun n => bif decide (v = 102) then spec_l8DrawRight_l4 n c3 x2 (m.1, v3, m.2.2) s ((i + 1 : Nat) : Int) else bif decide (v = 116) then spec_l8DrawRight_l4 n c5 x2 (m.1, m.2.1, v5, m.2.2.2) s ((i + 1 : Nat) : Int) else bif decide (v = 97) then spec_l8DrawRight_l4 n c5 x2 (m.1, m.2.1, m.2.2.1, v5, m.2.2.2.2) s ((i + 1 : Nat) : Int)
      else bif decide (v = 115) then spec_l8DrawRight_l4 n c4 x2 (m.1, m.2.1, m.2.2.1, m.2.2.2.1, v4, m.2.2.2.2.2) s ((i + 1 : Nat) : Int) else bif decide (v = 99) then spec_l8DrawRight_l4 n c5 x2 (m.1, m.2.1, m.2.2.1, m.2.2.2.1, m.2.2.2.2.1, v5, m.2.2.2.2.2.2) s ((i + 1 : Nat) : Int)
      else bif decide (v = 121) then spec_l8DrawRight_l4 n co x2 (m.1, m.2.1, m.2.2.1, m.2.2.2.1, m.2.2.2.2.1, m.2.2.2.2.2.1, vo, m.2.2.2.2.2.2.2) s ((i + 1 : Nat) : Int) else bif decide (v = 114) then spec_l8DrawRight_l4 n c4 x2 (m.1, m.2.1, m.2.2.1, m.2.2.2.1, m.2.2.2.2.1, m.2.2.2.2.2.1, m.2.2.2.2.2.2.1, 1 + v4, m.2.2.2.2.2.2.2.2) s ((i + 1 : Nat) : Int)
      else bif decide (v = 112) then spec_l8DrawRight_l4 n c4 x2 (m.1, m.2.1, m.2.2.1, m.2.2.2.1, m.2.2.2.2.1, m.2.2.2.2.2.1, m.2.2.2.2.2.2.1, m.2.2.2.2.2.2.2.1, v4, m.2.2.2.2.2.2.2.2.2) s ((i + 1 : Nat) : Int)
      else bif decide (v = 98) then spec_l8DrawRight_l4 n ct x2 (m.1, m.2.1, m.2.2.1, m.2.2.2.1, m.2.2.2.2.1, m.2.2.2.2.2.1, m.2.2.2.2.2.2.1, m.2.2.2.2.2.2.2.1, m.2.2.2.2.2.2.2.2.1, ((⟨#[120]⟩ : ByteArray) ++ vt, m.2.2.2.2.2.2.2.2.2.2)) s ((i + 1 : Nat) : Int)
      else bif decide (v = 100) then spec_l8DrawRight_l4 n q.2 x2 (m.1, m.2.1, m.2.2.1, m.2.2.2.1, m.2.2.2.2.1, m.2.2.2.2.2.1, m.2.2.2.2.2.2.1, m.2.2.2.2.2.2.2.1, m.2.2.2.2.2.2.2.2.1, m.2.2.2.2.2.2.2.2.2.1, q.1, m.2.2.2.2.2.2.2.2.2.2.2) s ((i + 1 : Nat) : Int)
      else bif decide (v = 101) then spec_l8DrawRight_l29 n c x2 m s (i : Int) 0 else spec_l8DrawRight_l4 n c x2 m s ((i + 1 : Nat) : Int)) (fun n => ?_) ?_
    · rw [dr4]
      simp only [spec_l8DrawRight_b4, d, cond_true, hb, e3, e4, e5, eo, et, er, some_bind', dt, w, w4]
    · refine evb (fun _ => K c3 _ k3 ⟨m1, by simp only; omega, m3, m4, m5, m6, m7, m8⟩ he') (fun _ => ?_)
      refine evb (fun _ => K c5 _ k5 ⟨m1, m2, by simp only; omega, m4, m5, m6, m7, m8⟩ he') (fun _ => ?_)
      refine evb (fun _ => K c5 _ k5 ⟨m1, m2, m3, by simp only; omega, m5, m6, m7, m8⟩ he') (fun _ => ?_)
      refine evb (fun _ => K c4 _ k4 ⟨m1, m2, m3, m4, by simp only; omega, m6, m7, m8⟩ he') (fun _ => ?_)
      refine evb (fun _ => K c5 _ k5 ⟨m1, m2, m3, m4, m5, by simp only; omega, m7, m8⟩ he') (fun _ => ?_)
      refine evb (fun _ => K co _ ko ⟨m1, m2, m3, m4, m5, m6, m7, m8⟩ he') (fun _ => ?_)
      refine evb (fun _ => K c4 _ k4 ⟨m1, m2, m3, m4, m5, m6, by simp only; omega, m8⟩ he') (fun _ => ?_)
      refine evb (fun _ => K c4 _ k4 ⟨m1, m2, m3, m4, m5, m6, m7, by simp only; omega⟩ he') (fun _ => ?_)
      refine evb (fun _ => K ct _ kt ⟨m1, m2, m3, m4, m5, m6, m7, m8⟩ he') (fun _ => ?_)
      refine evb (fun _ => K q.2 _ kr ⟨m1, m2, m3, m4, m5, m6, m7, m8⟩ he') (fun _ => ?_)
      exact evb (fun _ => dr_29 (by omega) K 6 0 c m (by omega) hc hm' (by omega)) (fun _ => K c m hc hm' he')
theorem drawRight_ok {c : CurT} (h : CurOk c) : ∃ q : MsgT × CurT, spec_l8DrawRight c = some q ∧ DrP q := by
  obtain ⟨v, c1, e1, k1, a1, b1, _⟩ := below_ok h 7
  have b1 := b1 (by omega)
  have w : wr .i64 (1 + v) = 1 + v := wr64 (by omega)
  obtain ⟨y, h1, h2⟩ := dr_4 noMsg (kF (1 + v)) (by have := (kF_ok (1 + v)).1; omega) (toBytes (kF (1 + v))) 0 rfl (Nat.zero_le _) c1 (1 + v, 0, 0, 0, 0, 0, false, 0, 0, ⟨#[]⟩, ((0, 0, 0, 0, ⟨#[]⟩), ([] : List (EntT)))) k1 ⟨by simp only; omega, by simp only; omega, by simp only; omega, by simp only; omega, by simp only; omega, by simp only; omega, by simp only; omega, by simp only; omega⟩ (Nat.zero_le _)
  rw [spec_l8DrawRight_def]
  refine ⟨y, lim_ev (Ev.congr (fun n => ?_) h1), h2⟩
  simp only [spec_l8DrawRight_be, e1, some_bind', w, spec_l8Has_eq]
  rfl
theorem drawMsg_ok {c : CurT} (h : CurOk c) : ∃ q : MsgT × CurT, spec_l8DrawMsg c = some q ∧ MsgW q.1 ∧ (ents q.1).length ≤ 1001 := by
  obtain ⟨q, e0, ⟨m1, m2, m3, m4, m5, m6, m7, m8⟩, k0, z0⟩ := drawRight_ok h
  obtain ⟨v, c1, e1, k1, _⟩ := below_ok k0 25
  obtain ⟨v2, c2, e2, k2, p2⟩ := pick_ok k1 [0, 8, 1, 5] (by decide)
  obtain ⟨v3, c3, e3, k3, p3⟩ := pick_ok k1 [(-1), 4, 5] (by decide)
  obtain ⟨v4, c4, e4, k4, p4⟩ := pick_ok k1 [(-1), 80, 81] (by decide)
  obtain ⟨v5, c5, e5, k5, _⟩ := drawText_ok k1 17 (by omega)
  rw [show ((17 : Nat) : Int) = 17 from rfl] at e5
  obtain ⟨v6, c6, e6, k6, _⟩ := below_ok k1 2
  obtain ⟨q7, e7, k7⟩ := cmd_draw_ok k6
  obtain ⟨q8, e8, k8⟩ := cmd_draw_ok k1
  simp only [List.mem_cons, List.not_mem_nil, or_false] at p2 p3 p4
  have z0' : q.1.2.2.2.2.2.2.2.2.2.2.2.length ≤ 1000 := z0
  have d : ∀ e : EntT, decide ((q.1.2.2.2.2.2.2.2.2.2.2.2.length + ([e] : List EntT).length) * 56 ≤ 140737488355328) = true := by intro e; simp; omega
  rw [spec_l8DrawMsg_def]
  simp only [spec_l8DrawMsg_d, spec_l8DrawMsg_be, spec_l8DrawMsg_r, e0, e1, e2, e3, e4, e5, e6, e7, e8, some_bind', d, cond_true]
  refine exb (fun _ => ⟨_, rfl, ⟨by simp only; omega, m2, m3, m4, m5, m6, m7, m8⟩, by simp only [ents]; omega⟩) (fun _ => ?_)
  refine exb (fun _ => ⟨_, rfl, ⟨m1, by simp only; omega, m3, m4, m5, m6, m7, m8⟩, by simp only [ents]; omega⟩) (fun _ => ?_)
  refine exb (fun _ => ⟨_, rfl, ⟨m1, m2, m3, by simp only; omega, m5, m6, m7, m8⟩, by simp only [ents]; omega⟩) (fun _ => ?_)
  refine exb (fun _ => ⟨_, rfl, ⟨m1, m2, m3, m4, m5, m6, m7, m8⟩, by simp only [ents]; omega⟩) (fun _ => ?_)
  refine exb (fun _ => ⟨_, rfl, ⟨m1, m2, m3, m4, m5, m6, m7, m8⟩, by simp only [ents]; omega⟩) (fun _ => ?_)
  refine exb (fun _ => ⟨_, rfl, ⟨m1, m2, m3, m4, m5, m6, m7, m8⟩, by simp only [ents, List.length_append, List.length_cons, List.length_nil]; omega⟩) (fun _ => ?_)
  refine exb (fun _ => ⟨_, rfl, ⟨m1, m2, m3, m4, m5, m6, m7, m8⟩, by simp only [ents]; omega⟩) (fun _ => ?_)
  exact ⟨_, rfl, ⟨m1, m2, m3, m4, m5, m6, m7, m8⟩, by simp only [ents]; omega⟩
theorem drawMsgPack_ok {xs : List Int} (h : xs.length ≤ 1048576) : ∃ m, spec_DrawMsgPack xs = some m ∧ MsgW m ∧ (ents m).length ≤ 1001 := by
  obtain ⟨c, e, k⟩ := new_ok h
  obtain ⟨q, e2, h1, h2⟩ := drawMsg_ok k
  rw [spec_DrawMsgPack_def]
  simp only [spec_DrawMsgPack_d, spec_DrawMsgPack_be, spec_DrawMsgPack_r, e, e2, some_bind']
  exact ⟨_, rfl, h1, h2⟩

/-! ### Bytes that are drawn -/
theorem sealI_ok {a : List Int} (h : Bytes a) : Bytes (sealI a).1 ∧ (sealI a).1.length ≤ 3100 := by
  unfold sealI
  split
  · exact ⟨bytes_nil, by simp⟩
  · refine ⟨((pn_bytes _).app h).app (sumB_bytes _), ?_⟩
    have := pn_len (a.length : Int)
    simp only [List.length_append, sumB_len]; omega
def By (y : List Int) : Prop := Bytes y ∧ y.length ≤ 100000
theorem cut_ok {x : List Int} {c : CurT} (hx : By x) (hc : CurOk c) : ∃ y, ((spec_l1Once c 4).bind fun t44 => bif t44.1 then ((spec_l1Below t44.2 (wr .i64 ((x.length : Int) + 1))).bind fun t45 => bif decide (0 ≤ 0) && decide (0 ≤ t45.1) && decide (t45.1 ≤ (x.length : Int)) then ((spec_Seal ((x.drop 0).take ((t45.1 - 0 : Int).toNat))).bind fun t46 => some (t46.1)) else (none)) else ((spec_Seal x).bind fun t47 => some (t47.1))) = some y ∧ By y := by
  obtain ⟨hb, hl⟩ := hx
  obtain ⟨v, c1, e1, k1⟩ := once_ok hc 4
  obtain ⟨v2, c2, e2, k2, a2, b2, _⟩ := below_ok k1 ((x.length : Int) + 1)
  have b2 := b2 (by omega)
  have w : wr .i64 ((x.length : Int) + 1) = (x.length : Int) + 1 := wr64 (by omega)
  have d1 : decide (0 ≤ v2) = true := decide_eq_true a2
  have d2 : decide (v2 ≤ (x.length : Int)) = true := decide_eq_true (by omega)
  have hb2 : Bytes ((x.drop 0).take ((v2 - 0 : Int).toNat)) := bytes_take (bytes_drop hb 0) _
  simp only [e1, some_bind', w, e2, d1, d2, Nat.le_refl, decide_true, Bool.and_self, cond_true, spec_Seal_eq _ hb2, spec_Seal_eq _ hb]
  refine exb (fun _ => ⟨_, rfl, ?_⟩) (fun _ => ⟨_, rfl, ?_⟩)
  · obtain ⟨h1, h2⟩ := sealI_ok hb2; exact ⟨h1, by omega⟩
  · obtain ⟨h1, h2⟩ := sealI_ok hb; exact ⟨h1, by omega⟩
theorem By.set {x : List Int} (h : By x) (i : Nat) (v : Int) : By (x.set i (wr .u8 v)) := by
  refine ⟨fun u hu => ?_, by rw [List.length_set]; exact h.2⟩
  rcases List.mem_or_eq_of_mem_set hu with hu | rfl
  · exact h.1 u hu
  · rw [wr8]; omega
noncomputable def drawFix (u : List Int) (c : CurT) : Option (List Int) := ((spec_l1Below c (u.length : Int)).bind fun t40 => (spec_l1PickInt t40.2 ([0, 1, 2, 7, 8, 127, 128, 255] : List Int)).bind fun t41 => bif decide (0 ≤ t40.1) && decide (t40.1 < (u.length : Int)) then ((idx u t40.1).bind fun v42 => (spec_l1Once t41.2 4).bind fun t43 => bif t43.1 then (bif decide (((u.set (t40.1 : Int).toNat (wr .u8 (t41.1))).length + ([0] : List Int).length) * 1 ≤ 140737488355328) then ((spec_l1Once t43.2 4).bind fun t44 => bif t44.1 then ((spec_l1Below t44.2 (wr .i64 ((((u.set (t40.1 : Int).toNat (wr .u8 (t41.1))) ++ ([0] : List Int)).length : Int) + 1))).bind fun t45 => bif decide (0 ≤ 0) && decide (0 ≤ t45.1) && decide (t45.1 ≤ (((u.set (t40.1 : Int).toNat (wr .u8 (t41.1))) ++ ([0] : List Int)).length : Int)) then ((spec_Seal ((((u.set (t40.1 : Int).toNat (wr .u8 (t41.1))) ++ ([0] : List Int)).drop 0).take ((t45.1 - 0 : Int).toNat))).bind fun t46 => some (t46.1)) else (none)) else ((spec_Seal ((u.set (t40.1 : Int).toNat (wr .u8 (t41.1))) ++ ([0] : List Int))).bind fun t47 => some (t47.1))) else (none)) else ((spec_l1Once t43.2 4).bind fun t48 => bif t48.1 then ((spec_l1Below t48.2 (wr .i64 (((u.set (t40.1 : Int).toNat (wr .u8 (t41.1))).length : Int) + 1))).bind fun t49 => bif decide (0 ≤ 0) && decide (0 ≤ t49.1) && decide (t49.1 ≤ ((u.set (t40.1 : Int).toNat (wr .u8 (t41.1))).length : Int)) then ((spec_Seal (((u.set (t40.1 : Int).toNat (wr .u8 (t41.1))).drop 0).take ((t49.1 - 0 : Int).toNat))).bind fun t50 => some (t50.1)) else (none)) else ((spec_Seal (u.set (t40.1 : Int).toNat (wr .u8 (t41.1)))).bind fun t51 => some (t51.1)))) else (none))
noncomputable def drawTail (l : List Int) (c : CurT) : Option (List Int) := ((spec_l1Below c 6).bind fun t35 => bif decide (t35.1 = 0) then ((spec_l1Below t35.2 (l.length : Int)).bind fun t36 => (spec_l1Byte t36.2).bind fun t37 => bif decide (0 ≤ t36.1) && decide (t36.1 < (l.length : Int)) then ((idx l t36.1).bind fun v38 => some (l.set (t36.1 : Int).toNat (wr .u8 (t37.1)))) else (none)) else (bif decide (t35.1 = 1) then (bif decide (t35.1 = 1) then ((spec_Unseal l 0).bind fun t39 => bif decide (t39.2.2 = 0) then (bif decide ((t39.1.length : Int) > 0) then (drawFix t39.1 t35.2) else (some (l))) else (some (l))) else (bif decide (t35.1 = 3) then (bif decide ((l.length + ([0] : List Int).length) * 1 ≤ 140737488355328) then (some (l ++ ([0] : List Int))) else (none)) else (some (l)))) else (bif decide (t35.1 = 2) then ((spec_Unseal l 0).bind fun t52 => bif decide (t52.2.2 = 0) then (bif decide ((t52.1.length : Int) > 0) then (drawFix t52.1 t35.2) else (some (l))) else (some (l))) else (bif decide (t35.1 = 3) then (bif decide ((l.length + ([0] : List Int).length) * 1 ≤ 140737488355328) then (some (l ++ ([0] : List Int))) else (none)) else (some (l))))))
theorem drawFix_ok {u : List Int} {c : CurT} (hu : Bytes u) (hl : u.length ≤ 90000) (hpos : 0 < u.length) (hc : CurOk c) : ∃ y, drawFix u c = some y ∧ By y := by
  obtain ⟨v, c1, e1, k1, a1, b1, _⟩ := below_ok hc (u.length : Int)
  have b1 := b1 (by omega)
  obtain ⟨v2, c2, e2, k2, _⟩ := pick_ok k1 [0, 1, 2, 7, 8, 127, 128, 255] (by decide)
  obtain ⟨v3, c3, e3, k3⟩ := once_ok k2 4
  obtain ⟨w, hi, _⟩ := idx_get a1 b1
  have d1 : decide (0 ≤ v) = true := decide_eq_true a1
  have d2 : decide (v < (u.length : Int)) = true := decide_eq_true b1
  have hs : By (u.set v.toNat (wr .u8 v2)) := By.set ⟨hu, by omega⟩ _ _
  have hs2 : By (u.set v.toNat (wr .u8 v2) ++ [0]) := ⟨hs.1.app (fun q hq => by simp only [List.mem_singleton] at hq; omega), by rw [List.length_append, List.length_set]; simp; omega⟩
  have d3 : decide (((u.set v.toNat (wr .u8 v2)).length + ([0] : List Int).length) * 1 ≤ 140737488355328) = true := by rw [List.length_set]; simp; omega
  unfold drawFix
  simp only [e1, e2, some_bind', d1, d2, Bool.and_self, cond_true, hi, e3, d3]
  exact exb (fun _ => cut_ok hs2 k3) (fun _ => cut_ok hs k3)
theorem drawTail_ok {l : List Int} {c : CurT} (hb : Bytes l) (hl : l.length ≤ 90000) (hpos : 0 < l.length) (hc : CurOk c) : ∃ y, drawTail l c = some y ∧ By y := by
  obtain ⟨v, c1, e1, k1, _⟩ := below_ok hc 6
  obtain ⟨v2, c2, e2, k2, a2, b2, _⟩ := below_ok k1 (l.length : Int)
  have b2 := b2 (by omega)
  obtain ⟨v3, c3, e3, k3, _⟩ := byte_ok k2
  obtain ⟨w, hi, _⟩ := idx_get a2 b2
  have d1 : decide (0 ≤ v2) = true := decide_eq_true a2
  have d2 : decide (v2 < (l.length : Int)) = true := decide_eq_true b2
  have d3 : decide ((l.length + ([0] : List Int).length) * 1 ≤ 140737488355328) = true := by simp; omega
  obtain ⟨u1, u2⟩ := unO_bytes hb
  have hl' : By l := ⟨hb, by omega⟩
  have fix : (decide (((unO l).1.length : Int) > 0)) = true → ∃ y, drawFix (unO l).1 c1 = some y ∧ By y := fun h => by
    have := of_decide_eq_true h
    exact drawFix_ok u1 (by omega) (by omega) k1
  have app : By (l ++ [0]) := ⟨hb.app (fun q hq => by simp only [List.mem_singleton] at hq; omega), by simp; omega⟩
  unfold drawTail
  simp only [e1, e2, e3, some_bind', d1, d2, d3, Bool.and_self, cond_true, hi, spec_Unseal_eq hb (show l.length ≤ 1000000000 by omega)]
  refine exb (fun _ => ⟨_, rfl, By.set hl' _ _⟩) (fun _ => ?_)
  refine exb (fun _ => ?_) (fun _ => ?_)
  · refine exb (fun _ => ?_) (fun _ => ?_)
    · refine exb (fun _ => ?_) (fun _ => ⟨_, rfl, hl'⟩)
      exact exb fix (fun _ => ⟨_, rfl, hl'⟩)
    · exact exb (fun _ => ⟨_, rfl, app⟩) (fun _ => ⟨_, rfl, hl'⟩)
  · refine exb (fun _ => ?_) (fun _ => ?_)
    · refine exb (fun _ => ?_) (fun _ => ⟨_, rfl, hl'⟩)
      exact exb fix (fun _ => ⟨_, rfl, hl'⟩)
    · exact exb (fun _ => ⟨_, rfl, app⟩) (fun _ => ⟨_, rfl, hl'⟩)
theorem sealI_pos {a : List Int} (h : a.length ≤ 3000) : 0 < (sealI a).1.length := by
  rw [sealI_eq h]
  simp only [List.length_append, sumB_len]; omega
theorem drawMsgRead_ok {xs : List Int} (h : xs.length ≤ 1048576) : ∃ y, spec_DrawMsgRead xs = some y ∧ By y := by
  obtain ⟨c, e, k⟩ := new_ok h
  obtain ⟨q, e0, hw, k0, z0⟩ := drawRight_ok k
  have b1 : Bytes [1] := fun v hv => by simp only [List.mem_singleton] at hv; omega
  have z0' : q.1.2.2.2.2.2.2.2.2.2.2.2.length ≤ 1000 := z0
  rw [spec_DrawMsgRead_def]
  simp only [spec_DrawMsgRead_d, spec_DrawMsgRead_be, e, e0, some_bind', spec_MsgPack_eq q.1 (by omega) hw, spec_Seal_eq _ b1]
  refine exb (fun _ => ?_) (fun hk => ?_)
  · obtain ⟨h1, h2⟩ := sealI_ok b1
    exact drawTail_ok h1 (by omega) (sealI_pos (by decide)) k0
  · cases hf : msgFits q.1 with
    | false => rw [hf] at hk; simp at hk
    | true =>
      obtain ⟨h1, h2⟩ := sealI_ok (packM_bytes q.1)
      simp only [cond_true]
      exact drawTail_ok h1 (by omega) (sealI_pos (packM_len hf)) k0
end Go.TM

/- Messages: a drawn one is read from its bytes as it was; bytes that are read pack to just themselves; a turned byte is refused. -/
set_option linter.unusedVariables false
set_option linter.unusedSimpArgs false
set_option linter.unusedSectionVars false
set_option maxRecDepth 10000
namespace Go.TM
open Go

theorem impl_Entry_refl (a : List EntT) (h : lok a = true) : impl_Entry a a = some true := by
  rw [impl_Entry_def]
  have hb := (lok_iff a).1 h
  refine lim_of (a.length + 1) fun m => ?_
  have key := eqL a a rfl hb (fun n i => impl_Entry_l4 n a a (a.length : Int) i) (fun n => by simp only [impl_Entry_l4, impl_Entry_ls, impl_Entry_b4, impl_Entry_r, Int.lt_irrefl, decide_false, cond_false])
    (fun n i v u h1 h2 h3 h4 => by
      have hu : v = u := by rw [h2] at h3; injection h3
      subst hu
      simp only [impl_Entry_l4, impl_Entry_ls, impl_Entry_b4, impl_Entry_r, h1, h2, h4, decide_true, cond_true, some_bind', strEq_refl, Bool.and_self, Bool.not_true, cond_false]) m
  have : decide ((a.length : Int) = (a.length : Int)) = true := by simp
  simp only [impl_Entry_be, this, Bool.not_true, cond_false]
  rw [key]
  simp
theorem impl_MsgSame_refl (m : MsgT) (h : lok m.2.2.2.2.2.2.2.2.2.2.2 = true) : impl_MsgSame m m = some true := by
  rw [impl_MsgSame_def]
  simp only [impl_MsgSame_d, impl_MsgSame_be, impl_MsgSame_r, decide_true, cond_true, beq_self_eq_true, strEq_refl, Bool.and_self, impl_Entry_refl _ h, some_bind']

/-! ### A turned byte -/
theorem xor8 {x y : Int} (hx : 0 ≤ x ∧ x ≤ 255) (hy : 1 ≤ y ∧ y ≤ 255) : (0 ≤ bitsOf .xor .u8 x y ∧ bitsOf .xor .u8 x y ≤ 255) ∧ bitsOf .xor .u8 x y ≠ x := by
  obtain ⟨x, rfl⟩ : ∃ n : Nat, x = n := ⟨x.toNat, by omega⟩
  obtain ⟨y, rfl⟩ : ∃ n : Nat, y = n := ⟨y.toNat, by omega⟩
  have ofn : ∀ z : Nat, z < 256 → (BitVec.ofInt 8 (z : Int)).toNat = z := fun z hz => by
    rw [BitVec.toNat_ofInt]
    have : ((2 ^ 8 : Nat) : Int) = 256 := by decide
    rw [this]
    omega
  have hlt : x ^^^ y < 2 ^ 8 := Nat.xor_lt_two_pow (by omega) (by omega)
  have e : bitsOf .xor .u8 (x : Int) (y : Int) = ((x ^^^ y : Nat) : Int) := by
    simp only [bitsOf]
    have hb : (IntKind.u8).bits = 8 := rfl
    rw [hb, BitVec.toNat_xor, ofn x (by omega), ofn y (by omega)]
    show wr .u8 _ = _
    rw [wr8]
    omega
  rw [e]
  refine ⟨by omega, fun h => ?_⟩
  have h1 : x ^^^ y = x := by omega
  have h2 : x ^^^ (x ^^^ y) = x ^^^ x := by rw [h1]
  rw [← Nat.xor_assoc, Nat.xor_self, Nat.zero_xor] at h2
  omega
theorem sumP_1 : ∀ (xs : List Int) (s : Int × Int), 0 ≤ s.1 ∧ s.1 ≤ 65520 → (xs.foldl (fun s v => sumG v s) s).1 = (s.1 + xs.sum) % 65521
  | [], s, h => by simp; omega
  | v :: xs, s, h => by
    rw [List.foldl_cons, sumP_1 xs _ (by simp only [sumG]; omega), List.sum_cons]
    simp only [sumG]
    omega
theorem split_at {a : List Int} {j : Nat} (h : j < a.length) : ∃ pre x post, a = pre ++ x :: post ∧ pre.length = j ∧ a[j]? = some x := by
  refine ⟨a.take j, a[j], a.drop (j + 1), ?_, ?_, List.getElem?_eq_getElem h⟩
  · rw [← List.drop_eq_getElem_cons h, List.take_append_drop]
  · rw [List.length_take]; omega
theorem set_at (pre : List Int) (x v : Int) (post : List Int) : (pre ++ x :: post).set pre.length v = pre ++ v :: post := by
  rw [List.set_append_right _ _ (Nat.le_refl _)]; simp
theorem sumB_inj {a b : List Int} (h : sumB a = sumB b) : (sumP a).1 = (sumP b).1 := by
  have h1 := sumP_bd a (1, 0) (by decide)
  have h2 := sumP_bd b (1, 0) (by decide)
  have h3 := sumI_bd a
  have h4 := sumI_bd b
  simp only [sumB, List.cons.injEq, and_true] at h
  obtain ⟨e1, e2, e3, e4⟩ := h
  have e : sumI a = sumI b := by omega
  simp only [sumI] at e
  change 0 ≤ (sumP a).1 ∧ (sumP a).1 ≤ 65520 ∧ 0 ≤ (sumP a).2 ∧ (sumP a).2 ≤ 65520 at h1
  change 0 ≤ (sumP b).1 ∧ (sumP b).1 ≤ 65520 ∧ 0 ≤ (sumP b).2 ∧ (sumP b).2 ≤ 65520 at h2
  omega
theorem sumB_set {a : List Int} (ha : Bytes a) {j : Nat} {x v : Int} (hx : a[j]? = some x) (hv : 0 ≤ v ∧ v ≤ 255) (hne : v ≠ x) : sumB a ≠ sumB (a.set j v) := by
  intro h
  have hj : j < a.length := (List.getElem?_eq_some_iff.1 hx).1
  obtain ⟨pre, x', post, e1, e2, e3⟩ := split_at hj
  have hxx : x' = x := by rw [hx] at e3; injection e3 with e3; exact e3.symm
  subst hxx
  have hxb := ha x' (List.mem_of_getElem? hx)
  have h1 := sumB_inj h
  unfold sumP at h1
  rw [sumP_1 _ _ (by decide), sumP_1 _ _ (by decide)] at h1
  subst e2
  rw [e1, set_at] at h1
  simp only [List.sum_append, List.sum_cons] at h1
  omega
theorem turned {a : List Int} (ha : Bytes a) (hl : a.length ≤ 3000) {p : Nat} {x v : Int} (hp : (pn (a.length : Int)).length ≤ p) (hx : (sealI a).1[p]? = some x) (hv : 0 ≤ v ∧ v ≤ 255) (hne : v ≠ x) : readM ((sealI a).1.set p v) = (noMsg, 1) := by
  have hb := (sealI_ok ha).1
  rw [sealI_eq hl] at hx hb ⊢
  simp only at hx hb ⊢
  rw [List.append_assoc] at hx hb ⊢
  rw [List.getElem?_append_right hp] at hx
  rw [List.set_append_right _ _ hp]
  obtain ⟨j, hj⟩ : ∃ j, j = p - (pn (a.length : Int)).length := ⟨_, rfl⟩
  rw [← hj] at hx ⊢
  have key : ∀ (u w : List Int), u.length = a.length → w.length = 4 → w ≠ sumB u → readM (pn (a.length : Int) ++ (u ++ w)) = (noMsg, 1) := by
    intro u w hu hw hwu
    have hd : (pn (a.length : Int) ++ (u ++ w)).drop 0 = pn ((a.length : Nat) : Int) ++ (u ++ w) := rfl
    have g := gn_fwd (by omega) hd
    have t1 := drop_app hd
    have t2 := drop_app t1
    have e1 : sl (pn (a.length : Int) ++ (u ++ w)) (0 + (pn (a.length : Int)).length) (0 + (pn (a.length : Int)).length + a.length) = u := by rw [sl_drop, t1, ← hu, List.take_left]
    have e2 : sl (pn (a.length : Int) ++ (u ++ w)) (0 + (pn (a.length : Int)).length + a.length) (0 + (pn (a.length : Int)).length + a.length + 4) = w := by rw [hu] at t2; rw [sl_drop, t2, ← hw, List.take_length]
    have hlen : (pn (a.length : Int) ++ (u ++ w)).length = (pn (a.length : Int)).length + a.length + 4 := by simp only [List.length_append, hu, hw]; omega
    have hun : unO (pn (a.length : Int) ++ (u ++ w)) = ([], 0, 3) := by
      unfold unO
      rw [g]
      simp only
      rw [if_neg (by omega), if_neg (by omega), e1, e2, if_neg hwu]
    unfold readM
    rw [hun]
    rfl
  by_cases hja : j < a.length
  · rw [List.set_append_left _ _ hja]
    rw [List.getElem?_append_left hja] at hx
    exact key _ _ (List.length_set ..) (sumB_len a) (sumB_set ha hx hv hne)
  · rw [List.set_append_right _ _ (by omega)]
    rw [List.getElem?_append_right (by omega)] at hx
    refine key _ _ rfl (by rw [List.length_set]; rfl) (fun h => ?_)
    have h1 : (sumB a)[j - a.length]? = some v := by
      have hlt : j - a.length < (sumB a).length := (List.getElem?_eq_some_iff.1 hx).1
      rw [← h, List.getElem?_set_self hlt]
    rw [hx] at h1
    injection h1 with h1
    exact hne h1.symm

/-! ### The law -/
theorem laws_at_ok {xs : List Int} (hb : Bytes xs) (hl : xs.length ≤ 1048576) (i : Nat) (hi : i ≤ 100) : ∃ v, laws_at xs (i : Int) = some v ∧ 0 ≤ v ∧ v ≤ 255 := by
  rw [laws_at_def]
  simp only [laws_at_d, laws_at_be, laws_at_r]
  by_cases h : i < xs.length
  · have d : decide ((i : Int) < (xs.length : Int)) = true := by simp; omega
    obtain ⟨v, h1, h2⟩ := idx_get (xs := xs) (i := (i : Int)) (by omega) (by omega)
    have := hb v (List.mem_of_getElem? h2)
    rw [d, cond_true, h1]
    exact ⟨_, rfl, by rw [wr64 (by omega)]; omega⟩
  · have d : decide ((i : Int) < (xs.length : Int)) = false := by simp; omega
    rw [d, cond_false, wr64 (x := (i : Int) * 7) (by omega), wr64 (x := (i : Int) * 7 + (xs.length : Int)) (by omega)]
    have := tmod_bd (x := (i : Int) * 7 + (xs.length : Int)) (n := 256) (by omega) (by omega)
    exact ⟨_, rfl, by omega⟩
theorem fits_w {m : MsgT} (h : msgFits m = true) : MsgW m := by
  obtain ⟨⟨a1, a2, a3, a4, a5, a6, a7, _, _, _⟩, hk, _, _⟩ := fits_n h
  unfold N63 at a1 a2 a3 a4 a5 a6 a7
  exact ⟨by omega, by omega, by omega, by omega, by omega, by omega, by omega, by omega⟩
theorem lok_few {m : MsgT} (h : (ents m).length ≤ 1001) : lok m.2.2.2.2.2.2.2.2.2.2.2 = true := (lok_iff _).2 (by have : m.2.2.2.2.2.2.2.2.2.2.2.length ≤ 1001 := h; omega)
/-- The end of the law: bytes that are drawn. -/
theorem tail_ok {y : List Int} (hy : By y) : (bif !(decide ((readM y).2 = 0)) then ((impl_MsgSame (readM y).1 (0, 0, 0, 0, 0, 0, false, 0, 0, ⟨#[]⟩, ((0, 0, 0, 0, ⟨#[]⟩), ([] : List (EntT))))).bind fun t21 => some t21) else ((impl_MsgPack (readM y).1).bind fun t22 => bif t22.2 then (some (strEq (ofBytes t22.1) (ofBytes y))) else (some false))) = some true := by
  obtain ⟨h1, h2⟩ := readM_bwd hy.1
  by_cases c : (readM y).2 = 0
  · obtain ⟨f1, f2⟩ := h1 c
    have hfew := readM_few y
    unfold few at hfew
    simp only [decide_true, Bool.not_true, cond_false, decide_eq_true c, impl_MsgPack_eq _ ((lok_iff _).2 (by omega)) (fits_w f1), some_bind', f1, f2, cond_true, strEq_refl]
  · rw [h2 c]
    simp only [decide_true, Bool.not_true, cond_false, decide_eq_false c, Bool.not_false, cond_true]
    rw [impl_MsgSame_refl noMsg rfl]
    rfl
theorem pure_FnMsg (x0 : (K.list (.int .u8)).T) (h : WfK (.list (.int .u8)) x0) : laws_FnMsg x0 = some true := by
  obtain ⟨h1, h2⟩ := h
  have hb : Bytes x0 := fun v hv => wf8 (h2 v hv)
  have hbig : laws_big x0 = some (decide ((x0.length : Int) > 1048576)) := by
    rw [laws_big_def]; rfl
  rw [laws_FnMsg_def]
  simp only [laws_FnMsg_d, laws_FnMsg_be, laws_FnMsg_r, hbig, some_bind']
  by_cases hl : x0.length > 1048576
  · have : decide ((x0.length : Int) > 1048576) = true := by simp; omega
    rw [this]; rfl
  · have h3 : decide ((x0.length : Int) > 1048576) = false := by simp; omega
    have hl' : x0.length ≤ 1048576 := by omega
    obtain ⟨m, e1, hw, hf⟩ := drawMsgPack_ok hl'
    have hk := lok_few hf
    obtain ⟨y, e2, hy⟩ := drawMsgRead_ok hl'
    have hyl : y.length ≤ 1000000000 := by have := hy.2; omega
    have tl := tail_ok hy
    obtain ⟨t8, e3, a3, b3⟩ := laws_at_ok hb hl' 1 (by omega)
    obtain ⟨t10, e4, a4, b4⟩ := laws_at_ok hb hl' 2 (by omega)
    rw [show ((1 : Nat) : Int) = 1 from rfl] at e3
    rw [show ((2 : Nat) : Int) = 2 from rfl] at e4
    rw [h3]
    simp only [cond_false, e1, e2, some_bind', impl_MsgPack_eq m hk hw, spec_MsgFits_eq m hk, impl_MsgRead_eq hy.1 hyl, spec_MsgRead_eq hy.1 hyl]
    cases hft : msgFits m with
    | false =>
      simp only [cond_false, beq_self_eq_true, Bool.not_true, decide_true]
      exact tl
    | true =>
      have hpl := packM_len hft
      have hpb := packM_bytes m
      obtain ⟨sb, sl'⟩ := sealI_ok hpb
      have hn := pn_len ((packM m).length : Int)
      have hlen : (sealI (packM m)).1.length = (pn ((packM m).length : Int)).length + (packM m).length + 4 := by
        rw [sealI_eq hpl]; simp only [List.length_append, sumB_len]
      have h22 : (sealI (packM m)).2 = true := by rw [sealI_eq hpl]
      have hd : (sealI (packM m)).1.drop 0 = pn (((packM m).length : Nat) : Int) ++ ((packM m) ++ sumB (packM m)) := by rw [sealI_eq hpl, List.drop_zero, List.append_assoc]
      have g := gn_fwd (by omega) hd
      have gs := spec_GetNum_eq sb (by omega) 0 (by omega)
      rw [show ((0 : Nat) : Int) = 0 from rfl] at gs
      simp only [gnO, g] at gs
      generalize hN : (pn ((packM m).length : Int)).length = N at *
      generalize hB : (sealI (packM m)).1 = B at *
      have w1 : wr .i64 ((B.length : Int) - ((0 + N : Nat) : Int)) = (((packM m).length + 4 : Nat) : Int) := by rw [wr64 (by omega)]; omega
      have w2 : wr .i64 (t8 * 29) = t8 * 29 := wr64 (by omega)
      have tm := tmod_bd (x := t8 * 29) (n := (((packM m).length + 4 : Nat) : Int)) (by omega) (by omega)
      obtain ⟨p, hp⟩ : ∃ p : Nat, Int.tmod (t8 * 29) (((packM m).length + 4 : Nat) : Int) = p := ⟨(Int.tmod (t8 * 29) (((packM m).length + 4 : Nat) : Int)).toNat, by omega⟩
      rw [hp] at tm
      have w3 : wr .i64 (((0 + N : Nat) : Int) + (p : Int)) = ((N + p : Nat) : Int) := by rw [wr64 (by omega)]; omega
      have tm2 := tmod_bd (x := t10) (n := 255) (by omega) (by omega)
      have w4 : wr .i64 (1 + Int.tmod t10 255) = 1 + Int.tmod t10 255 := wr64 (by omega)
      have w5 : wr .u8 (1 + Int.tmod t10 255) = 1 + Int.tmod t10 255 := by rw [wr8]; omega
      have d1 : decide (((0 + N : Nat) : Int) ≥ (B.length : Int)) = false := by simp; omega
      have d2 : decide ((((packM m).length + 4 : Nat) : Int) = 0) = false := by simp; omega
      have d3 : decide (0 ≤ ((N + p : Nat) : Int)) = true := by simp; omega
      have d4 : decide (((N + p : Nat) : Int) < (B.length : Int)) = true := by simp; omega
      obtain ⟨x, hx1, hx2⟩ := idx_get (xs := B) (i := ((N + p : Nat) : Int)) (by omega) (by omega)
      rw [Int.toNat_natCast] at hx2
      have xb := sb x (List.mem_of_getElem? hx2)
      obtain ⟨q1, q2⟩ := xor8 (x := x) (y := 1 + Int.tmod t10 255) (by omega) (by omega)
      have ht := turned hpb hpl (p := N + p) (x := x) (by omega) (by rw [hB]; exact hx2) q1 q2
      rw [hB] at ht
      have hbs : Bytes (B.set (N + p) (bitsOf .xor .u8 x (1 + Int.tmod t10 255))) := fun u hu => by
        rcases List.mem_or_eq_of_mem_set hu with hu | rfl
        · exact sb u hu
        · exact q1
      have hrd := readM_fwd hft
      rw [hB] at hrd
      simp only [cond_true, h22, beq_self_eq_true, Bool.not_true, cond_false, hB, impl_MsgRead_eq sb (show B.length ≤ 1000000000 by omega), some_bind', gs, hrd, decide_true, impl_MsgSame_refl m hk, d1, e3, w1, d2, w2, hp, w3, d3, d4, Bool.and_self, hx1, e4, w4, w5, Int.toNat_natCast, impl_MsgRead_eq hbs (show (B.set (N + p) (bitsOf .xor .u8 x (1 + Int.tmod t10 255))).length ≤ 1000000000 by rw [List.length_set]; omega), ht]
      exact tl
end Go.TM
