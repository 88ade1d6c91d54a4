/- Part 2 of the proof that the law FnExactOnYes holds of the program: words, the data machine and its soundness, the program's functions as pure functions, and the plain law; no condition is added. -/
import Derived.Test.YtoapgkmgehbnpaaGreatCFnExactOnYesa
import Derived.Orders
/- Copying a list over a part of a list. -/
set_option linter.unusedVariables false
set_option linter.unusedSimpArgs false
namespace Go.TM
open Go
theorem seg3 {α : Type} (l m : List α) (a : Nat) (h : a + m.length ≤ l.length) (q : Nat) : (l.take a ++ m ++ l.drop (a + m.length))[q]? = if q < a then l[q]? else if q < a + m.length then m[q - a]? else l[q]? := by
  have ht : (l.take a).length = a := by rw [List.length_take]; omega
  by_cases h1 : q < a
  · rw [if_pos h1, List.append_assoc, List.getElem?_append_left (by omega), List.getElem?_take, if_pos h1]
  · rw [if_neg h1]
    by_cases h2 : q < a + m.length
    · rw [if_pos h2, List.getElem?_append_left (by rw [List.length_append]; omega), List.getElem?_append_right (by omega), ht]
    · rw [if_neg h2, List.getElem?_append_right (by rw [List.length_append]; omega), List.length_append, ht, List.getElem?_drop]
      congr 1
      omega
theorem seg3_len {α : Type} (l m : List α) (a : Nat) (h : a + m.length ≤ l.length) : (l.take a ++ m ++ l.drop (a + m.length)).length = l.length := by
  simp only [List.length_append, List.length_take, List.length_drop]; omega
theorem cpy_zero {α : Type} (xs ys : List α) (lo n : Nat) (h : (ys.take n).length = 0) : cpy xs lo n ys = xs := by
  unfold cpy
  rw [List.eq_nil_of_length_eq_zero h, List.append_nil, List.length_nil, Nat.add_zero, List.take_append_drop]
section
variable {P : Program} {E : Env} {c : Ctx} {h : List (Nat × Root)} {G : Ge} {w : World} {B : Nat → List Nat} {X : Nat → Prop} {sl : Nat → AV} {vs : Nat → Value} {ρ : Type} {K : AV → List (Nat × Root) → Nat → Option ρ} {r : ρ} {nid m : Nat}
theorem NN_congr {h h' : List (Nat × Root)} (he : ∀ i, look h' i = look h i) : NN c h' B X = NN c h B X := by
  funext b
  unfold NN
  simp only [he]
theorem Inv.congr (I : Inv c h G w B X sl vs) {h' : List (Nat × Root)} (he : ∀ i, look h' i = look h i) {sl' : Nat → AV} {vs' : Nat → Value} (hs : ∀ t, AVR G w (NN c h B X) (sl' t) (vs' t)) : Inv c h' G w B X sl' vs' := by
  have hN := NN_congr (c := c) (B := B) (X := X) he
  refine ⟨fun i r hi => ?_, fun i r hi => ?_, fun i j r r' hij hi hj => ?_, fun i r hi => ?_, I.lim, I.os, I.tape, I.output, I.size, I.keep, fun t => ?_⟩
  · rw [he] at hi; rw [hN]; exact I.root i r hi
  · rw [he] at hi; exact I.nodup i r hi
  · rw [he] at hi hj; exact I.disj i j r r' hij hi hj
  · rw [he] at hi; exact I.own i r hi
  · rw [hN]; exact hs t
theorem copy_root (I : Inv c h G w B Emp sl vs) {q gen lo n : Nat} {k : TM.K} {xs ys : List k.T} {vd : Value} (hq : look h q = some (.list gen k xs)) (hs : SubV (G.L q) k.size lo n vd) (hfl : k.flat = true) (hna : k.noArr = true) {news : List Value} {rs : List Nat} (hl : news.length = (ys.take n).length * k.size) (hel : ∀ j (e : k.T), (ys.take n)[j]? = some e → RO k w rs e ((news.drop (j * k.size)).take k.size)) (h1 : ∀ u, u ∈ news → u.oneCell' = true) :
    ∃ A' c' w' B', vd = .slice A' n c' ∧ ((match A' with | some a => storeCells a news | none => pure ()) : Sem Unit).run P w = .ok () w' ∧ Inv c (TM.put h q (.list gen k (cpy xs lo n ys))) G w' B' Emp sl vs := by
  obtain ⟨hd, hroot⟩ := I.root q _ hq
  simp only [RootR] at hroot
  obtain ⟨hkj, hown, hhd, hgen⟩ := hroot
  obtain ⟨A, len, cap, A', c', hL, hle, rfl, hmc, hA, hA0⟩ := hs
  have hlen : len = xs.length := by
    obtain ⟨A2, cap2, e, _⟩ := own_slice hown
    rw [hL] at e
    injection e
  by_cases hz : (ys.take n).length = 0
  · have hnews : news = [] := List.eq_nil_of_length_eq_zero (by rw [hl, hz, Nat.zero_mul])
    subst hnews
    refine ⟨A', c', w, B, rfl, by cases A' <;> simp [storeCells], ?_⟩
    rw [cpy_zero _ _ _ _ hz]
    refine I.congr (fun i => ?_) (fun t => ?_)
    · rw [look_put]
      split
      · rename_i e; rw [← e, hq]
      · rfl
    · exact I.slots t
  · have hn0 : 0 < n := by
      rw [List.length_take] at hz; omega
    have hcn : (ys.take n).length ≤ n := by rw [List.length_take]; omega
    have hown' := hown
    rw [hL] at hown'
    simp only [Own] at hown'
    obtain ⟨v', e1, e2⟩ := hown'
    injection e1 with e1
    subst e1
    rcases e2 with ⟨e2, e3, _⟩ | ⟨g, cap', cur, ty, fr, bss, e2, o2, o3, o4, o5, o6, o7, o8, o9⟩
    · exfalso
      subst e3
      simp at hlen
      omega
    · injection e2 with e2 _ e4
      subst e2; subst e4
      have hA := hA hn0
      subst hA
      have hadd : (⟨g, 0, none⟩ : Addr).add (lo * k.size) = ⟨g, lo * k.size, none⟩ := add_plain g _
      have hfit : lo * k.size + news.length ≤ cur.size := by
        rw [hl, o6, ← Nat.add_mul]
        exact Nat.mul_le_mul_right _ (by omega)
      obtain ⟨w', r1, r2, r3⟩ := run_storeCells_blk P g ty fr ⟨g, lo * k.size, none⟩ news 0 (lo * k.size) cur w o2 o3 (fun j => by
        rw [Nat.zero_add]; unfold Addr.add; split
        · rename_i hj; subst hj; rfl
        · rfl) hfit h1
      have hcl : lo * k.size + news.length ≤ cur.toList.length := by rw [Array.length_toList]; exact hfit
      have hxl : lo + (ys.take n).length ≤ xs.length := by omega
      have hsz : (cur.toList.take (lo * k.size) ++ news ++ cur.toList.drop (lo * k.size + news.length)).length = cur.size := by
        rw [seg3_len _ _ _ hcl, Array.length_toList]
      obtain ⟨B', i2, _⟩ := I.put (root' := .list gen k (cpy xs lo n ys)) hq (g := g) (by rw [o7]; exact List.mem_cons_self) r2 (fun N hN hp => by
        simp only [RootR]
        refine ⟨hkj, ?_, fun blk _ q' _ off hoff => (by rw [isL_flat hfl] at hoff; cases hoff), hgen⟩
        rw [hL]
        simp only [Own]
        have hcl2 : (cpy xs lo n ys).length = xs.length := seg3_len _ _ _ hxl
        refine ⟨_, rfl, .inr ⟨g, cap, _, ty, fr, bss, by rw [hcl2, hlen], r3, by rw [List.size_toArray, hsz]; exact o3, by rw [hcl2]; exact o4, o5, by rw [List.size_toArray, hsz]; exact o6, o7, by rw [hcl2]; exact o8, fun j hj => ?_⟩⟩
        rw [hcl2] at hj
        obtain ⟨b, hb, hob⟩ := o9 j hj
        have hbn := own_flat hfl hob
        subst hbn
        refine ⟨[], hb, ?_⟩
        have hgj : (cpy xs lo n ys)[j]? = some ((cpy xs lo n ys)[j]'(by rw [hcl2]; exact hj)) := List.getElem?_eq_getElem _
        generalize (cpy xs lo n ys)[j]'(by rw [hcl2]; exact hj) = ej at hgj ⊢
        unfold cpy at hgj
        rw [seg3 _ _ _ hxl] at hgj
        by_cases hc : lo ≤ j ∧ j < lo + (ys.take n).length
        · rw [if_neg (by omega), if_pos hc.2] at hgj
          have hro := ro_own hfl hna (hel _ _ hgj)
          have hcut : (((cur.toList.take (lo * k.size) ++ news ++ cur.toList.drop (lo * k.size + news.length)).toArray.toList.drop (j * k.size)).take k.size) = (news.drop ((j - lo) * k.size)).take k.size := by
            apply List.ext_getElem?
            intro x
            rw [List.getElem?_take, List.getElem?_take]
            by_cases hx : x < k.size
            · rw [if_pos hx, if_pos hx, List.getElem?_drop, List.getElem?_drop]
              simp only []
              rw [seg3 _ _ _ hcl]
              have q1 : lo * k.size ≤ j * k.size := Nat.mul_le_mul_right _ hc.1
              have q2 : j * k.size = lo * k.size + (j - lo) * k.size := by rw [← Nat.add_mul]; congr 1; omega
              have q3 : (j - lo) * k.size + k.size ≤ (ys.take n).length * k.size := by rw [← Nat.succ_mul]; exact Nat.mul_le_mul_right _ (by omega)
              rw [if_neg (by omega), if_pos (by omega)]
              congr 1
              omega
            · rw [if_neg hx, if_neg hx]
          rw [hcut]
          exact hro.move (fun b hb => by cases hb)
        · have hgx : xs[j]? = some ej := by
            by_cases hj1 : j < lo
            · rw [if_pos hj1] at hgj; exact hgj
            · rw [if_neg hj1, if_neg (by omega)] at hgj; exact hgj
          rw [List.getElem?_eq_getElem hj] at hgx
          injection hgx with hgx
          subst hgx
          have hcut : (((cur.toList.take (lo * k.size) ++ news ++ cur.toList.drop (lo * k.size + news.length)).toArray.toList.drop (j * k.size)).take k.size) = ((cur.toList.drop (j * k.size)).take k.size) := by
            apply List.ext_getElem?
            intro x
            rw [List.getElem?_take, List.getElem?_take]
            by_cases hx : x < k.size
            · rw [if_pos hx, if_pos hx, List.getElem?_drop, List.getElem?_drop]
              simp only []
              rw [seg3 _ _ _ hcl]
              by_cases hj1 : j < lo
              · have : j * k.size + k.size ≤ lo * k.size := by rw [← Nat.succ_mul]; exact Nat.mul_le_mul_right _ hj1
                rw [if_pos (by omega)]
              · have : (lo + (ys.take n).length) * k.size ≤ j * k.size := Nat.mul_le_mul_right _ (by omega)
                rw [Nat.add_mul] at this
                rw [if_neg (by omega), if_neg (by omega)]
            · rw [if_neg hx, if_neg hx]
          rw [hcut]
          exact hob.move (fun b hb => by cases hb))
      exact ⟨_, c', w', B', rfl, by simp only [Option.map_some, hadd]; exact r1, i2⟩
theorem firstCells_le {size n len : Nat} {A : Option Addr} {cc : Nat} {news : List Value} (hn : n ≤ len) (hl : news.length = len * size) (hA : (∃ ad, A = some ad ∧ ∀ q u, news[q]? = some u → w.cell? (ad.add q) = some u) ∨ len = 0) : (Builtin.firstCells size n (.slice A len cc)).run P w = .ok (news.take (n * size)).toArray w := by
  cases A with
  | none =>
    rcases hA with ⟨ad, hA, _⟩ | hA
    · cases hA
    · subst hA
      have : news = [] := List.eq_nil_of_length_eq_zero (by simpa using hl)
      subst this
      rw [List.take_nil]
      exact run_firstCells_none (P := P) w size n 0 cc
  | some ad =>
    have hlen : (news.take (n * size)).length = n * size := by
      rw [List.length_take, hl]
      exact Nat.min_eq_left (Nat.mul_le_mul_right _ hn)
    refine run_firstCells_some (P := P) w size n ad len cc _ hlen (fun j v hj => ?_)
    rw [List.getElem?_take] at hj
    split at hj
    · rcases hA with ⟨ad', hA, h1⟩ | hA
      · injection hA with hA
        subst hA
        exact h1 j v hj
      · subst hA
        have : news = [] := List.eq_nil_of_length_eq_zero (by simpa using hl)
        subst this
        simp at hj
    · cases hj
theorem copy_sim (I : Inv c h G w B Emp sl vs) (hE : TabOk P E) {t u ty : Nat} {d s : AV} {va vx : Value} (hr : (semCopy E t u d s).run nid h K = some r) (ha : AVR G w (NN c h B Emp) d va) (hx : AVR G w (NN c h B Emp) s vx) : OpSim P c K r G nid sl vs (do pure (Next.value (← Builtin.copy_ #[t, u] ty #[va, vx]))) w := by
  unfold semCopy at hr
  split at hr
  · rename_i e j hj
    obtain ⟨ht, htj⟩ := slElem_ok hE hj
    obtain ⟨⟨ti, hti, hts, htb, z, hz, hzc, hz1, hzs, _⟩, _⟩ := htj
    split at hr
    · rename_i k hk
      obtain ⟨hc, hr⟩ := bif_run hr
      simp only [Bool.and_eq_true] at hc
      obtain ⟨⟨⟨hks, _⟩, hfl⟩, hna⟩ := hc
      have hks := Nat.eq_of_beq_eq_true hks
      have hsi : ti.size = k.size := by rw [hts, hks]
      obtain ⟨ys, rs, e1, e2, e3⟩ := listR_out I hr hx
      have hv : ∃ A cc, vx = .slice A ys.length cc := by
        simp only [RO] at e2
        obtain ⟨A, cc, f1, _⟩ := e2
        injection f1 with f1
        exact ⟨A, cc, f1⟩
      obtain ⟨A, cc, rfl⟩ := hv
      obtain ⟨_, news, g1, g2, g3⟩ := ro_cells e2
      have hone : ∀ v, v ∈ news → v.oneCell' = true := by
        intro v hv
        obtain ⟨q, hq, rfl⟩ := List.mem_iff_getElem.1 hv
        have hs : 0 < k.size := by rw [g1] at hq; exact Nat.pos_of_ne_zero (fun e => by rw [e] at hq; omega)
        have hjq : q / k.size < ys.length := Nat.div_lt_of_lt_mul (by rw [Nat.mul_comm, ← g1]; exact hq)
        have ho := ro_own hfl hna (g2 (q / k.size) _ (List.getElem?_eq_getElem hjq))
        refine ho.one _ (List.mem_iff_getElem?.2 ⟨q % k.size, ?_⟩)
        rw [List.getElem?_take, if_pos (Nat.mod_lt _ hs), List.getElem?_drop]
        have h2 : q / k.size * k.size + q % k.size = q := by rw [Nat.mul_comm]; exact Nat.div_add_mod q k.size
        rw [h2, List.getElem?_eq_getElem hq]
      have main : ∀ {q gen lo n : Nat} {xs : List k.T} {vd : Value}, look h q = some (.list gen k xs) → SubV (G.L q) k.size lo n vd → K (.int .i64 (List.length (ys.take n))) (TM.put h q (.list gen k (cpy xs lo n ys))) nid = some r → va = vd → OpSim P c K r G nid sl vs (do pure (Next.value (← Builtin.copy_ #[t, u] ty #[va, .slice A ys.length cc]))) w := by
        intro q gen lo n xs vd hq hsub hK hva
        subst hva
        have hmin : (ys.take n).length = Nat.min ys.length n := by rw [List.length_take]; exact Nat.min_comm _ _
        have hfc := firstCells_le (P := P) (w := w) (cc := cc) (n := Nat.min ys.length n) (Nat.min_le_left _ _) g1 g3
        obtain ⟨A', c', w', B', hvd, hst, i2⟩ := copy_root (P := P) (ys := ys) I hq hsub hfl hna (news := news.take (Nat.min ys.length n * k.size)) (rs := rs) (by rw [List.length_take, g1, hmin]; exact Nat.min_eq_left (Nat.mul_le_mul_right _ (Nat.min_le_left _ _))) (fun jj e he => by
          rw [List.getElem?_take] at he
          split at he
          · rename_i hjn
            have hjl := (List.getElem?_eq_some_iff.1 he).1
            have h3 : jj < Nat.min ys.length n := Nat.lt_min.2 ⟨hjl, hjn⟩
            have h4 : jj * k.size + k.size ≤ Nat.min ys.length n * k.size := by rw [← Nat.succ_mul]; exact Nat.mul_le_mul_right _ h3
            have h5 : ((news.take (Nat.min ys.length n * k.size)).drop (jj * k.size)).take k.size = (news.drop (jj * k.size)).take k.size := take_drop_take _ _ _ _ h4
            rw [h5]
            exact g2 jj e he
          · cases he) (fun u hu => hone u (List.mem_of_mem_take hu))
        subst hvd
        refine .inl ⟨.int .i64 (List.length (ys.take n)), w', ?_, .int .i64 (List.length (ys.take n)), _, nid, G, B', hK, fun _ h => h, fun _ h => .inl h, i2, by simp only [AVR]⟩
        refine run_v ?_
        rw [hmin]
        cases A' with
        | none =>
          simp only [Sem.run_pure] at hst
          injection hst with _ hst
          subst hst
          simp [Builtin.copy_, run_underlying ht, sizeOf, typeInfo, hti, hsi, Builtin.lenOf, hfc, goInt]
        | some a =>
          simp only at hst
          simp [Builtin.copy_, run_underlying ht, sizeOf, typeInfo, hti, hsi, Builtin.lenOf, hfc, hst, goInt]
      split at e1
      · rename_i q _
        simp only [AVR] at ha
        obtain ⟨root, hq, e1⟩ := get_run e1
        split at e1
        · rename_i gen k' xs
          split at e1
          · rename_i hkk
            subst hkk
            simp only [HM.run] at e1
            obtain ⟨_, hroot⟩ := I.root q _ hq
            simp only [RootR] at hroot
            obtain ⟨A2, cap2, e4, e5⟩ := own_slice hroot.2.1
            refine main hq (lo := 0) (n := xs.length) (vd := va) ?_ e1 rfl
            rw [ha.2.1, e4]
            exact ⟨A2, _, cap2, A2, cap2, rfl, by omega, rfl, e5, fun _ => by rw [Nat.zero_mul]; cases A2 <;> simp [Addr.add], fun _ => ⟨rfl, rfl⟩⟩
          · cases e1
        · cases e1
      · rename_i q lo n _
        simp only [AVR] at ha
        obtain ⟨root, hq, e1⟩ := get_run e1
        split at e1
        · rename_i gen k' xs
          split at e1
          · rename_i hkk
            subst hkk
            simp only [HM.run] at e1
            obtain ⟨_, hroot⟩ := I.root q _ hq
            simp only [RootR] at hroot
            refine main hq (lo := lo) (n := n) (vd := va) ?_ e1 rfl
            have := ha.2
            rw [hroot.1] at this
            exact this
          · cases e1
        · cases e1
      · cases e1
    · cases hr
  · cases hr
end
end Go.TM

/- One operation, whatever it is. -/
set_option linter.unusedVariables false
set_option linter.unusedSimpArgs false
namespace Go.TM
open Go
section
variable {P : Program} {E : Env} {c : Ctx} {h : List (Nat × Root)} {G : Ge} {w : World} {B : Nat → List Nat} {sl : Nat → AV} {vs : Nat → Value} {ρ : Type} {K : AV → List (Nat × Root) → Nat → Option ρ} {r : ρ} {nid m : Nat} {N : Nat → Prop}
theorem oneC_ok {v : Value} (h : oneC v = true) : v.oneCell' = true := by
  cases v <;> first | rfl | (simp [oneC] at h; done)
theorem avr_const (v : Value) : AVR G w N (avOf v) v := by
  unfold avOf
  split
  · rename_i cs
    cases hc : cs.toList.all oneC with
    | true =>
      simp only [cond_true, AVR]
      exact ⟨cs, rfl, fun u hu => oneC_ok ((List.all_eq_true.1 hc) u hu), avrs_const _⟩
    | false => simp only [cond_false, AVR]
  · exact avr_const1 _
theorem avrs_map {ev : Operand → AV} {val : Operand → Value} (hev : ∀ x, AVR G w N (ev x) (val x)) : ∀ l : List Operand, AVRs G w N (l.map ev) (l.map val)
  | [] => by simp only [List.map_nil, AVRs]
  | x :: r => by simp only [List.map_cons, AVRs]; exact ⟨hev x, avrs_map hev r⟩
theorem foldInt_sim (f : Int → Int → Int) (g : Value → Value → Sem Value) (hg : ∀ k x k' y w, (g (.int k x) (.int k' y)).run P w = .ok (.int k (f x y)) w) (k : IntKind) :
    ∀ (l : List AV) (vals : List Value) (x : Int), (foldInt f k x l).run nid h K = some r → AVRs G w N l vals → ∃ y, (vals.foldlM g (.int k x)).run P w = .ok (.int k y) w ∧ K (.int k y) h nid = some r
  | [], [], x, hr, _ => ⟨x, by simp, hr⟩
  | a :: l, v :: vals, x, hr, ha => by
    simp only [AVRs] at ha
    cases a with
    | int k' y =>
      simp only [foldInt] at hr
      obtain ⟨_, hr⟩ := bif_run hr
      have h1 := ha.1
      simp only [AVR] at h1
      subst h1
      obtain ⟨z, e1, e2⟩ := foldInt_sim f g hg k l vals _ hr ha.2
      exact ⟨z, by simp [List.foldlM_cons, hg, e1], e2⟩
    | _ => simp [foldInt, HM.run] at hr
  | [], _ :: _, _, _, ha => by simp only [AVRs] at ha
  | _ :: _, [], _, _, ha => by simp only [AVRs] at ha
theorem builtin_sim (I : Inv c h G w B Emp sl vs) (hE : TabOk P E) (R : Room K r G nid m) {b : Builtin} {ts : Array TypeId} {ty : TypeId} {consts : Array Bool} {avs : List AV} {vals : List Value} (hr : (semBuiltin E b ts.toList avs).run nid h K = some r) (ha : AVRs G w (NN c h B Emp) avs vals) : OpSim P c K r G nid sl vs (builtin b ts ty consts vals.toArray) w := by
  unfold semBuiltin at hr
  split at hr
  · rename_i t x hts
    have hts' : ts = #[t] := Array.toList_inj.1 hts
    subst hts'
    match vals, ha with
    | [v], ha =>
      simp only [AVRs] at ha
      exact Still.sim I (len_sim I hE hr ha.1)
    | [], ha => simp only [AVRs] at ha
    | _ :: _ :: _, ha => simp only [AVRs] at ha; exact ha.2.elim
  · rename_i t u s x hts
    have hts' : ts = #[t, u] := Array.toList_inj.1 hts
    subst hts'
    match vals, ha with
    | [v, v'], ha =>
      simp only [AVRs] at ha
      exact append_sim I hE R hr ha.1 ha.2.1
    | [], ha => simp only [AVRs] at ha
    | [_], ha => simp only [AVRs] at ha; exact ha.2.elim
    | _ :: _ :: _ :: _, ha => simp only [AVRs] at ha; exact ha.2.2.elim
  · rename_i t u d s hts
    have hts' : ts = #[t, u] := Array.toList_inj.1 hts
    subst hts'
    match vals, ha with
    | [v, v'], ha =>
      simp only [AVRs] at ha
      exact copy_sim I hE hr ha.1 ha.2.1
    | [], ha => simp only [AVRs] at ha
    | [_], ha => simp only [AVRs] at ha; exact ha.2.elim
    | _ :: _ :: _ :: _, ha => simp only [AVRs] at ha; exact ha.2.2.elim
  · rename_i k x l
    match vals, ha with
    | v :: vals, ha =>
      simp only [AVRs] at ha
      have h1 := ha.1
      simp only [AVR] at h1
      subst h1
      obtain ⟨y, e1, e2⟩ := foldInt_sim (P := P) mnI Builtin.min2 (fun k x k' y w => by
        simp only [Builtin.min2, Sem.run_pure, mnI]
        by_cases hxy : y < x <;> simp [hxy]) k l vals x hr ha.2
      exact Still.sim I ⟨.int k y, _, by simpa [Builtin.min_] using e1, e2, by simp only [AVR]⟩
    | [], ha => simp only [AVRs] at ha
  · rename_i k x l
    match vals, ha with
    | v :: vals, ha =>
      simp only [AVRs] at ha
      have h1 := ha.1
      simp only [AVR] at h1
      subst h1
      obtain ⟨y, e1, e2⟩ := foldInt_sim (P := P) mxI Builtin.max2 (fun k x k' y w => by
        simp only [Builtin.max2, Sem.run_pure, mxI]
        by_cases hxy : x < y <;> simp [hxy]) k l vals x hr ha.2
      exact Still.sim I ⟨.int k y, _, by simpa [Builtin.max_] using e1, e2, by simp only [AVR]⟩
    | [], ha => simp only [AVRs] at ha
  · cases hr
theorem nil_sim {a : AV} {va : Value} (hr : (match a with | .box q o => HM.ret (AV.box q o) | .elem j i o => .ret (.elem j i o) | .roElem k e o => .ret (.roElem k e o) | _ => .fail).run nid h K = some r) (ha : AVR G w N a va) : K a h nid = some r ∧ ∃ ad, va = .pointer (some ad) := by
  split at hr
  · simp only [AVR] at ha
    obtain ⟨_, g, _, rfl⟩ := ha
    exact ⟨hr, _, rfl⟩
  · simp only [AVR] at ha
    obtain ⟨_, g, _, rfl⟩ := ha
    exact ⟨hr, _, rfl⟩
  · simp only [AVR] at ha
    obtain ⟨_, _, _, _, _, _, _, rfl⟩ := ha
    exact ⟨hr, _, rfl⟩
  · cases hr
theorem optR_map {ev : Operand → AV} {val : Operand → Value} (hev : ∀ x, AVR G w N (ev x) (val x)) : ∀ o : Option Operand, OptR G w N (o.map ev) (o.map val)
  | none => trivial
  | some x => hev x
def CallSim (P : Program) (E : Env) : Prop := ∀ (g : FuncId) (con : Con), look E.cons g = some con → ∀ {c : Ctx} {h : List (Nat × Root)} {G : Ge} {w : World} {B : Nat → List Nat} {sl : Nat → AV} {vs : Nat → Value} {ρ : Type} {K : AV → List (Nat × Root) → Nat → Option ρ} {r : ρ} {nid m : Nat} {avs : List AV} {vals : List Value}, (∀ b, c.X b → b < c.w0.heap.size ∧ ¬ b ∈ c.F) → Inv c h G w B Emp sl vs → Room K r G nid m → (semCall con avs).run nid h K = some r → AVRs G w (NN c h B Emp) avs vals → OpSim P c K r G nid sl vs (callFunc g vals.toArray) w
theorem sem_sim (hX : ∀ b, c.X b → b < c.w0.heap.size ∧ ¬ b ∈ c.F) (hC : CallSim P E) (I : Inv c h G w B Emp sl vs) (hE : TabOk P E) (R : Room K r G nid m) {ev : Operand → AV} {val : Operand → Value} (hev : ∀ x, AVR G w (NN c h B Emp) (ev x) (val x)) {o : Oper} (hr : (sem E ev o.op).run nid h K = some r) : OpSim P c K r G nid sl vs (execOp val o) w := by
  unfold execOp
  revert hr
  generalize o.op = op
  intro hr
  cases op with
  | move x => exact OpSim.val I rfl hr (hev x)
  | assign x => exact OpSim.val I rfl hr (hev x)
  | pick x a b =>
    simp only [sem] at hr
    have hx := hev x
    split at hr
    · rename_i b' hb
      rw [hb] at hx
      simp only [AVR] at hx
      cases b' with
      | true => exact OpSim.val (val := val a) I (by simp [hx, asBool]) hr (hev a)
      | false => exact OpSim.val (val := val b) I (by simp [hx, asBool]) hr (hev b)
    · cases hr
  | alloc t => exact alloc_sim I hE R hr
  | box t x => exact box_sim I R hr (hev x)
  | build t ps => exact build_sim I hE R hev hr
  | buildSlice t n ps => exact buildSlice_sim I hE R hev hr
  | load t a => exact Still.sim I (load_sim I hE hr (hev a))
  | store t a x => exact store_sim I hE hr (hev a) (hev x)
  | nilCheck x =>
    simp only [sem] at hr
    obtain ⟨h1, ad, h2⟩ := nil_sim hr (hev x)
    exact OpSim.val (val := val x) I (by simp only [h2]; rfl) h1 (hev x)
  | binOp op t x y b => exact Still.sim I (bin_sim hE hr (hev x) (hev y) x y)
  | unOp op t x => exact Still.sim I (un_sim hr (hev x))
  | convert t u x => exact convert_sim I hE R hr (hev x)
  | makeSlice t n k => exact make_sim I hE R hr (hev n) (hev k)
  | slice t x lo hi mx =>
    cases mx with
    | none => exact Still.sim I (slice_sim I hE hr (hev x) (optR_map hev lo) (optR_map hev hi))
    | some _ => simp [sem, HM.run] at hr
  | fieldAddr t a f => exact Still.sim I (fieldAddr_sim hE hr (hev a))
  | field t x f => exact Still.sim I (field_sim hE hr (hev x))
  | indexAddr t x i => exact Still.sim I (indexAddr_sim I hE hr (hev x) (hev i))
  | index t x i => exact Still.sim I (index_sim hE hr (hev x) (hev i))
  | extract t i => exact Still.sim I (extract_sim hr (hev t))
  | call cl =>
    simp only [sem] at hr
    have hargs : (cl.args.map val) = (cl.args.toList.map val).toArray := by rw [← Array.toList_inj]; simp
    cases hcl : cl.callee with
    | builtin b =>
      rw [hcl] at hr
      have := builtin_sim (ty := o.type) (consts := cl.args.map fun | .const _ => true | _ => false) I hE R hr (avrs_map hev cl.args.toList)
      simp only [resolve, hcl, invoke, hargs, pure_bind]
      exact this
    | value f =>
      rw [hcl] at hr
      simp only at hr
      have hf := hev f
      split at hr
      · rename_i g hg
        rw [hg] at hf
        simp only [AVR] at hf
        split at hr
        · rename_i con hcon
          have := hC g con hcon hX I R hr (avrs_map hev cl.args.toList)
          simpa [resolve, hcl, invoke, hf, Deferred.ofValue, hargs] using this
        · cases hr
      · cases hr
    | _ => rw [hcl] at hr; cases hr
  | _ => simp [sem, HM.run] at hr
end
end Go.TM

/- What lies at an interface: arguments, results. -/
set_option linter.unusedVariables false
set_option linter.unusedSimpArgs false
namespace Go.TM
open Go
def IK.size : IK → Nat
  | .pair a b => a.size + b.size
  | _ => 1
def IR : (k : IK) → World → (Nat → Prop) → List Nat → k.T → List Value → Prop
  | .int k, _, _, bs, x, cs => bs = [] ∧ cs = [.int k x]
  | .bool, _, _, bs, x, cs => bs = [] ∧ cs = [.bool x]
  | .str, _, _, bs, x, cs => bs = [] ∧ cs = [.string x]
  | .ro k, w, A, bs, x, cs => bs = [] ∧ ∃ v rs, cs = [v] ∧ RO (.list k) w rs x [v] ∧ ∀ b, b ∈ rs → A b
  | .own k, w, _, bs, x, cs => ∃ v, cs = [v] ∧ Own (.list k) w bs x [v]
  | .pair a b, w, A, bs, x, cs => ∃ b1 b2 c1 c2, bs = b1 ++ b2 ∧ cs = c1 ++ c2 ∧ IR a w A b1 x.1 c1 ∧ IR b w A b2 x.2 c2
def VR : (v : VK) → World → (Nat → Prop) → List Nat → v.T → Value → Prop
  | .c ik true, w, A, bs, x, val => ∃ a, val = .agg a ∧ IR ik w A bs x a.toList
  | .c ik false, w, A, bs, x, val => IR ik w A bs x [val]
  | .box ik, w, A, bs, x, val => ∃ g cur ty b, val = .pointer (some ⟨g, 0, none⟩) ∧ w.heap[g]? = some (.cells cur ty (0, 0)) ∧ bs = g :: b ∧ IR ik w A b x cur.toList
  | .arr n k, w, A, bs, x, val => bs = [] ∧ ∃ a rs, val = .agg a ∧ RO (.arr n k) w rs x a.toList ∧ ∀ b, b ∈ rs → A b
  | .abox n k, w, A, bs, x, val => ∃ g cur ty, val = .pointer (some ⟨g, 0, none⟩) ∧ w.heap[g]? = some (.cells cur ty (0, 0)) ∧ bs = [g] ∧ k.flat = true ∧ RO (.arr n k) w [] x cur.toList
  | .peek k, w, A, bs, x, val => bs = [] ∧ ∃ (rs : List Nat) (ad : Addr) (cs : List Value), val = .pointer (some (ad.add 0)) ∧ RO k w rs x cs ∧ (∀ q u, cs[q]? = some u → w.cell? (ad.add q) = some u) ∧ ad.block ∈ rs ∧ ∀ b, b ∈ rs → A b
theorem IR.len : ∀ {k : IK} {w : World} {A : Nat → Prop} {bs : List Nat} {x : k.T} {cs : List Value}, IR k w A bs x cs → cs.length = k.size
  | .int _, _, _, _, _, _, h => by simp only [IR] at h; rw [h.2]; rfl
  | .bool, _, _, _, _, _, h => by simp only [IR] at h; rw [h.2]; rfl
  | .str, _, _, _, _, _, h => by simp only [IR] at h; rw [h.2]; rfl
  | .ro _, _, _, _, _, _, h => by simp only [IR] at h; obtain ⟨_, v, rs, rfl, _⟩ := h; rfl
  | .own _, _, _, _, _, _, h => by simp only [IR] at h; obtain ⟨v, rfl, _⟩ := h; rfl
  | .pair a b, _, _, _, _, _, h => by
    simp only [IR] at h
    obtain ⟨b1, b2, c1, c2, rfl, rfl, h1, h2⟩ := h
    rw [List.length_append, h1.len, h2.len]; rfl
theorem IR.one : ∀ {k : IK} {w : World} {A : Nat → Prop} {bs : List Nat} {x : k.T} {cs : List Value}, IR k w A bs x cs → ∀ u, u ∈ cs → u.oneCell' = true
  | .int _, _, _, _, _, _, h, u, hu => by simp only [IR] at h; rw [h.2] at hu; simp only [List.mem_singleton] at hu; rw [hu]; rfl
  | .bool, _, _, _, _, _, h, u, hu => by simp only [IR] at h; rw [h.2] at hu; simp only [List.mem_singleton] at hu; rw [hu]; rfl
  | .str, _, _, _, _, _, h, u, hu => by simp only [IR] at h; rw [h.2] at hu; simp only [List.mem_singleton] at hu; rw [hu]; rfl
  | .ro _, _, _, _, _, _, h, u, hu => by
    simp only [IR] at h
    obtain ⟨_, v, rs, rfl, h1, _⟩ := h
    simp only [RO] at h1
    obtain ⟨A, c, e, _⟩ := h1
    injection e with e
    subst e
    simp only [List.mem_singleton] at hu; rw [hu]; rfl
  | .own _, _, _, _, _, _, h, u, hu => by
    simp only [IR] at h
    obtain ⟨v, rfl, h1⟩ := h
    exact h1.one u hu
  | .pair a b, _, _, _, _, _, h, u, hu => by
    simp only [IR] at h
    obtain ⟨b1, b2, c1, c2, rfl, rfl, h1, h2⟩ := h
    rcases List.mem_append.1 hu with hu | hu
    · exact h1.one u hu
    · exact h2.one u hu
theorem IR.mono : ∀ {k : IK} {w : World} {A A' : Nat → Prop} {bs : List Nat} {x : k.T} {cs : List Value}, (∀ b, A b → A' b) → IR k w A bs x cs → IR k w A' bs x cs
  | .int _, _, _, _, _, _, _, _, h => h
  | .bool, _, _, _, _, _, _, _, h => h
  | .str, _, _, _, _, _, _, _, h => h
  | .ro _, _, _, _, _, _, _, hA, h => by
    simp only [IR] at h ⊢
    obtain ⟨h0, v, rs, h1, h2, h3⟩ := h
    exact ⟨h0, v, rs, h1, h2, fun b hb => hA b (h3 b hb)⟩
  | .own _, _, _, _, _, _, _, _, h => h
  | .pair a b, _, _, _, _, _, _, hA, h => by
    simp only [IR] at h ⊢
    obtain ⟨b1, b2, c1, c2, h1, h2, h3, h4⟩ := h
    exact ⟨b1, b2, c1, c2, h1, h2, h3.mono hA, h4.mono hA⟩
theorem IR.move : ∀ {k : IK} {w w' : World} {A : Nat → Prop} {bs : List Nat} {x : k.T} {cs : List Value}, (∀ b, A b → w'.heap[b]? = w.heap[b]?) → (∀ b, b ∈ bs → w'.heap[b]? = w.heap[b]?) → IR k w A bs x cs → IR k w' A bs x cs
  | .int _, _, _, _, _, _, _, _, _, h => h
  | .bool, _, _, _, _, _, _, _, _, h => h
  | .str, _, _, _, _, _, _, _, _, h => h
  | .ro _, _, _, _, _, _, _, hA, _, h => by
    simp only [IR] at h ⊢
    obtain ⟨h0, v, rs, h1, h2, h3⟩ := h
    exact ⟨h0, v, rs, h1, h2.move (fun b hb => hA b (h3 b hb)), h3⟩
  | .own _, _, _, _, _, _, _, _, hb, h => by
    simp only [IR] at h ⊢
    obtain ⟨v, h1, h2⟩ := h
    exact ⟨v, h1, h2.move hb⟩
  | .pair a b, _, _, _, _, _, _, hA, hb, h => by
    simp only [IR] at h ⊢
    obtain ⟨b1, b2, c1, c2, rfl, h2, h3, h4⟩ := h
    exact ⟨b1, b2, c1, c2, rfl, h2, h3.move hA (fun b hm => hb b (List.mem_append_left _ hm)), h4.move hA (fun b hm => hb b (List.mem_append_right _ hm))⟩
theorem IR.lt : ∀ {k : IK} {w : World} {A : Nat → Prop} {bs : List Nat} {x : k.T} {cs : List Value}, IR k w A bs x cs → ∀ b, b ∈ bs → b < w.heap.size
  | .int _, _, _, _, _, _, h, b, hb => by simp only [IR] at h; rw [h.1] at hb; cases hb
  | .bool, _, _, _, _, _, h, b, hb => by simp only [IR] at h; rw [h.1] at hb; cases hb
  | .str, _, _, _, _, _, h, b, hb => by simp only [IR] at h; rw [h.1] at hb; cases hb
  | .ro _, _, _, _, _, _, h, b, hb => by simp only [IR] at h; rw [h.1] at hb; cases hb
  | .own _, _, _, _, _, _, h, b, hb => by simp only [IR] at h; obtain ⟨v, _, h2⟩ := h; exact h2.lt b hb
  | .pair a b, _, _, _, _, _, h, q, hq => by
    simp only [IR] at h
    obtain ⟨b1, b2, c1, c2, rfl, h2, h3, h4⟩ := h
    rcases List.mem_append.1 hq with hq | hq
    · exact h3.lt q hq
    · exact h4.lt q hq
theorem VR.mono {v : VK} {w : World} {A A' : Nat → Prop} {bs : List Nat} {x : v.T} {val : Value} (hA : ∀ b, A b → A' b) (h : VR v w A bs x val) : VR v w A' bs x val := by
  cases v with
  | c ik agg =>
    cases agg with
    | true => simp only [VR] at h ⊢; obtain ⟨a, h1, h2⟩ := h; exact ⟨a, h1, h2.mono hA⟩
    | false => simp only [VR] at h ⊢; exact h.mono hA
  | box ik => simp only [VR] at h ⊢; obtain ⟨g, cur, ty, b, h1, h2, h3, h4⟩ := h; exact ⟨g, cur, ty, b, h1, h2, h3, h4.mono hA⟩
  | arr n k => simp only [VR] at h ⊢; obtain ⟨h0, a, rs, h1, h2, h3⟩ := h; exact ⟨h0, a, rs, h1, h2, fun b hb => hA b (h3 b hb)⟩
  | abox n k => simp only [VR] at h ⊢; exact h
  | peek k => simp only [VR] at h ⊢; obtain ⟨h0, rs, ad, cs, h1, h2, h3, h4, h5⟩ := h; exact ⟨h0, rs, ad, cs, h1, h2, h3, h4, fun b hb => hA b (h5 b hb)⟩
def roRoots : IK → List AV → List Nat
  | .ro _, v :: _ => (rootOf v).toList
  | .pair a b, vs => roRoots a vs ++ roRoots b (vs.drop a.size)
  | _, _ => []
section
variable {P : Program} {E : Env} {c : Ctx} {h : List (Nat × Root)} {G : Ge} {w : World} {B : Nat → List Nat} {X : Nat → Prop} {sl : Nat → AV} {vs : Nat → Value} {ρ α : Type} {K : α → List (Nat × Root) → Nat → Option ρ} {r : ρ} {nid : Nat}
def Lent (c : Ctx) (h : List (Nat × Root)) (w : World) (B : Nat → List Nat) (X : Nat → Prop) (L : List Nat) (b : Nat) : Prop := b < w.heap.size ∧ (¬ NN c h B X b ∨ ∃ j, j ∈ L ∧ b ∈ B j)
theorem Limbo.lent {h' : List (Nat × Root)} {bs L L' : List Nat} (l : Limbo c h G w B X sl vs h' bs) (hL : ∀ j, j ∈ L → j ∈ L') : ∀ b, Lent c h w B X L b → Lent c h' w B (fun b => X b ∨ b ∈ bs) L' b := fun b hb =>
  ⟨hb.1, hb.2.imp (fun hn hn' => hn (l.pres.av b hb.1 hn')) (fun ⟨j, hj, hbj⟩ => ⟨j, hL j hj, hbj⟩)⟩
theorem impI_out : ∀ (k : IK) {h : List (Nat × Root)} {X : Nat → Prop} {avs : List AV} {vals : List Value} {f : k.T → List AV → HM α} (I : Inv c h G w B X sl vs), (impI k avs f).run nid h K = some r → AVRs G w (NN c h B X) avs vals →
    ∃ x h' bs c1 c2, vals = c1 ++ c2 ∧ (f x (avs.drop k.size)).run nid h' K = some r ∧ IR k w (Lent c h' w B (fun b => X b ∨ b ∈ bs) (roRoots k avs)) bs x c1 ∧ Limbo c h G w B X sl vs h' bs ∧ AVRs G w (NN c h' B (fun b => X b ∨ b ∈ bs)) (avs.drop k.size) c2
  | .int k, h, X, avs, vals, f, I, hr, ha => by
    cases avs with
    | nil => simp [impI, HM.run] at hr
    | cons a rest =>
      cases a with
      | int k' x =>
        simp only [impI] at hr
        obtain ⟨hk, hr⟩ := bif_run hr
        simp only [decide_eq_true_eq] at hk
        cases vals with
        | nil => simp only [AVRs] at ha
        | cons v vals =>
          simp only [AVRs, AVR] at ha
          exact ⟨x, h, [], [v], vals, rfl, hr, by simp only [IR]; exact ⟨trivial, by rw [ha.1, hk]⟩, Limbo.refl I, (Limbo.refl I).avrs ha.2⟩
      | _ => simp [impI, HM.run] at hr
  | .bool, h, X, avs, vals, f, I, hr, ha => by
    cases avs with
    | nil => simp [impI, HM.run] at hr
    | cons a rest =>
      cases a with
      | bool x =>
        simp only [impI] at hr
        cases vals with
        | nil => simp only [AVRs] at ha
        | cons v vals =>
          simp only [AVRs, AVR] at ha
          exact ⟨x, h, [], [v], vals, rfl, hr, by simp only [IR]; exact ⟨trivial, by rw [ha.1]⟩, Limbo.refl I, (Limbo.refl I).avrs ha.2⟩
      | _ => simp [impI, HM.run] at hr
  | .str, h, X, avs, vals, f, I, hr, ha => by
    cases avs with
    | nil => simp [impI, HM.run] at hr
    | cons a rest =>
      cases a with
      | str x =>
        simp only [impI] at hr
        cases vals with
        | nil => simp only [AVRs] at ha
        | cons v vals =>
          simp only [AVRs, AVR] at ha
          exact ⟨x, h, [], [v], vals, rfl, hr, by simp only [IR]; exact ⟨trivial, by rw [ha.1]⟩, Limbo.refl I, (Limbo.refl I).avrs ha.2⟩
      | _ => simp [impI, HM.run] at hr
  | .ro k, h, X, avs, vals, f, I, hr, ha => by
    cases avs with
    | nil => simp [impI, HM.run] at hr
    | cons a rest =>
      simp only [impI] at hr
      cases vals with
      | nil => simp only [AVRs] at ha
      | cons v vals =>
        simp only [AVRs] at ha
        obtain ⟨xs, rs, e1, e2, e3⟩ := listR_out I hr ha.1
        have l := Limbo.refl I
        refine ⟨xs, h, [], [v], vals, rfl, e1, ?_, l, l.avrs ha.2⟩
        simp only [IR]
        refine ⟨trivial, v, rs, rfl, e2, fun b hb => l.lent (L := roRoots (.ro k) (a :: rest)) (fun j hj => hj) b ⟨(e3 b hb).1, (e3 b hb).2.imp id (fun ⟨j, root, h1, _, h3⟩ => ⟨j, by simp [roRoots, h1], h3⟩)⟩⟩
  | .own k, h, X, avs, vals, f, I, hr, ha => by
    cases avs with
    | nil => simp [impI, HM.run] at hr
    | cons a rest =>
      simp only [impI] at hr
      cases vals with
      | nil => simp only [AVRs] at ha
      | cons v vals =>
        simp only [AVRs] at ha
        obtain ⟨xs, bs, h', e1, e2, e3⟩ := listO_out I hr ha.1
        exact ⟨xs, h', bs, [v], vals, rfl, e1, by simp only [IR]; exact ⟨v, rfl, e2⟩, e3, e3.avrs ha.2⟩
  | .pair a b, h, X, avs, vals, f, I, hr, ha => by
    simp only [impI] at hr
    obtain ⟨x, h1, b1, c1, c2, rfl, e1, e2, e3, e4⟩ := impI_out a I hr ha
    obtain ⟨y, h2, b2, c3, c4, rfl, f1, f2, f3, f4⟩ := impI_out b e3.inv e1 e4
    have he : (fun q => (X q ∨ q ∈ b1) ∨ q ∈ b2) = fun q => X q ∨ q ∈ b1 ++ b2 := by funext q; simp [or_assoc]
    rw [List.drop_drop] at f1 f4
    have g1 := e2.mono (f3.lent (L' := roRoots (.pair a b) avs) (fun j hj => List.mem_append_left _ hj))
    have g2 : IR b w (Lent c h2 w B (fun q => (X q ∨ q ∈ b1) ∨ q ∈ b2) (roRoots (.pair a b) avs)) b2 y c3 := f2.mono (fun q hq => ⟨hq.1, hq.2.imp id (fun ⟨j, hj, hb⟩ => ⟨j, List.mem_append_right _ hj, hb⟩)⟩)
    rw [he] at f4 g1 g2
    exact ⟨(x, y), h2, b1 ++ b2, c1 ++ c3, c4, by simp, f1, by simp only [IR]; exact ⟨b1, b2, c1, c3, rfl, rfl, g1, g2⟩, e3.trans f3, f4⟩
end
end Go.TM

/- Values handed over at an interface. -/
set_option linter.unusedVariables false
set_option linter.unusedSimpArgs false
namespace Go.TM
open Go
section
variable {P : Program} {E : Env} {c : Ctx} {h : List (Nat × Root)} {G : Ge} {w : World} {B : Nat → List Nat} {X : Nat → Prop} {sl : Nat → AV} {vs : Nat → Value} {ρ α : Type} {K : α → List (Nat × Root) → Nat → Option ρ} {r : ρ} {nid : Nat}
theorem liveL_out {v : AV} {f : HM α} (hr : (liveL v f).run nid h K = some r) : f.run nid h K = some r ∧ ∀ j, j ∈ (rootOf v).toList → ∃ root, look h j = some root := by
  unfold liveL at hr
  split at hr
  · obtain ⟨root, h1, h2⟩ := get_run hr
    exact ⟨h2, fun j hj => by simp only [rootOf, Option.toList_some, List.mem_singleton] at hj; subst hj; exact ⟨root, h1⟩⟩
  · obtain ⟨root, h1, h2⟩ := get_run hr
    exact ⟨h2, fun j hj => by simp only [rootOf, Option.toList_some, List.mem_singleton] at hj; subst hj; exact ⟨root, h1⟩⟩
  · obtain ⟨root, h1, h2⟩ := get_run hr
    exact ⟨h2, fun j hj => by simp only [rootOf, Option.toList_some, List.mem_singleton] at hj; subst hj; exact ⟨root, h1⟩⟩
  · rename_i n1 n2 n3
    refine ⟨hr, fun j hj => ?_⟩
    cases v <;> first | (simp [rootOf] at hj; done) | skip
    · exact (n1 _ rfl).elim
    · exact (n2 _ _ _ rfl).elim
    · exact (n3 _ _ _ _ rfl).elim
theorem liveI_out : ∀ (k : IK) {avs : List AV} {f : List AV → HM α}, (liveI k avs f).run nid h K = some r → (f (avs.drop k.size)).run nid h K = some r ∧ ∀ j, j ∈ roRoots k avs → ∃ root, look h j = some root
  | .int _, avs, f, hr => by cases avs <;> first | (simp [liveI, HM.run] at hr; done) | exact ⟨hr, fun j hj => by simp [roRoots] at hj⟩
  | .bool, avs, f, hr => by cases avs <;> first | (simp [liveI, HM.run] at hr; done) | exact ⟨hr, fun j hj => by simp [roRoots] at hj⟩
  | .str, avs, f, hr => by cases avs <;> first | (simp [liveI, HM.run] at hr; done) | exact ⟨hr, fun j hj => by simp [roRoots] at hj⟩
  | .own _, avs, f, hr => by cases avs <;> first | (simp [liveI, HM.run] at hr; done) | exact ⟨hr, fun j hj => by simp [roRoots] at hj⟩
  | .ro _, avs, f, hr => by
    cases avs with
    | nil => simp [liveI, HM.run] at hr
    | cons a rest => exact liveL_out hr
  | .pair a b, avs, f, hr => by
    simp only [liveI] at hr
    obtain ⟨h1, h2⟩ := liveI_out a hr
    obtain ⟨h3, h4⟩ := liveI_out b h1
    rw [List.drop_drop] at h3
    refine ⟨h3, fun j hj => ?_⟩
    simp only [roRoots] at hj
    rcases List.mem_append.1 hj with hj | hj
    · exact h2 j hj
    · exact h4 j hj
structure Drop (c : Ctx) (h : List (Nat × Root)) (G : Ge) (w : World) (B : Nat → List Nat) (X : Nat → Prop) (sl : Nat → AV) (vs : Nat → Value) (h' : List (Nat × Root)) (L : List Nat) : Prop where
  inv : Inv c h' G w B X sl vs
  pres : Pres G w (NN c h B X) G w (NN c h' B X)
  sub : ∀ j root, look h' j = some root → look h j = some root
  gone : ∀ j, j ∈ L → look h' j = none
theorem Drop.refl (I : Inv c h G w B X sl vs) : Drop c h G w B X sl vs h [] := ⟨I, Pres.refl _ _ _, fun _ _ h => h, fun j hj => (List.not_mem_nil hj).elim⟩
theorem Drop.trans {h' h'' : List (Nat × Root)} {L L' : List Nat} (d : Drop c h G w B X sl vs h' L) (d' : Drop c h' G w B X sl vs h'' L') : Drop c h G w B X sl vs h'' (L ++ L') :=
  ⟨d'.inv, d.pres.trans d'.pres, fun j root hj => d.sub j root (d'.sub j root hj), fun j hj => by
    rcases List.mem_append.1 hj with hj | hj
    · cases hl : look h'' j with
      | none => rfl
      | some root => have := d'.sub j root hl; rw [d.gone j hj] at this; cases this
    · exact d'.gone j hj⟩
theorem Drop.del (I : Inv c h G w B X sl vs) (j : Nat) : Drop c h G w B X sl vs (TM.del h j) [j] := by
  have hg : look (TM.del h j) j = none := by rw [look_del, if_pos rfl]
  have hsub : ∀ i root, look (TM.del h j) i = some root → look h i = some root := fun i root hi => by
    rw [look_del] at hi
    split at hi
    · cases hi
    · exact hi
  cases hl : look h j with
  | none =>
    have he : ∀ i, look (TM.del h j) i = look h i := fun i => by
      rw [look_del]
      split
      · rename_i e; rw [← e, hl]
      · rfl
    refine ⟨I.congr he I.slots, ?_, hsub, fun i hi => by simp only [List.mem_singleton] at hi; subst hi; exact hg⟩
    rw [NN_congr he]; exact Pres.refl _ _ _
  | some root =>
    obtain ⟨i1, p1⟩ := I.del j hl
    obtain ⟨i2, p2⟩ := i1.less X (fun b hb => .inl hb)
    exact ⟨i2, p1.trans p2, hsub, fun i hi => by simp only [List.mem_singleton] at hi; subst hi; exact hg⟩
theorem dropL_out (I : Inv c h G w B X sl vs) {v : AV} {f : HM α} (hr : (dropL v f).run nid h K = some r) : ∃ h', f.run nid h' K = some r ∧ Drop c h G w B X sl vs h' (rootOf v).toList := by
  unfold dropL at hr
  split at hr
  · exact ⟨_, hr, Drop.del I _⟩
  · exact ⟨_, hr, Drop.del I _⟩
  · exact ⟨_, hr, Drop.del I _⟩
  · rename_i n1 n2 n3
    refine ⟨h, hr, ?_⟩
    have : (rootOf v).toList = [] := by
      cases v <;> first | rfl | skip
      · exact (n1 _ rfl).elim
      · exact (n2 _ _ _ rfl).elim
      · exact (n3 _ _ _ _ rfl).elim
    rw [this]
    exact Drop.refl I
theorem dropI_out : ∀ (k : IK) {h : List (Nat × Root)} {avs : List AV} {f : List AV → HM α} (I : Inv c h G w B X sl vs), (dropI k avs f).run nid h K = some r → ∃ h', (f (avs.drop k.size)).run nid h' K = some r ∧ Drop c h G w B X sl vs h' (roRoots k avs)
  | .int _, h, avs, f, I, hr => by cases avs <;> first | (simp [dropI, HM.run] at hr; done) | exact ⟨h, hr, Drop.refl I⟩
  | .bool, h, avs, f, I, hr => by cases avs <;> first | (simp [dropI, HM.run] at hr; done) | exact ⟨h, hr, Drop.refl I⟩
  | .str, h, avs, f, I, hr => by cases avs <;> first | (simp [dropI, HM.run] at hr; done) | exact ⟨h, hr, Drop.refl I⟩
  | .own _, h, avs, f, I, hr => by cases avs <;> first | (simp [dropI, HM.run] at hr; done) | exact ⟨h, hr, Drop.refl I⟩
  | .ro _, h, avs, f, I, hr => by
    cases avs with
    | nil => simp [dropI, HM.run] at hr
    | cons a rest => exact dropL_out I hr
  | .pair a b, h, avs, f, I, hr => by
    simp only [dropI] at hr
    obtain ⟨h1, e1, d1⟩ := dropI_out a I hr
    obtain ⟨h2, e2, d2⟩ := dropI_out b d1.inv e1
    rw [List.drop_drop] at e2
    exact ⟨h2, e2, d1.trans d2⟩
theorem nilR_out {β : Type} {y : β} {f : β → HM α} {l : List AV} (hr : (nilR y f l).run nid h K = some r) : l = [] ∧ (f y).run nid h K = some r := by
  cases l with
  | nil => exact ⟨rfl, hr⟩
  | cons _ _ => simp [nilR, HM.run] at hr
def roV (h : List (Nat × Root)) : VK → AV → List Nat
  | .c ik true, .agg cs => roRoots ik cs
  | .c ik false, x => roRoots ik [x]
  | .box ik, .box q 0 => match look h q with
    | some (.box cs) => roRoots ik cs
    | _ => []
  | .peek k, .box q 0 => match look h q with
    | some (.box cs) => q :: roRoots (toRo k) cs
    | _ => []
  | _, _ => []
theorem impR_out : ∀ (k : TM.K) {avs : List AV} {vals : List Value} {f : k.T → List AV → HM α} (I : Inv c h G w B X sl vs), (impR k avs f).run nid h K = some r → AVRs G w (NN c h B X) avs vals →
    ∃ x c1 c2 rs, vals = c1 ++ c2 ∧ (f x (avs.drop (toRo k).size)).run nid h K = some r ∧ RO k w rs x c1 ∧ (∀ b, b ∈ rs → b < w.heap.size ∧ (¬ NN c h B X b ∨ ∃ j, j ∈ roRoots (toRo k) avs ∧ b ∈ B j)) ∧ AVRs G w (NN c h B X) (avs.drop (toRo k).size) c2
  | .int k, avs, vals, f, I, hr, ha => by
    cases avs with
    | nil => simp [impR, HM.run] at hr
    | cons a rest =>
      cases a with
      | int k' x =>
        simp only [impR] at hr
        obtain ⟨hk, hr⟩ := bif_run hr
        simp only [decide_eq_true_eq] at hk
        cases vals with
        | nil => simp only [AVRs] at ha
        | cons v vals =>
          simp only [AVRs, AVR] at ha
          exact ⟨x, [v], vals, [], rfl, hr, by simp only [RO]; rw [ha.1, hk], fun b hb => (by cases hb), ha.2⟩
      | _ => simp [impR, HM.run] at hr
  | .bool, avs, vals, f, I, hr, ha => by
    cases avs with
    | nil => simp [impR, HM.run] at hr
    | cons a rest =>
      cases a with
      | bool x =>
        simp only [impR] at hr
        cases vals with
        | nil => simp only [AVRs] at ha
        | cons v vals =>
          simp only [AVRs, AVR] at ha
          exact ⟨x, [v], vals, [], rfl, hr, by simp only [RO]; rw [ha.1], fun b hb => (by cases hb), ha.2⟩
      | _ => simp [impR, HM.run] at hr
  | .str, avs, vals, f, I, hr, ha => by
    cases avs with
    | nil => simp [impR, HM.run] at hr
    | cons a rest =>
      cases a with
      | str x =>
        simp only [impR] at hr
        cases vals with
        | nil => simp only [AVRs] at ha
        | cons v vals =>
          simp only [AVRs, AVR] at ha
          exact ⟨x, [v], vals, [], rfl, hr, by simp only [RO]; rw [ha.1], fun b hb => (by cases hb), ha.2⟩
      | _ => simp [impR, HM.run] at hr
  | .list k, avs, vals, f, I, hr, ha => by
    cases avs with
    | nil => simp [impR, HM.run] at hr
    | cons a rest =>
      simp only [impR] at hr
      cases vals with
      | nil => simp only [AVRs] at ha
      | cons v vals =>
        simp only [AVRs] at ha
        obtain ⟨xs, rs, e1, e2, e3⟩ := listR_out I hr ha.1
        exact ⟨xs, [v], vals, rs, rfl, e1, e2, fun b hb => ⟨(e3 b hb).1, (e3 b hb).2.imp id (fun ⟨j, root, h1, _, h3⟩ => ⟨j, by simp [toRo, roRoots, h1], h3⟩)⟩, ha.2⟩
  | .pair a b, avs, vals, f, I, hr, ha => by
    simp only [impR] at hr
    obtain ⟨x, c1, c2, r1, rfl, e1, e2, e3, e4⟩ := impR_out a I hr ha
    obtain ⟨y, c3, c4, r2, rfl, f1, f2, f3, f4⟩ := impR_out b I e1 e4
    rw [List.drop_drop] at f1 f4
    refine ⟨(x, y), c1 ++ c3, c4, r1 ++ r2, by simp, f1, ?_, fun q hq => ?_, f4⟩
    · simp only [RO]
      exact ⟨c1, c3, rfl, e2.mono (fun _ hb => List.mem_append_left _ hb), f2.mono (fun _ hb => List.mem_append_right _ hb)⟩
    · simp only [toRo, roRoots]
      rcases List.mem_append.1 hq with hq | hq
      · exact ⟨(e3 q hq).1, (e3 q hq).2.imp id (fun ⟨j, hj, hb⟩ => ⟨j, List.mem_append_left _ hj, hb⟩)⟩
      · exact ⟨(f3 q hq).1, (f3 q hq).2.imp id (fun ⟨j, hj, hb⟩ => ⟨j, List.mem_append_right _ hj, hb⟩)⟩
  | .arr n k, avs, vals, f, I, hr, ha => by simp [impR, HM.run] at hr
theorem impV_out (v : VK) (I : Inv c h G w B X sl vs) {a : AV} {val : Value} {f : v.T → HM α} (hr : (impV v a f).run nid h K = some r) (ha : AVR G w (NN c h B X) a val) :
    ∃ x h' bs, (f x).run nid h' K = some r ∧ VR v w (Lent c h' w B (fun b => X b ∨ b ∈ bs) (roV h v a)) bs x val ∧ Limbo c h G w B X sl vs h' bs := by
  cases v with
  | c ik agg =>
    cases agg with
    | true =>
      cases a <;> first | (simp [impV, HM.run] at hr; done) | skip
      rename_i cs
      simp only [impV] at hr
      simp only [AVR] at ha
      obtain ⟨arr, rfl, h1, h2⟩ := ha
      obtain ⟨x, h', bs, c1, c2, e0, e1, e2, e3, e4⟩ := impI_out ik I hr h2
      obtain ⟨e5, e6⟩ := nilR_out e1
      rw [e5] at e4
      have := e4.length
      simp only [List.length_nil] at this
      have hc2 : c2 = [] := List.eq_nil_of_length_eq_zero this.symm
      subst hc2
      rw [List.append_nil] at e0
      subst e0
      exact ⟨x, h', bs, e6, by simp only [VR]; exact ⟨arr, rfl, e2⟩, e3⟩
    | false =>
      have hr' : (impI ik [a] fun y r => nilR y f r).run nid h K = some r := hr
      obtain ⟨x, h', bs, c1, c2, e0, e1, e2, e3, e4⟩ := impI_out ik I hr' (vals := [val]) (by simp only [AVRs]; exact ⟨ha, trivial⟩)
      obtain ⟨e5, e6⟩ := nilR_out e1
      rw [e5] at e4
      have := e4.length
      simp only [List.length_nil] at this
      have hc2 : c2 = [] := List.eq_nil_of_length_eq_zero this.symm
      subst hc2
      rw [List.append_nil] at e0
      subst e0
      exact ⟨x, h', bs, e6, by simp only [VR]; exact e2, e3⟩
  | box ik =>
    cases a <;> first | (simp [impV, HM.run] at hr; done) | skip
    rename_i q off
    cases off with
    | succ _ => simp [impV, HM.run] at hr
    | zero =>
      simp only [impV] at hr
      obtain ⟨root, hlook, hr⟩ := get_run hr
      cases root with
      | list => cases hr
      | arr => cases hr
      | box cs =>
        simp only [HM.run] at hr
        obtain ⟨hd, hroot⟩ := I.root q _ hlook
        simp only [RootR] at hroot
        obtain ⟨g, cur, ty, g1, g2, g3, g4, g5⟩ := hroot
        simp only [AVR] at ha
        obtain ⟨_, g', hL, rfl⟩ := ha
        rw [g1] at hL
        injection hL with hL; injection hL with hL; injection hL with hL; subst hL
        have l1 := Limbo.of_del I hlook (bs := [g]) (by simp) (fun b hb => by rw [g2]; exact hb)
        obtain ⟨x, h', bs, c1, c2, e0, e1, e2, e3, e4⟩ := impI_out ik l1.inv hr (l1.avrs g5)
        obtain ⟨e5, e6⟩ := nilR_out e1
        rw [e5] at e4
        have := e4.length
        simp only [List.length_nil] at this
        have hc2 : c2 = [] := List.eq_nil_of_length_eq_zero this.symm
        subst hc2
        rw [List.append_nil] at e0
        subst e0
        have he : (fun b => (X b ∨ b ∈ [g]) ∨ b ∈ bs) = fun b => X b ∨ b ∈ [g] ++ bs := by funext b; simp [or_assoc]
        rw [he] at e2
        refine ⟨x, h', [g] ++ bs, e6, ?_, l1.trans e3⟩
        simp only [VR, roV, hlook]
        exact ⟨g, cur, ty, bs, rfl, g3, rfl, e2⟩
  | arr n k =>
    cases a <;> first | (simp [impV, HM.run] at hr; done) | skip
    rename_i n' k' xs
    simp only [impV] at hr
    split at hr
    · rename_i hk
      subst hk
      obtain ⟨hn, hr2⟩ := bif_run hr
      clear hr
      have hn := Nat.eq_of_beq_eq_true hn
      subst hn
      simp only [AVR] at ha
      obtain ⟨rs, arr, rfl, h1, h2⟩ := ha
      have l := Limbo.refl I
      exact ⟨xs, h, [], hr2, by simp only [VR]; exact ⟨trivial, arr, rs, rfl, h1, fun b hb => ⟨(h2 b hb).2, .inl (fun hn => (h2 b hb).1 (l.pres.av b (h2 b hb).2 hn))⟩⟩, l⟩
    · cases hr
  | abox n k =>
    cases a <;> first | (simp [impV, HM.run] at hr; done) | skip
    rename_i q off
    cases off with
    | succ _ => simp [impV, HM.run] at hr
    | zero =>
      simp only [impV] at hr
      obtain ⟨root, hlook, hr⟩ := get_run hr
      cases root with
      | list => cases hr
      | box => cases hr
      | arr n' k' xs =>
        simp only at hr
        split at hr
        · rename_i hk
          subst hk
          obtain ⟨hn, hr2⟩ := bif_run hr
          clear hr
          have hn := Nat.eq_of_beq_eq_true hn
          subst hn
          simp only [HM.run] at hr2
          obtain ⟨hd, hroot⟩ := I.root q _ hlook
          simp only [RootR] at hroot
          obtain ⟨g0, hf, g, cur, ty, g1, g2, g3, g4⟩ := hroot
          simp only [AVR] at ha
          obtain ⟨_, g', hL, rfl⟩ := ha
          rw [g1] at hL
          injection hL with hL; injection hL with hL; injection hL with hL; subst hL
          exact ⟨xs, _, [g], hr2, by simp only [VR]; exact ⟨g, cur, ty, rfl, g3, rfl, hf, g4⟩, Limbo.of_del I hlook (by simp) (fun b hb => by rw [g2]; exact hb)⟩
        · cases hr
  | peek k =>
    have hX : (fun b => X b ∨ b ∈ ([] : List Nat)) = X := by funext b; simp
    cases a <;> first | (simp [impV, HM.run] at hr; done) | skip
    · rename_i q off
      cases off with
      | succ _ => simp [impV, HM.run] at hr
      | zero =>
        simp only [impV] at hr
        obtain ⟨root, hlook, hr⟩ := get_run hr
        cases root with
        | list => cases hr
        | arr => cases hr
        | box cs =>
          obtain ⟨hd, hroot⟩ := I.root q _ hlook
          simp only [RootR] at hroot
          obtain ⟨g, cur, ty, g1, g2, g3, g4, g5⟩ := hroot
          simp only [AVR] at ha
          obtain ⟨_, g', hL, rfl⟩ := ha
          rw [g1] at hL
          injection hL with hL; injection hL with hL; injection hL with hL; subst hL
          obtain ⟨x, c1, c2, rs, e0, e1, e2, e3, e4⟩ := impR_out k I hr g5
          obtain ⟨e5, e6⟩ := nilR_out e1
          rw [e5] at e4
          have := e4.length
          simp only [List.length_nil] at this
          have hc2 : c2 = [] := List.eq_nil_of_length_eq_zero this.symm
          subst hc2
          rw [List.append_nil] at e0
          refine ⟨x, h, [], e6, ?_, Limbo.refl I⟩
          simp only [VR, roV, hlook, hX]
          have hz : ∀ o, (⟨g, 0, none⟩ : Addr).add o = ⟨g, o, none⟩ := fun o => by rw [add_plain]
          refine ⟨trivial, g :: rs, ⟨g, 0, none⟩, c1, by rw [hz], e2.mono (fun _ hb => List.mem_cons_of_mem _ hb), fun o u hu => ?_, List.mem_cons_self, fun b hb => ?_⟩
          · rw [hz]
            rw [← e0] at hu
            simp only [World.cell?, g3]
            simpa using hu
          · rcases List.mem_cons.1 hb with rfl | hb
            · have hgB : b ∈ B q := by rw [g2]; exact List.mem_singleton.2 rfl
              exact ⟨(I.own q _ hlook b hgB).1, .inr ⟨q, List.mem_cons_self, hgB⟩⟩
            · exact ⟨(e3 b hb).1, (e3 b hb).2.imp id (fun ⟨j, hj, hbj⟩ => ⟨j, List.mem_cons_of_mem _ hj, hbj⟩)⟩
    · rename_i k' e off
      cases off with
      | succ _ => simp [impV, HM.run] at hr
      | zero =>
        simp only [impV] at hr
        split at hr
        · rename_i hk
          subst hk
          simp only [AVR] at ha
          obtain ⟨rs, ad, cs, h1, h2, h3, h4, rfl⟩ := ha
          refine ⟨e, h, [], hr, ?_, Limbo.refl I⟩
          simp only [VR, hX]
          exact ⟨trivial, rs, ad, cs, rfl, h1, h4, h3, fun b hb => ⟨(h2 b hb).2, .inl (h2 b hb).1⟩⟩
        · cases hr
end
end Go.TM

/- Lists that a call writes in place. -/
set_option linter.unusedVariables false
set_option linter.unusedSimpArgs false
namespace Go.TM
open Go
def idsM : IK → List AV → List Nat
  | .own _, v :: _ => (rootOf v).toList
  | .pair a b, vs => idsM a vs ++ idsM b (vs.drop a.size)
  | _, _ => []
structure Saved (h0 h : List (Nat × Root)) (sv : List (Nat × Root)) : Prop where
  a : ∀ j root, look sv j = some root → look h0 j = some root
  b : ∀ j root, look sv j = some root → look h j = none
theorem own_det {k : K} (hf : k.flat = true) {w w' : World} {bs bs' : List Nat} {x y : List k.T} {v : Value} (h : Own (.list k) w bs x [v]) (h' : Own (.list k) w' bs' y [v]) : bs = bs' := by
  have key : ∀ {w : World} {bs : List Nat} {x : List k.T} {v : Value}, Own (.list k) w bs x [v] → bs = (blockOf v).toList := by
    intro w bs x v h
    simp only [Own] at h
    obtain ⟨v', e1, e2⟩ := h
    injection e1 with e1
    subst e1
    rcases e2 with ⟨rfl, _, rfl⟩ | ⟨g, cap, cur, ty, fr, bss, rfl, _, _, _, _, _, rfl, h8, h9⟩
    · rfl
    · have : bss.flatten = [] := by
        apply List.eq_nil_iff_forall_not_mem.2
        intro b hb
        obtain ⟨l, hl, hbl⟩ := List.mem_flatten.1 hb
        obtain ⟨j, hj, rfl⟩ := List.mem_iff_getElem.1 hl
        obtain ⟨b', hb', ho⟩ := h9 j (by omega)
        rw [List.getElem?_eq_getElem hj] at hb'
        injection hb' with hb'
        rw [hb', own_flat hf ho] at hbl
        cases hbl
      simp [blockOf, this]
  rw [key h, key h']
theorem own_inner : ∀ (k' : K) (e : k'.T) (off : Nat) (k : K) {y : List k.T} {e' : k'.T} {x : List k.T} {b bs' : List Nat} {cs : List Value} {v : Value} {w w' : World}, k.flat = true → getList k' e off k = some x → setList k' e off k y = some e' → Own k' w b e cs → b.Nodup → cs[off]? = some v → Own (.list k) w' bs' y [v] → (∀ q, q ∈ b → ¬ q ∈ bs' → w'.heap[q]? = w.heap[q]?) → Own k' w' b e' cs ∧ ∀ q, q ∈ bs' → q ∈ b
  | .list k', e, 0, k, y, e', x, b, bs', cs, v, w, w', hf, hg, hs, ho, hn, hv, hy, hu => by
    simp only [setList] at hs
    split at hs
    · rename_i hk
      subst hk
      injection hs with hs
      subst hs
      have hl := ho.len
      match cs, hl with
      | [v'], _ =>
        simp only [List.getElem?_cons_zero, Option.some.injEq] at hv
        subst hv
        have := own_det hf ho hy
        subst this
        exact ⟨hy, fun _ h => h⟩
    · cases hs
  | .list _, _, _ + 1, _, _, _, _, _, _, _, _, _, _, _, hg, _, _, _, _, _, _ => by simp [getList] at hg
  | .int _, _, _, _, _, _, _, _, _, _, _, _, _, _, hg, _, _, _, _, _, _ => by simp [getList] at hg
  | .bool, _, _, _, _, _, _, _, _, _, _, _, _, _, hg, _, _, _, _, _, _ => by simp [getList] at hg
  | .str, _, _, _, _, _, _, _, _, _, _, _, _, _, hg, _, _, _, _, _, _ => by simp [getList] at hg
  | .arr _ _, _, _, _, _, _, _, _, _, _, _, _, _, _, hg, _, _, _, _, _, _ => by simp [getList] at hg
  | .pair a b', e, off, k, y, e', x, b, bs', cs, v, w, w', hf, hg, hs, ho, hn, hv, hy, hu => by
    simp only [Own] at ho
    obtain ⟨b1, b2, c1, c2, rfl, rfl, h1, h2⟩ := ho
    simp only [getList] at hg
    simp only [setList] at hs
    have hl := h1.len
    rw [List.nodup_append] at hn
    obtain ⟨hn1, hn2, hn3⟩ := hn
    cases hb : Nat.blt off a.size with
    | true =>
      rw [hb] at hg hs
      simp only [cond_true] at hg hs
      rw [Nat.blt_eq] at hb
      split at hs
      · rename_i z hz
        injection hs with hs
        subst hs
        rw [List.getElem?_append_left (by omega)] at hv
        obtain ⟨r1, r2⟩ := own_inner a e.1 off k hf hg hz h1 hn1 hv hy (fun q hq hq' => hu q (List.mem_append_left _ hq) hq')
        simp only [Own]
        exact ⟨⟨b1, b2, c1, c2, rfl, rfl, r1, h2.move (fun q hq => hu q (List.mem_append_right _ hq) (fun hq' => hn3 q (r2 q hq') q hq rfl))⟩, fun q hq => List.mem_append_left _ (r2 q hq)⟩
      · cases hs
    | false =>
      rw [hb] at hg hs
      simp only [cond_false] at hg hs
      have hge := blt_false hb
      split at hs
      · rename_i z hz
        injection hs with hs
        subst hs
        rw [List.getElem?_append_right (by omega), hl] at hv
        obtain ⟨r1, r2⟩ := own_inner b' e.2 (off - a.size) k hf hg hz h2 hn2 hv hy (fun q hq hq' => hu q (List.mem_append_right _ hq) hq')
        simp only [Own]
        exact ⟨⟨b1, b2, c1, c2, rfl, rfl, h1.move (fun q hq => hu q (List.mem_append_left _ hq) (fun hq' => hn3 q hq q (r2 q hq') rfl)), r1⟩, fun q hq => List.mem_append_right _ (r2 q hq)⟩
      · cases hs
theorem own_el_change {k : K} {w w' : World} {bs bs' : List Nat} {xs : List k.T} {v : Value} (h : Own (.list k) w bs xs [v]) (hn : bs.Nodup) {i : Nat} {e e' : k.T} (he : xs[i]? = some e)
    (hch : ∀ (b : List Nat) (cs : List Value) (g : Nat), blockOf v = some g → (∀ o u, cs[o]? = some u → w.cell? ⟨g, i * k.size + o, none⟩ = some u) → Own k w b e cs → b.Nodup → (∀ q, q ∈ b → q ∈ bs) → Own k w' b e' cs ∧ ∀ q, q ∈ bs' → q ∈ b) (hu : ∀ q, q ∈ bs → ¬ q ∈ bs' → w'.heap[q]? = w.heap[q]?) :
    Own (.list k) w' bs (xs.set i e') [v] ∧ (∀ q, q ∈ bs' → q ∈ bs) ∧ ∀ g, blockOf v = some g → w'.heap[g]? = w.heap[g]? := by
  simp only [Own] at h
  obtain ⟨v', h1, h2⟩ := h
  injection h1 with h1
  subst h1
  obtain ⟨hi, rfl⟩ := List.getElem?_eq_some_iff.1 he
  rcases h2 with ⟨rfl, rfl, _⟩ | ⟨g, cap, cur, ty, fr, bss, rfl, e2, e3, e4, e5, e6, e7, e8, e9⟩
  · simp at hi
  · obtain ⟨b, hb, ho⟩ := e9 i hi
    subst e7
    obtain ⟨hn1, hn2⟩ := List.nodup_cons.1 hn
    have hmem : ∀ (q : Nat) (l : List Nat), l ∈ bss → q ∈ l → q ∈ bss.flatten := fun q l hl hq => List.mem_flatten.2 ⟨l, hl, hq⟩
    have hbm := List.mem_of_getElem? hb
    have hbn : b.Nodup := (List.pairwise_flatten.1 hn2).1 b hbm
    obtain ⟨r1, r2⟩ := hch b _ g rfl (fun o u hu => by
      have := take_get _ _ _ _ _ hu
      simp only [World.cell?, e2]
      simpa using this) ho hbn (fun q hq => List.mem_cons_of_mem _ (hmem q b hbm hq))
    have hg : w'.heap[g]? = w.heap[g]? := hu g List.mem_cons_self (fun hg' => hn1 (hmem g b hbm (r2 g hg')))
    refine ⟨?_, fun q hq => List.mem_cons_of_mem _ (hmem q b hbm (r2 q hq)), fun g' hg' => ?_⟩
    · simp only [Own]
      refine ⟨_, rfl, .inr ⟨g, cap, cur, ty, fr, bss, by rw [List.length_set], hg.trans e2, e3, by rw [List.length_set]; exact e4, e5, e6, rfl, by rw [List.length_set]; exact e8, fun j hj => ?_⟩⟩
      rw [List.length_set] at hj
      by_cases hij : i = j
      · subst hij
        exact ⟨b, hb, by rw [List.getElem_set_self]; exact r1⟩
      · obtain ⟨bj, hbj, hoj⟩ := e9 j hj
        refine ⟨bj, hbj, ?_⟩
        rw [List.getElem_set_ne hij]
        refine hoj.move (fun q hq => hu q (List.mem_cons_of_mem _ (hmem q bj (List.mem_of_getElem? hbj) hq)) (fun hq' => ?_))
        have hq'' := r2 q hq'
        have hpw := (List.pairwise_flatten.1 hn2).2
        obtain ⟨hil, hbi⟩ := List.getElem?_eq_some_iff.1 hb
        obtain ⟨hjl, hbj'⟩ := List.getElem?_eq_some_iff.1 hbj
        rcases Nat.lt_or_gt_of_ne hij with hlt | hgt
        · have := List.pairwise_iff_getElem.1 hpw i j hil hjl hlt q (by rw [hbi]; exact hq'') q (by rw [hbj']; exact hq)
          exact this rfl
        · have := List.pairwise_iff_getElem.1 hpw j i hjl hil hgt q (by rw [hbj']; exact hq) q (by rw [hbi]; exact hq'')
          exact this rfl
    · simp only [blockOf, Option.some.injEq] at hg'
      subst hg'
      exact hg
end Go.TM

/- Parameters: in and out. -/
set_option linter.unusedVariables false
set_option linter.unusedSimpArgs false
namespace Go.TM
open Go
def MR (B : Nat → List Nat) : (k : IK) → World → List AV → List Nat → k.T → List Value → Prop
  | .int k, _, _, bs, x, cs => bs = [] ∧ cs = [.int k x]
  | .bool, _, _, bs, x, cs => bs = [] ∧ cs = [.bool x]
  | .str, _, _, bs, x, cs => bs = [] ∧ cs = [.string x]
  | .own k, w, avs, bs, x, cs => k.flat = true ∧ (∃ u, cs = [u] ∧ Own (.list k) w bs x [u]) ∧ ∀ b, b ∈ bs → b ∈ (idsM (.own k) avs).flatMap B
  | .pair a b, w, avs, bs, x, cs => ∃ b1 b2 c1 c2, bs = b1 ++ b2 ∧ cs = c1 ++ c2 ∧ MR B a w avs b1 x.1 c1 ∧ MR B b w (avs.drop a.size) b2 x.2 c2
  | .ro _, _, _, _, _, _ => False
section
variable {P : Program} {E : Env} {c : Ctx} {h : List (Nat × Root)} {G : Ge} {w : World} {B : Nat → List Nat} {X : Nat → Prop} {sl : Nat → AV} {vs : Nat → Value} {ρ α : Type} {K : α → List (Nat × Root) → Nat → Option ρ} {r : ρ} {nid : Nat}
theorem listM_out (I : Inv c h G w B X sl vs) {h0 sv : List (Nat × Root)} (S : Saved h0 h sv) (hsub : ∀ j root, look h j = some root → look h0 j = some root) {v : AV} {val : Value} {k : TM.K} {f : List k.T → List (Nat × Root) → HM α} (hr : (listM v k sv f).run nid h K = some r) (ha : AVR G w (NN c h B X) v val) :
    k.flat = true ∧ ∃ xs h' sv' bs, (f xs sv').run nid h' K = some r ∧ Own (.list k) w bs xs [val] ∧ (∀ b, b ∈ bs → b ∈ (rootOf v).toList.flatMap B) ∧ bs.Nodup ∧ Limbo c h G w B X sl vs h' ((rootOf v).toList.flatMap B) ∧ Saved h0 h' sv' ∧ (∀ j root, look sv j = some root → look sv' j = some root) ∧ ∀ j, j ∈ (rootOf v).toList → ∃ root, look h j = some root ∧ look sv' j = some root := by
  unfold listM at hr
  have hq := bif_run hr
  clear hr
  obtain ⟨hf, hr⟩ := hq
  refine ⟨hf, ?_⟩
  have step : ∀ (j : Nat) (root : Root), look h j = some root → Saved h0 (TM.del h j) ((j, root) :: sv) ∧ (∀ i root', look sv i = some root' → look ((j, root) :: sv) i = some root') ∧ Limbo c h G w B X sl vs (TM.del h j) ([j].flatMap B) ∧ ∀ i, i ∈ [j] → ∃ root', look h i = some root' ∧ look ((j, root) :: sv) i = some root' := by
    intro j root hj
    have hk : ∀ i root', look sv i = some root' → look ((j, root) :: sv) i = some root' := fun i root' hi => by
      rw [look_cons]
      split
      · rename_i e
        subst e
        have := S.b _ _ hi
        rw [hj] at this
        cases this
      · exact hi
    refine ⟨⟨fun i root' hi => ?_, fun i root' hi => ?_⟩, hk, ?_, fun i hi => ?_⟩
    · rw [look_cons] at hi
      split at hi
      · rename_i e
        subst e
        injection hi with hi
        subst hi
        exact hsub _ _ hj
      · exact S.a _ _ hi
    · rw [look_cons] at hi
      rw [look_del]
      split at hi
      · rename_i e; rw [if_pos e]
      · rename_i e; rw [if_neg e]; exact S.b _ _ hi
    · simpa using Limbo.of_del I hj (I.nodup j _ hj) (fun _ h => h)
    · simp only [List.mem_singleton] at hi
      subst hi
      exact ⟨root, hj, by rw [look_cons, if_pos rfl]⟩
  unfold listM' at hr
  split at hr
  · simp only [AVR] at ha
    subst ha
    exact ⟨[], h, sv, [], hr, by simp [Own], fun b hb => (List.not_mem_nil hb).elim, List.nodup_nil, by simpa [rootOf] using Limbo.refl I, S, fun _ _ h => h, fun j hj => by simp [rootOf] at hj⟩
  · rename_i j
    obtain ⟨root, hlook, hr⟩ := get_run hr
    cases root with
    | box => cases hr
    | arr => cases hr
    | list gen k' xs =>
      simp only at hr
      split at hr
      · rename_i hk
        subst hk
        obtain ⟨hd, hroot⟩ := I.root j _ hlook
        simp only [RootR] at hroot
        simp only [AVR] at ha
        obtain ⟨_, rfl, _⟩ := ha
        obtain ⟨s1, s2, s3, s4⟩ := step j _ hlook
        exact ⟨xs, _, _, B j, hr, hroot.2.1, fun b hb => by simpa [rootOf] using hb, I.nodup j _ hlook, s3, s1, s2, s4⟩
      · cases hr
  · rename_i j g i off
    obtain ⟨root, hlook, hr⟩ := get_run hr
    cases root with
    | box => cases hr
    | arr => cases hr
    | list gen k' xs =>
      obtain ⟨hg, hr⟩ := bif_run hr
      have hg := Nat.eq_of_beq_eq_true hg
      obtain ⟨x, hx, hr⟩ := lift_run hr
      split at hr
      · rename_i ys hys
        obtain ⟨h0', hx⟩ := idx_some hx
        obtain ⟨hd, hroot⟩ := I.root j _ hlook
        simp only [RootR] at hroot
        obtain ⟨hk, hown, hhd, hgen⟩ := hroot
        obtain ⟨blk, cs, b, e1, e2, e3, e4, e5⟩ := own_elem hown hx
        obtain ⟨v, b', f1, f2, f3, f4⟩ := getList_out k' x off k hys e3
        have := e5 _ _ f1
        rw [hhd blk e1 i.toNat (List.getElem?_eq_some_iff.1 hx).1 off f2] at this
        injection this with this
        simp only [AVR] at ha
        obtain ⟨_, rfl, _⟩ := ha
        obtain ⟨s1, s2, s3, s4⟩ := step j _ hlook
        rw [hg, hk, this]
        refine ⟨ys, _, _, b', hr, f3, fun q hq => by simpa [rootOf] using e4 _ (f4 _ hq), ?_, s3, s1, s2, s4⟩
        have := own_det hf f3 f3
        simp only [Own] at f3
        obtain ⟨v', g1, g2⟩ := f3
        rcases g2 with ⟨_, _, rfl⟩ | ⟨g', cap, cur, ty, fr, bss, _, _, _, _, _, _, rfl, h8, h9⟩
        · exact List.nodup_nil
        · have : bss.flatten = [] := by
            apply List.eq_nil_iff_forall_not_mem.2
            intro b hb
            obtain ⟨l, hl, hbl⟩ := List.mem_flatten.1 hb
            obtain ⟨j, hj, rfl⟩ := List.mem_iff_getElem.1 hl
            obtain ⟨b', hb', ho⟩ := h9 j (by omega)
            rw [List.getElem?_eq_getElem hj] at hb'
            injection hb' with hb'
            rw [hb', own_flat hf ho] at hbl
            cases hbl
          rw [this]
          simp
      · cases hr
  · cases hr
theorem impM_out : ∀ (k : IK) {h : List (Nat × Root)} {X : Nat → Prop} {avs : List AV} {vals : List Value} {sv : List (Nat × Root)} {f : k.T → List AV → List (Nat × Root) → HM α} (I : Inv c h G w B X sl vs) {h0 : List (Nat × Root)} (S : Saved h0 h sv) (hsub : ∀ j root, look h j = some root → look h0 j = some root), (impM k avs sv f).run nid h K = some r → AVRs G w (NN c h B X) avs vals →
    ∃ x h' sv' bs c1 c2, vals = c1 ++ c2 ∧ (f x (avs.drop k.size) sv').run nid h' K = some r ∧ (∀ A, IR k w A bs x c1) ∧ MR B k w avs bs x c1 ∧ (∀ b, b ∈ bs → b ∈ (idsM k avs).flatMap B) ∧ bs.Nodup ∧ Limbo c h G w B X sl vs h' ((idsM k avs).flatMap B) ∧ AVRs G w (NN c h' B (fun b => X b ∨ b ∈ (idsM k avs).flatMap B)) (avs.drop k.size) c2 ∧ Saved h0 h' sv' ∧ (∀ j root, look sv j = some root → look sv' j = some root) ∧ (idsM k avs).Nodup ∧ ∀ j, j ∈ idsM k avs → ∃ root, look h j = some root ∧ look sv' j = some root
  | .int k, h, X, avs, vals, sv, f, I, h0, S, hsub, hr, ha => by
    cases avs with
    | nil => simp [impM, HM.run] at hr
    | cons a rest =>
      cases a with
      | int k' x =>
        simp only [impM] at hr
        obtain ⟨hk, hr⟩ := bif_run hr
        simp only [decide_eq_true_eq] at hk
        cases vals with
        | nil => simp only [AVRs] at ha
        | cons v vals =>
          simp only [AVRs, AVR] at ha
          exact ⟨x, h, sv, [], [v], vals, rfl, hr, fun A => by simp only [IR]; exact ⟨trivial, by rw [ha.1, hk]⟩, by simp only [MR]; exact ⟨trivial, by rw [ha.1, hk]⟩, fun b hb => (List.not_mem_nil hb).elim, List.nodup_nil, Limbo.refl I, (Limbo.refl I).avrs ha.2, S, fun _ _ h => h, List.nodup_nil, fun j hj => (List.not_mem_nil hj).elim⟩
      | _ => simp [impM, HM.run] at hr
  | .bool, h, X, avs, vals, sv, f, I, h0, S, hsub, hr, ha => by
    cases avs with
    | nil => simp [impM, HM.run] at hr
    | cons a rest =>
      cases a with
      | bool x =>
        simp only [impM] at hr
        cases vals with
        | nil => simp only [AVRs] at ha
        | cons v vals =>
          simp only [AVRs, AVR] at ha
          exact ⟨x, h, sv, [], [v], vals, rfl, hr, fun A => by simp only [IR]; exact ⟨trivial, by rw [ha.1]⟩, by simp only [MR]; exact ⟨trivial, by rw [ha.1]⟩, fun b hb => (List.not_mem_nil hb).elim, List.nodup_nil, Limbo.refl I, (Limbo.refl I).avrs ha.2, S, fun _ _ h => h, List.nodup_nil, fun j hj => (List.not_mem_nil hj).elim⟩
      | _ => simp [impM, HM.run] at hr
  | .str, h, X, avs, vals, sv, f, I, h0, S, hsub, hr, ha => by
    cases avs with
    | nil => simp [impM, HM.run] at hr
    | cons a rest =>
      cases a with
      | str x =>
        simp only [impM] at hr
        cases vals with
        | nil => simp only [AVRs] at ha
        | cons v vals =>
          simp only [AVRs, AVR] at ha
          exact ⟨x, h, sv, [], [v], vals, rfl, hr, fun A => by simp only [IR]; exact ⟨trivial, by rw [ha.1]⟩, by simp only [MR]; exact ⟨trivial, by rw [ha.1]⟩, fun b hb => (List.not_mem_nil hb).elim, List.nodup_nil, Limbo.refl I, (Limbo.refl I).avrs ha.2, S, fun _ _ h => h, List.nodup_nil, fun j hj => (List.not_mem_nil hj).elim⟩
      | _ => simp [impM, HM.run] at hr
  | .ro k, h, X, avs, vals, sv, f, I, h0, S, hsub, hr, ha => by cases avs <;> simp [impM, HM.run] at hr
  | .own k, h, X, avs, vals, sv, f, I, h0, S, hsub, hr, ha => by
    cases avs with
    | nil => simp [impM, HM.run] at hr
    | cons a rest =>
      simp only [impM] at hr
      cases vals with
      | nil => simp only [AVRs] at ha
      | cons v vals =>
        simp only [AVRs] at ha
        obtain ⟨hf, xs, h', sv', bs, e1, e2, e3, e3', e4, e5, e6, e7⟩ := listM_out I S hsub hr ha.1
        refine ⟨xs, h', sv', bs, [v], vals, rfl, e1, fun A => by simp only [IR]; exact ⟨v, rfl, e2⟩, by simp only [MR]; exact ⟨hf, ⟨v, rfl, e2⟩, e3⟩, e3, e3', e4, e4.avrs ha.2, e5, e6, ?_, e7⟩
        simp only [idsM]
        cases rootOf a <;> simp
  | .pair a b, h, X, avs, vals, sv, f, I, h0, S, hsub, hr, ha => by
    simp only [impM] at hr
    obtain ⟨x, h1, sv1, b1, c1, c2, rfl, e1, e2, e2', e3, e3', e4, e5, e6, e7, e8, e9⟩ := impM_out a I S hsub hr ha
    obtain ⟨y, h2, sv2, b2, c3, c4, rfl, f1, f2, f2', f3, f3', f4, f5, f6, f7, f8, f9⟩ := impM_out b e4.inv e6 (fun j root hj => hsub j root (e4.sub j root hj)) e1 e5
    have he : (fun q => (X q ∨ q ∈ (idsM a avs).flatMap B) ∨ q ∈ (idsM b (avs.drop a.size)).flatMap B) = fun q => X q ∨ q ∈ (idsM (.pair a b) avs).flatMap B := by funext q; simp [idsM, or_assoc, List.flatMap_append]
    rw [List.drop_drop] at f1 f5
    rw [he] at f5
    have hl := e4.trans f4
    rw [← List.flatMap_append] at hl
    refine ⟨(x, y), h2, sv2, b1 ++ b2, c1 ++ c3, c4, by simp, f1, fun A => by simp only [IR]; exact ⟨b1, b2, c1, c3, rfl, rfl, e2 A, f2 A⟩, by simp only [MR]; exact ⟨b1, b2, c1, c3, rfl, rfl, e2', f2'⟩, fun q hq => ?_, ?_, hl, f5, f6, fun j root hj => f7 j root (e7 j root hj), ?_, fun j hj => ?_⟩
    · simp only [idsM, List.flatMap_append]
      rcases List.mem_append.1 hq with hq | hq
      · exact List.mem_append_left _ (e3 q hq)
      · exact List.mem_append_right _ (f3 q hq)
    · rw [List.nodup_append]
      refine ⟨e3', f3', fun q hq q' hq' heq => ?_⟩
      subst heq
      exact f4.fresh q (f3 q hq') (.inr (e3 q hq))
    · simp only [idsM]
      rw [List.nodup_append]
      refine ⟨e8, f8, fun j hj j' hj' heq => ?_⟩
      subst heq
      obtain ⟨root, g1, g2⟩ := e9 j hj
      obtain ⟨root', g3, g4⟩ := f9 j hj'
      rw [e6.b _ _ g2] at g3
      cases g3
    · simp only [idsM] at hj
      rcases List.mem_append.1 hj with hj | hj
      · obtain ⟨root, g1, g2⟩ := e9 j hj
        exact ⟨root, g1, f7 _ _ g2⟩
      · obtain ⟨root, g1, g2⟩ := f9 j hj
        exact ⟨root, e4.sub _ _ g1, g2⟩
end
end Go.TM

/- What comes back. -/
set_option linter.unusedVariables false
set_option linter.unusedSimpArgs false
namespace Go.TM
open Go
theorem setList_get : ∀ (k' : K) (e : k'.T) (off : Nat) (k : K) {y : List k.T} {e' : k'.T}, setList k' e off k y = some e' → ∃ x : List k.T, getList k' e off k = some x
  | .list k', e, 0, k, y, e', h => by
    simp only [setList] at h
    split at h
    · rename_i hk
      subst hk
      exact ⟨e, by simp [getList]⟩
    · cases h
  | .list _, _, _ + 1, _, _, _, h => by simp [setList] at h
  | .int _, _, _, _, _, _, h => by simp [setList] at h
  | .bool, _, _, _, _, _, h => by simp [setList] at h
  | .str, _, _, _, _, _, h => by simp [setList] at h
  | .arr _ _, _, _, _, _, _, h => by simp [setList] at h
  | .pair a b, e, off, k, y, e', h => by
    simp only [setList] at h
    simp only [getList]
    cases hb : Nat.blt off a.size with
    | true =>
      rw [hb] at h
      simp only [cond_true] at h ⊢
      split at h
      · rename_i hz; exact setList_get a _ _ _ hz
      · cases h
    | false =>
      rw [hb] at h
      simp only [cond_false] at h ⊢
      split at h
      · rename_i hz; exact setList_get b _ _ _ hz
      · cases h
structure GeLe (G G' : Ge) : Prop where
  D : ∀ j, G.D j → G'.D j
  L : ∀ j, G.D j → G'.L j = G.L j
  KJ : ∀ j, G.D j → G'.KJ j = G.KJ j
  HD : ∀ j g, G.D j → (g = 0 ∨ G.D g) → G'.HD j g = G.HD j g
theorem GeLe.of {G G' : Ge} {w w' : World} {N N' : Nat → Prop} (p : Pres G w N G' w' N') : GeLe G G' := ⟨p.n, p.L, p.KJ, p.HD⟩
theorem GeLe.trans {G1 G2 G3 : Ge} (a : GeLe G1 G2) (b : GeLe G2 G3) : GeLe G1 G3 :=
  ⟨fun j h => b.D j (a.D j h), fun j h => (b.L j (a.D j h)).trans (a.L j h), fun j h => (b.KJ j (a.D j h)).trans (a.KJ j h), fun j g h hg => (b.HD j g (a.D j h) (hg.imp id (a.D g))).trans (a.HD j g h hg)⟩
section
variable {P : Program} {E : Env} {c : Ctx} {h0 h2 : List (Nat × Root)} {G G2 : Ge} {w w' : World} {B B2 : Nat → List Nat} {X0 X2 : Nat → Prop} {sl : Nat → AV} {vs : Nat → Value} {ρ : Type} {K : AV → List (Nat × Root) → Nat → Option ρ} {r : ρ} {nid : Nat}
theorem backL_out (I0 : Inv c h0 G w B X0 sl vs) (I2 : Inv c h2 G2 w' B2 X2 sl vs) (hG : GeLe G G2) {sv : List (Nat × Root)} (hsv : ∀ j root, look sv j = some root → look h0 j = some root) {v : AV} {val : Value} {N : Nat → Prop} (ha : AVR G w N v val) {k : TM.K} (hf : k.flat = true) {y : List k.T} {bs' : List Nat} (hy : Own (.list k) w' bs' y [val])
    (hu : ∀ b, b ∈ (rootOf v).toList.flatMap B → ¬ b ∈ bs' → w'.heap[b]? = w.heap[b]?) (hX : ∀ b, b ∈ (rootOf v).toList.flatMap B → X2 b) (hn : ∀ j, j ∈ (rootOf v).toList → look h2 j = none)
    {f : HM AV} (hr : (backL v k sv y f).run nid h2 K = some r) :
    ∃ h3 B3, f.run nid h3 K = some r ∧ Inv c h3 G2 w' B3 (fun b => X2 b ∧ ¬ b ∈ (rootOf v).toList.flatMap B) sl vs ∧ Pres G2 w' (NN c h2 B2 X2) G2 w' (NN c h3 B3 (fun b => X2 b ∧ ¬ b ∈ (rootOf v).toList.flatMap B)) ∧ ∀ i, ¬ i ∈ (rootOf v).toList → look h3 i = look h2 i := by
  have add : ∀ (j : Nat) (root root' : Root), look h0 j = some root → rootOf v = some j → (∀ N, RootR G2 w' N (B j) j root') → f.run nid (TM.put h2 j root') K = some r → ∃ h3 B3, f.run nid h3 K = some r ∧ Inv c h3 G2 w' B3 (fun b => X2 b ∧ ¬ b ∈ (rootOf v).toList.flatMap B) sl vs ∧ Pres G2 w' (NN c h2 B2 X2) G2 w' (NN c h3 B3 (fun b => X2 b ∧ ¬ b ∈ (rootOf v).toList.flatMap B)) ∧ ∀ i, ¬ i ∈ (rootOf v).toList → look h3 i = look h2 i := by
    intro j root root' hj hv hroot hrun
    have hl : (rootOf v).toList.flatMap B = B j := by rw [hv]; simp
    rw [hl] at hX ⊢
    obtain ⟨i3, p3⟩ := I2.add (Pres.refl _ _ _) j root' (B j) (TM.put h2 j root') (hn j (by rw [hv]; simp)) (hG.D j (I0.root j root hj).1) (fun i => look_put h2 j root' i) (I0.nodup j root hj) hX (fun N _ => hroot N)
    refine ⟨_, _, hrun, i3, p3, fun i hi => ?_⟩
    rw [look_put, if_neg (fun e => hi (by rw [hv, e]; simp))]
  unfold backL at hr
  split at hr
  · refine ⟨h2, B2, hr, ?_, ?_, fun _ _ => rfl⟩
    · have : (fun b => X2 b ∧ ¬ b ∈ (rootOf AV.nilS).toList.flatMap B) = X2 := by funext b; simp [rootOf]
      rw [this]; exact I2
    · have : (fun b => X2 b ∧ ¬ b ∈ (rootOf AV.nilS).toList.flatMap B) = X2 := by funext b; simp [rootOf]
      rw [this]; exact Pres.refl _ _ _
  · rename_i j
    split at hr
    · rename_i g k' xs hj
      obtain ⟨hk, hr⟩ := bif_run hr
      simp only [decide_eq_true_eq] at hk
      simp only [HM.run] at hr
      have hj0 := hsv _ _ hj
      obtain ⟨hd, hroot⟩ := I0.root j _ hj0
      simp only [RootR] at hroot
      obtain ⟨hkj, hown, _, hgen⟩ := hroot
      simp only [AVR] at ha
      obtain ⟨_, hval, _⟩ := ha
      refine add j _ _ hj0 rfl (fun N => ?_) hr
      simp only [RootR]
      rw [hG.KJ j hd, hG.L j hd]
      refine ⟨hkj.trans hk, ?_, fun blk _ q _ off hoff => (by rw [isL_flat hf] at hoff; cases hoff), hgen.imp id (hG.D g)⟩
      rw [← hval]
      have hown' : Own (.list k) w (B j) (hk ▸ xs) [val] := by subst hk; rw [hval]; exact hown
      rw [own_det hf hown' hy]
      exact hy
    · cases hr
  · rename_i j g0 i off
    split at hr
    · rename_i g k' xs hj
      obtain ⟨hg, hr⟩ := bif_run hr
      have hg := Nat.eq_of_beq_eq_true hg
      obtain ⟨e, he, hr⟩ := lift_run hr
      split at hr
      · rename_i e' hset
        simp only [HM.run] at hr
        obtain ⟨h0', he⟩ := idx_some he
        have hj0 := hsv _ _ hj
        obtain ⟨hd, hroot⟩ := I0.root j _ hj0
        simp only [RootR] at hroot
        obtain ⟨hkj, hown, hhd, hgen⟩ := hroot
        simp only [AVR] at ha
        obtain ⟨_, hval, _⟩ := ha
        obtain ⟨x, hget⟩ := setList_get k' e off k hset
        have hl : (rootOf (AV.nest j g0 i off)).toList.flatMap B = B j := by simp [rootOf]
        rw [hl] at hu
        have hil := (List.getElem?_eq_some_iff.1 he).1
        obtain ⟨r1, r2, r3⟩ := own_el_change (w' := w') (e' := e') (bs' := bs') hown (I0.nodup j _ hj0) he (fun b cs blk hblk hcell hoe hbn hbm => by
          obtain ⟨v', b', f1, f2, f3, f4⟩ := getList_out k' e off k hget hoe
          have h1 := hcell _ _ f1
          rw [hhd blk hblk i.toNat hil off f2] at h1
          injection h1 with h1
          rw [hg, hkj, h1] at hval
          subst hval
          exact own_inner k' e off k hf hget hset hoe hbn f1 hy (fun q hq hq' => hu q (hbm q hq) hq')) hu
        refine add j _ _ hj0 rfl (fun N => ?_) hr
        simp only [RootR]
        rw [hG.KJ j hd, hG.L j hd, hG.HD j g hd hgen]
        refine ⟨hkj, r1, fun blk hblk q hq off' hoff => ?_, hgen.imp id (hG.D g)⟩
        rw [List.length_set] at hq
        exact (cell_of_same (w := w) (r3 blk hblk)).trans (hhd blk hblk q hq off' hoff)
      · cases hr
    · cases hr
  · cases hr
theorem MR.len : ∀ {k : IK} {w : World} {avs : List AV} {bs : List Nat} {x : k.T} {cs : List Value}, MR B k w avs bs x cs → cs.length = k.size
  | .int _, _, _, _, _, _, h => by simp only [MR] at h; rw [h.2]; rfl
  | .bool, _, _, _, _, _, h => by simp only [MR] at h; rw [h.2]; rfl
  | .str, _, _, _, _, _, h => by simp only [MR] at h; rw [h.2]; rfl
  | .ro _, _, _, _, _, _, h => by simp only [MR] at h
  | .own _, _, _, _, _, _, h => by simp only [MR] at h; obtain ⟨_, ⟨v, rfl, _⟩, _⟩ := h; rfl
  | .pair a b, _, _, _, _, _, h => by
    simp only [MR] at h
    obtain ⟨b1, b2, c1, c2, rfl, rfl, h1, h2⟩ := h
    rw [List.length_append, h1.len, h2.len]; rfl
theorem MR.sub : ∀ {k : IK} {w : World} {avs : List AV} {bs : List Nat} {x : k.T} {cs : List Value}, MR B k w avs bs x cs → ∀ b, b ∈ bs → b ∈ (idsM k avs).flatMap B
  | .int _, _, _, _, _, _, h, b, hb => by simp only [MR] at h; rw [h.1] at hb; cases hb
  | .bool, _, _, _, _, _, h, b, hb => by simp only [MR] at h; rw [h.1] at hb; cases hb
  | .str, _, _, _, _, _, h, b, hb => by simp only [MR] at h; rw [h.1] at hb; cases hb
  | .ro _, _, _, _, _, _, h, b, hb => by simp only [MR] at h
  | .own _, _, _, _, _, _, h, b, hb => by simp only [MR] at h; exact h.2.2 b hb
  | .pair a b, _, _, _, _, _, h, q, hq => by
    simp only [MR] at h
    obtain ⟨b1, b2, c1, c2, rfl, rfl, h1, h2⟩ := h
    simp only [idsM, List.flatMap_append]
    rcases List.mem_append.1 hq with hq | hq
    · exact List.mem_append_left _ (h1.sub q hq)
    · exact List.mem_append_right _ (h2.sub q hq)
theorem MR.det : ∀ {k : IK} {w w' : World} {A : Nat → Prop} {avs : List AV} {bs bs' : List Nat} {x y : k.T} {cs : List Value}, MR B k w avs bs x cs → IR k w' A bs' y cs → bs' = bs
  | .int _, _, _, _, _, _, _, _, _, _, h, h' => by simp only [MR] at h; simp only [IR] at h'; rw [h.1, h'.1]
  | .bool, _, _, _, _, _, _, _, _, _, h, h' => by simp only [MR] at h; simp only [IR] at h'; rw [h.1, h'.1]
  | .str, _, _, _, _, _, _, _, _, _, h, h' => by simp only [MR] at h; simp only [IR] at h'; rw [h.1, h'.1]
  | .ro _, _, _, _, _, _, _, _, _, _, h, _ => by simp only [MR] at h
  | .own _, _, _, _, _, _, _, _, _, _, h, h' => by
    simp only [MR] at h
    simp only [IR] at h'
    obtain ⟨hf, ⟨u, rfl, h1⟩, _⟩ := h
    obtain ⟨u', e, h2⟩ := h'
    injection e with e
    subst e
    exact (own_det hf h1 h2).symm
  | .pair a b, _, _, _, _, _, _, _, _, _, h, h' => by
    simp only [MR] at h
    simp only [IR] at h'
    obtain ⟨b1, b2, c1, c2, rfl, rfl, h1, h2⟩ := h
    obtain ⟨b3, b4, c3, c4, rfl, e, h3, h4⟩ := h'
    obtain ⟨e1, e2⟩ := List.append_inj e (by rw [h1.len, h3.len])
    subst e1; subst e2
    rw [h1.det h3, h2.det h4]
theorem backM_out (I0 : Inv c h0 G w B X0 sl vs) (hG : GeLe G G2) {sv : List (Nat × Root)} (hsv : ∀ j root, look sv j = some root → look h0 j = some root) {N A' : Nat → Prop} :
    ∀ (k : IK) {h2 : List (Nat × Root)} {B2 : Nat → List Nat} {X2 : Nat → Prop} {avs : List AV} {c1 c2 : List Value} {x y : k.T} {bs : List Nat} {f : List AV → HM AV} (I2 : Inv c h2 G2 w' B2 X2 sl vs), AVRs G w N avs (c1 ++ c2) → MR B k w avs bs x c1 → IR k w' A' bs y c1 →
      (∀ b, b ∈ (idsM k avs).flatMap B → ¬ b ∈ bs → w'.heap[b]? = w.heap[b]?) → (∀ b, b ∈ (idsM k avs).flatMap B → X2 b) → (∀ j, j ∈ idsM k avs → look h2 j = none ∧ ∃ root, look h0 j = some root) → (idsM k avs).Nodup → (backM k avs sv y f).run nid h2 K = some r →
      ∃ h3 B3, (f (avs.drop k.size)).run nid h3 K = some r ∧ Inv c h3 G2 w' B3 (fun b => X2 b ∧ ¬ b ∈ (idsM k avs).flatMap B) sl vs ∧ Pres G2 w' (NN c h2 B2 X2) G2 w' (NN c h3 B3 (fun b => X2 b ∧ ¬ b ∈ (idsM k avs).flatMap B)) ∧ ∀ i, ¬ i ∈ idsM k avs → look h3 i = look h2 i := by
  have triv : ∀ {h2 : List (Nat × Root)} {B2 : Nat → List Nat} {X2 : Nat → Prop} {f : HM AV} (I2 : Inv c h2 G2 w' B2 X2 sl vs), f.run nid h2 K = some r → ∃ h3 B3, f.run nid h3 K = some r ∧ Inv c h3 G2 w' B3 (fun b => X2 b ∧ ¬ b ∈ ([] : List Nat).flatMap B) sl vs ∧ Pres G2 w' (NN c h2 B2 X2) G2 w' (NN c h3 B3 (fun b => X2 b ∧ ¬ b ∈ ([] : List Nat).flatMap B)) ∧ ∀ i, ¬ i ∈ ([] : List Nat) → look h3 i = look h2 i := by
    intro h2 B2 X2 f I2 hr
    have : (fun b => X2 b ∧ ¬ b ∈ ([] : List Nat).flatMap B) = X2 := by funext b; simp
    exact ⟨h2, B2, hr, by rw [this]; exact I2, by rw [this]; exact Pres.refl _ _ _, fun _ _ => rfl⟩
  intro k
  induction k with
  | int k =>
    intro h2 B2 X2 avs c1 c2 x y bs f I2 ha hm hy hu hX hn hnd hr
    cases avs with
    | nil => simp [backM, HM.run] at hr
    | cons a rest => exact triv I2 hr
  | bool =>
    intro h2 B2 X2 avs c1 c2 x y bs f I2 ha hm hy hu hX hn hnd hr
    cases avs with
    | nil => simp [backM, HM.run] at hr
    | cons a rest => exact triv I2 hr
  | str =>
    intro h2 B2 X2 avs c1 c2 x y bs f I2 ha hm hy hu hX hn hnd hr
    cases avs with
    | nil => simp [backM, HM.run] at hr
    | cons a rest => exact triv I2 hr
  | ro k =>
    intro h2 B2 X2 avs c1 c2 x y bs f I2 ha hm hy hu hX hn hnd hr
    simp only [MR] at hm
  | own k =>
    intro h2 B2 X2 avs c1 c2 x y bs f I2 ha hm hy hu hX hn hnd hr
    simp only [MR] at hm
    obtain ⟨hf, ⟨u, rfl, h1⟩, _⟩ := hm
    cases avs with
    | nil => simp [backM, HM.run] at hr
    | cons a rest =>
      simp only [List.singleton_append, AVRs] at ha
      simp only [IR] at hy
      obtain ⟨u', e, h3⟩ := hy
      injection e with e
      subst e
      simp only [backM] at hr
      exact backL_out I0 I2 hG hsv ha.1 hf h3 hu hX (fun j hj => (hn j hj).1) hr
  | pair a b iha ihb =>
    intro h2 B2 X2 avs c1 c2 x y bs f I2 ha hm hy hu hX hn hnd hr
    simp only [MR] at hm
    simp only [IR] at hy
    obtain ⟨b1, b2, d1, d2, rfl, rfl, m1, m2⟩ := hm
    obtain ⟨b3, b4, d3, d4, e0, e, y1, y2⟩ := hy
    obtain ⟨e1, e2⟩ := List.append_inj e (by rw [m1.len, y1.len])
    subst e1; subst e2
    have q1 := m1.det y1
    have q2 := m2.det y2
    subst q1; subst q2
    simp only [idsM, List.flatMap_append] at hu hX hn hnd ⊢
    rw [List.nodup_append] at hnd
    obtain ⟨n1, n2, n3⟩ := hnd
    have hdis : ∀ q, q ∈ (idsM a avs).flatMap B → q ∈ (idsM b (avs.drop a.size)).flatMap B → False := by
      intro q hq1 hq2
      obtain ⟨i, hi, hiq⟩ := List.mem_flatMap.1 hq1
      obtain ⟨j, hj, hjq⟩ := List.mem_flatMap.1 hq2
      obtain ⟨_, ri, hri⟩ := hn i (List.mem_append_left _ hi)
      obtain ⟨_, rj, hrj⟩ := hn j (List.mem_append_right _ hj)
      exact I0.disj i j ri rj (n3 i hi j hj) hri hrj q hiq hjq
    simp only [backM] at hr
    obtain ⟨h3, B3, r1, i3, p3, l3⟩ := iha I2 (by rw [List.append_assoc] at ha; exact ha) m1 y1 (fun q hq hq' => hu q (List.mem_append_left _ hq) (fun hm => (List.mem_append.1 hm).elim hq' (fun h => hdis q hq (m2.sub q h)))) (fun q hq => hX q (List.mem_append_left _ hq)) (fun j hj => hn j (List.mem_append_left _ hj)) n1 hr
    have hdrop := ha.drop a.size
    rw [List.append_assoc, ← m1.len, List.drop_left] at hdrop
    rw [m1.len] at hdrop
    obtain ⟨h4, B4, r2, i4, p4, l4⟩ := ihb i3 hdrop m2 y2 (fun q hq hq' => hu q (List.mem_append_right _ hq) (fun hm => (List.mem_append.1 hm).elim (fun h => hdis q (m1.sub q h) hq) hq')) (fun q hq => ⟨hX q (List.mem_append_right _ hq), fun h => hdis q h hq⟩) (fun j hj => ⟨(l3 j (fun h => n3 j h j hj rfl)).trans (hn j (List.mem_append_right _ hj)).1, (hn j (List.mem_append_right _ hj)).2⟩) n2 r1
    rw [List.drop_drop] at r2
    have he : (fun q => (X2 q ∧ ¬ q ∈ (idsM a avs).flatMap B) ∧ ¬ q ∈ (idsM b (avs.drop a.size)).flatMap B) = fun q => X2 q ∧ ¬ q ∈ (idsM a avs).flatMap B ++ (idsM b (avs.drop a.size)).flatMap B := by funext q; simp [and_assoc]
    rw [he] at i4 p4
    exact ⟨h4, B4, r2, i4, p3.trans p4, fun i hi => (l4 i (fun h => hi (List.mem_append_right _ h))).trans (l3 i (fun h => hi (List.mem_append_left _ h)))⟩
end
end Go.TM

/- Results come in. -/
set_option linter.unusedVariables false
set_option linter.unusedSimpArgs false
namespace Go.TM
open Go
theorem HM.run_up {α ρ : Type} : ∀ (x : HM α) {n : Nat} {h : List (Nat × Root)} {K : α → List (Nat × Root) → Nat → Option ρ} {r : ρ}, x.run n h K = some r → ∃ v h' n', n ≤ n' ∧ K v h' n' = some r
  | .ret v, n, h, K, r, hr => ⟨v, h, n, Nat.le_refl _, hr⟩
  | .get i k, n, h, K, r, hr => by
    simp only [HM.run] at hr
    split at hr
    · exact HM.run_up _ hr
    · cases hr
  | .put i r' k, n, h, K, r, hr => HM.run_up k hr
  | .del i k, n, h, K, r, hr => HM.run_up k hr
  | .new r' k, n, h, K, r, hr => by
    obtain ⟨v, h', n', h1, h2⟩ := HM.run_up (k n) hr
    exact ⟨v, h', n', by omega, h2⟩
  | .lift o k, n, h, K, r, hr => by
    obtain ⟨x, _, hr⟩ := lift_run hr
    exact HM.run_up _ hr
  | .ite b x y, n, h, K, r, hr => by
    cases b
    · exact HM.run_up y hr
    · exact HM.run_up x hr
  | .fail, n, h, K, r, hr => by cases hr
section
variable {P : Program} {E : Env} {c : Ctx} {w : World} {sl : Nat → AV} {vs : Nat → Value} {ρ α : Type} {K : α → List (Nat × Root) → Nat → Option ρ} {r : ρ} {m : Nat}
structure Made (c : Ctx) (w : World) (sl : Nat → AV) (vs : Nat → Value) (h : List (Nat × Root)) (G : Ge) (B : Nat → List Nat) (X : Nat → Prop) (n : Nat) (bs : List Nat) (h' : List (Nat × Root)) (G' : Ge) (B' : Nat → List Nat) (n' : Nat) : Prop where
  inv : Inv c h' G' w B' (fun b => X b ∧ ¬ b ∈ bs) sl vs
  pres : Pres G w (NN c h B X) G' w (NN c h' B' (fun b => X b ∧ ¬ b ∈ bs))
  back : ∀ b, b < w.heap.size → NN c h B X b → NN c h' B' (fun b => X b ∧ ¬ b ∈ bs) b
  D : ∀ j, G'.D j → G.D j ∨ (n ≤ j ∧ j < n')
  le : n ≤ n'
  old : ∀ i, ¬ (n ≤ i ∧ i < n') → look h' i = look h i
theorem Made.refl {h : List (Nat × Root)} {G : Ge} {B : Nat → List Nat} {X : Nat → Prop} {n : Nat} (I : Inv c h G w B X sl vs) : Made c w sl vs h G B X n [] h G B n := by
  have he : (fun b => X b ∧ ¬ b ∈ ([] : List Nat)) = X := by funext b; simp
  exact ⟨by rw [he]; exact I, by rw [he]; exact Pres.refl _ _ _, by rw [he]; exact fun _ _ h => h, fun j hj => .inl hj, Nat.le_refl _, fun _ _ => rfl⟩
theorem Made.trans {h h' h'' : List (Nat × Root)} {G G' G'' : Ge} {B B' B'' : Nat → List Nat} {X : Nat → Prop} {n n' n'' : Nat} {b1 b2 : List Nat} (a : Made c w sl vs h G B X n b1 h' G' B' n') (b : Made c w sl vs h' G' B' (fun q => X q ∧ ¬ q ∈ b1) n' b2 h'' G'' B'' n'') : Made c w sl vs h G B X n (b1 ++ b2) h'' G'' B'' n'' := by
  have he : (fun q => (X q ∧ ¬ q ∈ b1) ∧ ¬ q ∈ b2) = fun q => X q ∧ ¬ q ∈ b1 ++ b2 := by funext q; simp [and_assoc]
  obtain ⟨i2, p2, k2, d2, l2, o2⟩ := b
  rw [he] at i2 p2 k2
  exact ⟨i2, a.pres.trans p2, fun q hq hN => k2 q hq (a.back q hq hN), fun j hj => (d2 j hj).elim (fun h => (a.D j h).imp id (fun h => ⟨h.1, by omega⟩)) (fun h => .inr ⟨by have := a.le; omega, h.2⟩), Nat.le_trans a.le l2, fun i hi => (o2 i (by have := a.le; omega)).trans (a.old i (by omega))⟩
theorem Made.avr {h h' : List (Nat × Root)} {G G' : Ge} {B B' : Nat → List Nat} {X : Nat → Prop} {n n' : Nat} {bs : List Nat} (a : Made c w sl vs h G B X n bs h' G' B' n') {v : AV} {val : Value} (hv : AVR G w (NN c h B X) v val) : AVR G' w (NN c h' B' (fun b => X b ∧ ¬ b ∈ bs)) v val := AVR.pres a.pres v val hv
theorem Made.avrs {h h' : List (Nat × Root)} {G G' : Ge} {B B' : Nat → List Nat} {X : Nat → Prop} {n n' : Nat} {bs : List Nat} (a : Made c w sl vs h G B X n bs h' G' B' n') {v : List AV} {val : List Value} (hv : AVRs G w (NN c h B X) v val) : AVRs G' w (NN c h' B' (fun b => X b ∧ ¬ b ∈ bs)) v val := AVRs.pres a.pres v val hv
theorem NN_add {h h' : List (Nat × Root)} {B B' : Nat → List Nat} {X : Nat → Prop} {j : Nat} {root : Root} {bs : List Nat} (hj : look h j = none) (hh : ∀ i, look h' i = if j = i then some root else look h i) (hB : B' = fun i => if i = j then bs else B i) : ∀ b, NN c h B X b → NN c h' B' (fun b => X b ∧ ¬ b ∈ bs) b := by
  subst hB
  intro b hb
  unfold NN at hb ⊢
  rcases hb with ⟨i, r', hi, hbi⟩ | hE | hX
  · have he : i ≠ j := by rintro rfl; rw [hj] at hi; cases hi
    exact .inl ⟨i, r', by rw [hh, if_neg (Ne.symm he)]; exact hi, by simp only [if_neg he]; exact hbi⟩
  · by_cases hbs : b ∈ bs
    · exact .inl ⟨j, root, by rw [hh, if_pos rfl], by simp only [if_true]; exact hbs⟩
    · exact .inr (.inl ⟨hE, hbs⟩)
  · exact .inr (.inr hX)
theorem Made.list {h : List (Nat × Root)} {G : Ge} {B : Nat → List Nat} {X : Nat → Prop} {n : Nat} (I : Inv c h G w B X sl vs) (hj : ¬ G.D n) {k : TM.K} {xs : List k.T} {v : Value} {bs : List Nat} (ho : Own (.list k) w bs xs [v]) (hn : bs.Nodup) (hb : ∀ b, b ∈ bs → X b) :
    ∃ G' B', Made c w sl vs h G B X n bs ((n, .list 0 k xs) :: h) G' B' (n + 1) ∧ AVR G' w (NN c ((n, .list 0 k xs) :: h) B' (fun b => X b ∧ ¬ b ∈ bs)) (.own n) v := by
  let hd : Nat → Nat → Value := fun _ o => match blockOf v with
    | some blk => (w.cell? ⟨blk, o, none⟩).getD Go.undef
    | none => Go.undef
  obtain ⟨i1, p1⟩ := I.add (G' := G.ext n v k hd) (Ge.ext_pres hj v k hd w _) n (.list 0 k xs) bs ((n, .list 0 k xs) :: h) (I.fresh hj) (.inl rfl) (fun i => look_cons h n _ i) hn hb (fun N hN => by
    simp only [RootR, Ge.ext, if_true]
    refine ⟨trivial, ho, fun blk hblk q hq off hoff => ?_, .inl trivial⟩
    obtain ⟨g, cs, b, e1, e2, e3, e4, e5⟩ := own_elem ho (List.getElem?_eq_getElem hq)
    rw [hblk] at e1
    injection e1 with e1
    subst e1
    have hlt : off < cs.length := by rw [e3.len]; exact isL_lt hoff
    have := e5 off _ (List.getElem?_eq_getElem hlt)
    simp only [hd, hblk, this, Option.getD_some])
  refine ⟨_, _, ⟨i1, p1, fun b _ hb => NN_add (I.fresh hj) (fun i => look_cons h n _ i) rfl b hb, fun j hj => hj.elim (fun e => .inr (by omega)) .inl, Nat.le_succ _, fun i hi => by rw [look_cons, if_neg (by omega)]⟩, ?_⟩
  simp only [AVR]
  exact ⟨.inl rfl, by simp [Ge.ext], by obtain ⟨A, cap, rfl, _⟩ := own_slice ho; rfl⟩
theorem Made.box {h : List (Nat × Root)} {G : Ge} {B : Nat → List Nat} {X : Nat → Prop} {n : Nat} (I : Inv c h G w B X sl vs) (hj : ¬ G.D n) {cs : List AV} {g : Nat} {cur : Array Value} {ty : TypeId} (hg : w.heap[g]? = some (.cells cur ty (0, 0))) (h1 : ∀ u, u ∈ cur.toList → u.oneCell' = true) (hcs : AVRs G w (NN c h B X) cs cur.toList) (hb : X g) :
    ∃ G' B', Made c w sl vs h G B X n [g] ((n, .box cs) :: h) G' B' (n + 1) ∧ AVR G' w (NN c ((n, .box cs) :: h) B' (fun b => X b ∧ ¬ b ∈ [g])) (.box n 0) (.pointer (some ⟨g, 0, none⟩)) := by
  let v : Value := .pointer (some ⟨g, 0, none⟩)
  have hp := Ge.ext_pres hj v (.bool) (fun _ _ => Go.undef) w (NN c h B X)
  obtain ⟨i1, p1⟩ := I.add (G' := G.ext n v .bool (fun _ _ => Go.undef)) hp n (.box cs) [g] ((n, .box cs) :: h) (I.fresh hj) (.inl rfl) (fun i => look_cons h n _ i) (by simp) (fun b hbb => by simp only [List.mem_singleton] at hbb; rw [hbb]; exact hb) (fun N hN => by
    simp only [RootR, Ge.ext, if_true]
    have hNN : N = NN c h B X := by funext b; exact propext (hN b)
    subst hNN
    exact ⟨g, cur, ty, rfl, rfl, hg, h1, AVRs.pres hp _ _ hcs⟩)
  refine ⟨_, _, ⟨i1, p1, fun b _ hb => NN_add (I.fresh hj) (fun i => look_cons h n _ i) rfl b hb, fun j hj => hj.elim (fun e => .inr (by omega)) .inl, Nat.le_succ _, fun i hi => by rw [look_cons, if_neg (by omega)]⟩, ?_⟩
  simp only [AVR]
  exact ⟨.inl rfl, g, by simp [Ge.ext, v], rfl⟩
theorem Made.arr {h : List (Nat × Root)} {G : Ge} {B : Nat → List Nat} {X : Nat → Prop} {n : Nat} (I : Inv c h G w B X sl vs) (hj : ¬ G.D n) {l : Nat} {k : TM.K} {xs : List k.T} {g : Nat} {cur : Array Value} {ty : TypeId} (hf : k.flat = true) (hg : w.heap[g]? = some (.cells cur ty (0, 0))) (hro : RO (.arr l k) w [] xs cur.toList) (hb : X g) :
    ∃ G' B', Made c w sl vs h G B X n [g] ((n, .arr l k xs) :: h) G' B' (n + 1) ∧ AVR G' w (NN c ((n, .arr l k xs) :: h) B' (fun b => X b ∧ ¬ b ∈ [g])) (.box n 0) (.pointer (some ⟨g, 0, none⟩)) := by
  let v : Value := .pointer (some ⟨g, 0, none⟩)
  have hp := Ge.ext_pres hj v k (fun _ _ => Go.undef) w (NN c h B X)
  obtain ⟨i1, p1⟩ := I.add (G' := G.ext n v k (fun _ _ => Go.undef)) hp n (.arr l k xs) [g] ((n, .arr l k xs) :: h) (I.fresh hj) (.inl rfl) (fun i => look_cons h n _ i) (by simp) (fun b hbb => by simp only [List.mem_singleton] at hbb; rw [hbb]; exact hb) (fun N hN => by
    simp only [RootR, Ge.ext, if_true]
    exact ⟨trivial, hf, g, cur, ty, rfl, rfl, hg, hro⟩)
  refine ⟨_, _, ⟨i1, p1, fun b _ hb => NN_add (I.fresh hj) (fun i => look_cons h n _ i) rfl b hb, fun j hj => hj.elim (fun e => .inr (by omega)) .inl, Nat.le_succ _, fun i hi => by rw [look_cons, if_neg (by omega)]⟩, ?_⟩
  simp only [AVR]
  exact ⟨.inl rfl, g, by simp [Ge.ext, v], rfl⟩
structure Free' {α : Type} (K : α → List (Nat × Root) → Nat → Option ρ) (r : ρ) (G : Ge) (n m : Nat) : Prop where
  le : ∀ v h n', K v h n' = some r → n' ≤ m
  free : ∀ j, n ≤ j → j < m → ¬ G.D j
theorem Free'.step {α : Type} {K : α → List (Nat × Root) → Nat → Option ρ} {G G' : Ge} {n n' : Nat} (F : Free' K r G n m) (hD : ∀ j, G'.D j → G.D j ∨ (n ≤ j ∧ j < n')) (hle : n ≤ n') : Free' K r G' n' m :=
  ⟨F.le, fun j h1 h2 h3 => (hD j h3).elim (fun h => F.free j (by omega) h2 h) (fun h => by omega)⟩
theorem expI_out : ∀ (k : IK) {h : List (Nat × Root)} {G : Ge} {B : Nat → List Nat} {X A : Nat → Prop} {n : Nat} {x : k.T} {cs : List Value} {bs : List Nat} {f : List AV → HM α} (I : Inv c h G w B X sl vs), Free' K r G n m → IR k w A bs x cs → bs.Nodup → (∀ b, b ∈ bs → X b) → (k.hasRo = true → ∀ b, A b → ¬ NN c h B X b ∧ b < w.heap.size) → (expI k x f).run n h K = some r →
    ∃ avs h' G' B' n', (f avs).run n' h' K = some r ∧ Made c w sl vs h G B X n bs h' G' B' n' ∧ AVRs G' w (NN c h' B' (fun b => X b ∧ ¬ b ∈ bs)) avs cs
  | .int k, h, G, B, X, A, n, x, cs, bs, f, I, F, hx, hn, hb, hA, hr => by
    simp only [IR] at hx
    obtain ⟨rfl, rfl⟩ := hx
    exact ⟨_, h, G, B, n, hr, Made.refl I, by simp only [AVRs, AVR, and_true]⟩
  | .bool, h, G, B, X, A, n, x, cs, bs, f, I, F, hx, hn, hb, hA, hr => by
    simp only [IR] at hx
    obtain ⟨rfl, rfl⟩ := hx
    exact ⟨_, h, G, B, n, hr, Made.refl I, by simp only [AVRs, AVR, and_true]⟩
  | .str, h, G, B, X, A, n, x, cs, bs, f, I, F, hx, hn, hb, hA, hr => by
    simp only [IR] at hx
    obtain ⟨rfl, rfl⟩ := hx
    exact ⟨_, h, G, B, n, hr, Made.refl I, by simp only [AVRs, AVR, and_true]⟩
  | .ro k, h, G, B, X, A, n, x, cs, bs, f, I, F, hx, hn, hb, hA, hr => by
    simp only [IR] at hx
    obtain ⟨rfl, v, rs, rfl, h1, h2⟩ := hx
    have mm := Made.refl (n := n) I
    exact ⟨_, h, G, B, n, hr, mm, mm.avrs (by simp only [AVRs, AVR, and_true]; exact ⟨rs, h1, fun b hb => hA rfl b (h2 b hb)⟩)⟩
  | .own k, h, G, B, X, A, n, x, cs, bs, f, I, F, hx, hn, hb, hA, hr => by
    simp only [IR] at hx
    obtain ⟨v, rfl, h1⟩ := hx
    simp only [expI, HM.run] at hr
    obtain ⟨v', h', n', h2, h3⟩ := HM.run_up _ hr
    have hlt := F.le _ _ _ h3
    obtain ⟨G', B', mm, hv⟩ := Made.list I (F.free n (Nat.le_refl _) (by omega)) h1 hn hb
    exact ⟨_, _, G', B', n + 1, hr, mm, by simp only [AVRs, and_true]; exact hv⟩
  | .pair a b, h, G, B, X, A, n, x, cs, bs, f, I, F, hx, hn, hb, hA, hr => by
    simp only [IR] at hx
    obtain ⟨b1, b2, c1, c2, rfl, rfl, x1, x2⟩ := hx
    rw [List.nodup_append] at hn
    obtain ⟨n1, n2, n3⟩ := hn
    simp only [expI] at hr
    obtain ⟨l1, h1, G1, B1, m1, r1, mm1, v1⟩ := expI_out a I F x1 n1 (fun q hq => hb q (List.mem_append_left _ hq)) (fun hro => hA (by simp [IK.hasRo, hro])) hr
    obtain ⟨l2, h2, G2, B2, m2, r2, mm2, v2⟩ := expI_out b mm1.inv (F.step mm1.D mm1.le) x2 n2 (fun q hq => ⟨hb q (List.mem_append_right _ hq), fun hq' => n3 q hq' q hq rfl⟩) (fun hro q hq => ⟨fun hN => (hA (by simp [IK.hasRo, hro]) q hq).1 (mm1.pres.av q (hA (by simp [IK.hasRo, hro]) q hq).2 hN), (hA (by simp [IK.hasRo, hro]) q hq).2⟩) r1
    have he : (fun q => (X q ∧ ¬ q ∈ b1) ∧ ¬ q ∈ b2) = fun q => X q ∧ ¬ q ∈ b1 ++ b2 := by funext q; simp [and_assoc]
    have v1' := mm2.avrs v1
    rw [he] at v1' v2
    exact ⟨_, h2, G2, B2, m2, r2, mm1.trans mm2, v1'.append v2⟩
end
end Go.TM

/- Whole values and lists of values. -/
set_option linter.unusedVariables false
set_option linter.unusedSimpArgs false
namespace Go.TM
open Go
def VRs : (l : List VK) → World → (Nat → Prop) → List Nat → VKs l → List Value → Prop
  | [], _, _, bs, _, vals => bs = [] ∧ vals = []
  | [v], w, A, bs, x, vals => ∃ u, vals = [u] ∧ VR v w A bs x u
  | v :: v' :: l, w, A, bs, x, vals => ∃ b1 b2 u us, bs = b1 ++ b2 ∧ vals = u :: us ∧ VR v w A b1 x.1 u ∧ VRs (v' :: l) w A b2 x.2 us
section
variable {P : Program} {E : Env} {c : Ctx} {w : World} {sl : Nat → AV} {vs : Nat → Value} {ρ α : Type} {K : α → List (Nat × Root) → Nat → Option ρ} {r : ρ} {m : Nat}
theorem expV_out (v : VK) {h : List (Nat × Root)} {G : Ge} {B : Nat → List Nat} {X A : Nat → Prop} {n : Nat} {x : v.T} {val : Value} {bs : List Nat} {f : AV → HM α} (I : Inv c h G w B X sl vs) (F : Free' K r G n m) (hx : VR v w A bs x val) (hn : bs.Nodup) (hb : ∀ b, b ∈ bs → X b) (hA : ∀ b, A b → ¬ NN c h B X b ∧ b < w.heap.size) (hr : (expV v x f).run n h K = some r) :
    ∃ av h' G' B' n', (f av).run n' h' K = some r ∧ Made c w sl vs h G B X n bs h' G' B' n' ∧ AVR G' w (NN c h' B' (fun b => X b ∧ ¬ b ∈ bs)) av val := by
  cases v with
  | c ik agg =>
    simp only [expV] at hr
    cases agg with
    | true =>
      simp only [VR] at hx
      obtain ⟨a, rfl, hx⟩ := hx
      obtain ⟨avs, h', G', B', n', r1, mm, ha⟩ := expI_out ik I F hx hn hb (fun _ => hA) hr
      exact ⟨_, h', G', B', n', r1, mm, by simp only [mkV, cond_true, AVR]; exact ⟨a, rfl, hx.one, ha⟩⟩
    | false =>
      simp only [VR] at hx
      obtain ⟨avs, h', G', B', n', r1, mm, ha⟩ := expI_out ik I F hx hn hb (fun _ => hA) hr
      refine ⟨_, h', G', B', n', r1, mm, ?_⟩
      have hl := ha.length
      match avs, hl with
      | [a], _ => simp only [AVRs] at ha; simp only [mkV, cond_false]; exact ha.1
  | box ik =>
    simp only [expV] at hr
    simp only [VR] at hx
    obtain ⟨g, cur, ty, b, rfl, hg, rfl, hx⟩ := hx
    obtain ⟨hn1, hn2⟩ := List.nodup_cons.1 hn
    obtain ⟨avs, h1, G1, B1, m1, r1, mm1, ha⟩ := expI_out ik I F hx hn2 (fun q hq => hb q (List.mem_cons_of_mem _ hq)) (fun _ => hA) hr
    have F1 := F.step mm1.D mm1.le
    simp only [HM.run] at r1
    obtain ⟨v', h', n', h2, h3⟩ := HM.run_up _ r1
    have hlt := F1.le _ _ _ h3
    obtain ⟨G2, B2, mm2, hv⟩ := Made.box mm1.inv (F1.free m1 (Nat.le_refl _) (by omega)) hg hx.one ha ⟨hb g List.mem_cons_self, hn1⟩
    have he : (fun q => (X q ∧ ¬ q ∈ b) ∧ ¬ q ∈ [g]) = fun q => X q ∧ ¬ q ∈ g :: b := by
      funext q
      apply propext
      have e1 : q ∈ [g] ↔ q = g := List.mem_singleton
      rw [e1, List.mem_cons, not_or]
      exact ⟨fun ⟨⟨a, b⟩, c⟩ => ⟨a, c, b⟩, fun ⟨a, c, b⟩ => ⟨⟨a, b⟩, c⟩⟩
    have mm := mm1.trans mm2
    have he2 : (fun q => X q ∧ ¬ q ∈ b ++ [g]) = fun q => X q ∧ ¬ q ∈ g :: b := by
      funext q
      apply propext
      have e1 : q ∈ [g] ↔ q = g := List.mem_singleton
      rw [List.mem_append, e1, List.mem_cons, not_or, not_or]
      exact ⟨fun ⟨a, b, c⟩ => ⟨a, c, b⟩, fun ⟨a, c, b⟩ => ⟨a, b, c⟩⟩
    rw [he] at hv
    obtain ⟨a1, a2, a3, a4, a5, a6⟩ := mm
    rw [he2] at a1 a2 a3
    exact ⟨_, _, G2, B2, m1 + 1, r1, ⟨a1, a2, a3, a4, a5, a6⟩, hv⟩
  | arr k e =>
    simp only [expV] at hr
    simp only [VR] at hx
    obtain ⟨rfl, a, rs, rfl, h1, h2⟩ := hx
    have mm := Made.refl (n := n) I
    exact ⟨_, h, G, B, n, hr, mm, mm.avr (by simp only [AVR]; exact ⟨rs, a, rfl, h1, fun b hb => hA b (h2 b hb)⟩)⟩
  | abox k e =>
    simp only [expV, HM.run] at hr
    simp only [VR] at hx
    obtain ⟨g, cur, ty, rfl, hg, rfl, hf, hro⟩ := hx
    obtain ⟨v', h', n', h2, h3⟩ := HM.run_up _ hr
    have hlt := F.le _ _ _ h3
    obtain ⟨G2, B2, mm2, hv⟩ := Made.arr I (F.free n (Nat.le_refl _) (by omega)) hf hg hro (hb g List.mem_cons_self)
    exact ⟨_, _, G2, B2, n + 1, hr, mm2, hv⟩
  | peek k =>
    simp only [expV] at hr
    simp only [VR] at hx
    obtain ⟨rfl, rs, ad, cs, rfl, h1, h2, h3, h4⟩ := hx
    have mm := Made.refl (n := n) I
    exact ⟨_, h, G, B, n, hr, mm, mm.avr (by simp only [AVR]; exact ⟨rs, ad, cs, h1, fun b hb => hA b (h4 b hb), h3, h2, rfl⟩)⟩
theorem expVs_out : ∀ (l : List VK) {h : List (Nat × Root)} {G : Ge} {B : Nat → List Nat} {X A : Nat → Prop} {n : Nat} {x : VKs l} {vals : List Value} {bs : List Nat} {f : List AV → HM α} (I : Inv c h G w B X sl vs) (F : Free' K r G n m) (hx : VRs l w A bs x vals) (hn : bs.Nodup) (hb : ∀ b, b ∈ bs → X b) (hA : ∀ b, A b → ¬ NN c h B X b ∧ b < w.heap.size) (hr : (expVs l x f).run n h K = some r),
    ∃ avs h' G' B' n', (f avs).run n' h' K = some r ∧ Made c w sl vs h G B X n bs h' G' B' n' ∧ AVRs G' w (NN c h' B' (fun b => X b ∧ ¬ b ∈ bs)) avs vals
  | [], h, G, B, X, A, n, x, vals, bs, f, I, F, hx, hn, hb, hA, hr => by
    simp only [VRs] at hx
    obtain ⟨rfl, rfl⟩ := hx
    exact ⟨[], h, G, B, n, hr, Made.refl I, by simp only [AVRs]⟩
  | [v], h, G, B, X, A, n, x, vals, bs, f, I, F, hx, hn, hb, hA, hr => by
    simp only [VRs] at hx
    obtain ⟨u, rfl, hx⟩ := hx
    obtain ⟨av, h', G', B', n', r1, mm, ha⟩ := expV_out v I F hx hn hb hA hr
    exact ⟨[av], h', G', B', n', r1, mm, by simp only [AVRs, and_true]; exact ha⟩
  | v :: v' :: l, h, G, B, X, A, n, x, vals, bs, f, I, F, hx, hn, hb, hA, hr => by
    simp only [VRs] at hx
    obtain ⟨b1, b2, u, us, rfl, rfl, x1, x2⟩ := hx
    rw [List.nodup_append] at hn
    obtain ⟨n1, n2, n3⟩ := hn
    simp only [expVs] at hr
    obtain ⟨a1, h1, G1, B1, m1, r1, mm1, v1⟩ := expV_out v I F x1 n1 (fun q hq => hb q (List.mem_append_left _ hq)) hA hr
    obtain ⟨l2, h2, G2, B2, m2, r2, mm2, v2⟩ := expVs_out (v' :: l) mm1.inv (F.step mm1.D mm1.le) x2 n2 (fun q hq => ⟨hb q (List.mem_append_right _ hq), fun hq' => n3 q hq' q hq rfl⟩) (fun q hq => ⟨fun hN => (hA q hq).1 (mm1.pres.av q (hA q hq).2 hN), (hA q hq).2⟩) r1
    have he : (fun q => (X q ∧ ¬ q ∈ b1) ∧ ¬ q ∈ b2) = fun q => X q ∧ ¬ q ∈ b1 ++ b2 := by funext q; simp [and_assoc]
    have v1' := mm2.avr v1
    rw [he] at v1' v2
    exact ⟨_, h2, G2, B2, m2, r2, mm1.trans mm2, by simp only [AVRs]; exact ⟨v1', v2⟩⟩
end
end Go.TM

/- Parameters. -/
set_option linter.unusedVariables false
set_option linter.unusedSimpArgs false
namespace Go.TM
open Go
def idsP : PM → AV → List Nat
  | .mut (.c ik true), .agg cs => idsM ik cs
  | .mut (.c ik false), x => idsM ik [x]
  | .ptr _ _, .box q 0 => [q]
  | .eat _, .box q 0 => [q]
  | .lend _, .own j => [j]
  | _, _ => []
def roP (h : List (Nat × Root)) : PM → AV → List Nat
  | .val v, x => roV h v x
  | .ptr a _, .box q 0 => match look h q with
    | some (.box cs) => roRoots a cs
    | _ => []
  | .eat a, .box q 0 => match look h q with
    | some (.box cs) => roRoots a cs
    | _ => []
  | _, _ => []
def PR (B : Nat → List Nat) (w : World) (A : Nat → Prop) : (p : PM) → AV → List Nat → List Nat → p.T → Value → Prop
  | .val v, _, bs, ls, x, val => ls = bs ∧ VR v w A bs x val
  | .mut (.c ik true), a, bs, ls, x, val => ∃ cs arr, a = .agg cs ∧ val = .agg arr ∧ (∀ u, u ∈ arr.toList → u.oneCell' = true) ∧ ls = (idsM ik cs).flatMap B ∧ MR B ik w cs bs x arr.toList
  | .mut (.c ik false), a, bs, ls, x, val => ls = (idsM ik [a]).flatMap B ∧ MR B ik w [a] bs x [val]
  | .mut _, _, _, _, _, _ => False
  | .ptr a _, av, bs, ls, x, val => ls = bs ∧ VR (.box a) w A bs x val ∧ ∃ q g, av = .box q 0 ∧ B q = [g] ∧ val = .pointer (some ⟨g, 0, none⟩)
  | .eat a, av, bs, ls, x, val => ls = bs ∧ VR (.box a) w A bs x val ∧ ∃ q g, av = .box q 0 ∧ B q = [g] ∧ val = .pointer (some ⟨g, 0, none⟩)
  | .lend k, av, bs, ls, x, val => ls = bs ∧ VR (.c (.own k) false) w A bs x val ∧ (av = .nilS ∨ ∃ j, av = .own j)
section
variable {P : Program} {E : Env} {c : Ctx} {h : List (Nat × Root)} {G : Ge} {w : World} {B : Nat → List Nat} {X : Nat → Prop} {sl : Nat → AV} {vs : Nat → Value} {ρ α : Type} {K : α → List (Nat × Root) → Nat → Option ρ} {r : ρ} {nid : Nat}
theorem MR.ir : ∀ {k : IK} {w : World} {A : Nat → Prop} {avs : List AV} {bs : List Nat} {x : k.T} {cs : List Value}, MR B k w avs bs x cs → IR k w A bs x cs
  | .int _, _, _, _, _, _, _, h => h
  | .bool, _, _, _, _, _, _, h => h
  | .str, _, _, _, _, _, _, h => h
  | .ro _, _, _, _, _, _, _, h => by simp only [MR] at h
  | .own _, _, _, _, _, _, _, h => by simp only [MR] at h; simp only [IR]; exact h.2.1
  | .pair a b, _, _, _, _, _, _, h => by
    simp only [MR] at h
    simp only [IR]
    obtain ⟨b1, b2, c1, c2, h1, h2, h3, h4⟩ := h
    exact ⟨b1, b2, c1, c2, h1, h2, h3.ir, h4.ir⟩
theorem PR.mono {p : PM} {a : AV} {bs ls : List Nat} {x : p.T} {val : Value} {A A' : Nat → Prop} (hA : ∀ b, A b → A' b) (h : PR B w A p a bs ls x val) : PR B w A' p a bs ls x val := by
  cases p with
  | val v => simp only [PR] at h ⊢; exact ⟨h.1, h.2.mono hA⟩
  | «mut» v => cases v with
    | c ik agg => cases agg <;> exact h
    | _ => exact h
  | ptr k l => simp only [PR] at h ⊢; exact ⟨h.1, h.2.1.mono hA, h.2.2⟩
  | eat k => simp only [PR] at h ⊢; exact ⟨h.1, h.2.1.mono hA, h.2.2⟩
  | lend k => simp only [PR] at h ⊢; exact ⟨h.1, h.2.1.mono hA, h.2.2⟩
theorem impP_out (p : PM) (I : Inv c h G w B X sl vs) {h0 sv : List (Nat × Root)} (S : Saved h0 h sv) (hsub : ∀ j root, look h j = some root → look h0 j = some root) {a : AV} {val : Value} {f : p.T → List (Nat × Root) → HM α} (hr : (impP p a sv f).run nid h K = some r) (ha : AVR G w (NN c h B X) a val) :
    ∃ x h' sv' bs ls, (f x sv').run nid h' K = some r ∧ PR B w (Lent c h' w B (fun b => X b ∨ b ∈ ls) (roP h p a)) p a bs ls x val ∧ (∀ b, b ∈ bs → b ∈ ls) ∧ bs.Nodup ∧ Limbo c h G w B X sl vs h' ls ∧ Saved h0 h' sv' ∧ (∀ j root, look sv j = some root → look sv' j = some root) ∧ (idsP p a).Nodup ∧ ∀ j, j ∈ idsP p a → ∃ root, look h j = some root ∧ look sv' j = some root := by
  cases p with
  | val v =>
    simp only [impP] at hr
    obtain ⟨x, h', bs, e1, e2, e3⟩ := impV_out v I hr ha
    exact ⟨x, h', sv, bs, bs, e1, by simp only [PR]; exact ⟨trivial, e2⟩, fun _ h => h, e3.nodup, e3, ⟨S.a, fun j root hj => by
      cases hl : look h' j with
      | none => rfl
      | some r' => have := e3.sub j r' hl; rw [S.b j root hj] at this; cases this⟩, fun _ _ h => h, by simp [idsP], fun j hj => by simp [idsP] at hj⟩
  | «mut» v =>
    cases v with
    | c ik agg =>
      cases agg with
      | true =>
        cases a <;> first | (simp [impP, HM.run] at hr; done) | skip
        rename_i cs
        simp only [impP] at hr
        simp only [AVR] at ha
        obtain ⟨arr, rfl, h1, h2⟩ := ha
        obtain ⟨x, h', sv', bs, c1, c2, e0, e1, _, e2, e3, e3', e4, e5, e6, e7, e8, e9⟩ := impM_out ik I S hsub hr h2
        obtain ⟨g1, g2⟩ := nilR_out e1
        rw [g1] at e5
        have := e5.length
        simp only [List.length_nil] at this
        have hc2 : c2 = [] := List.eq_nil_of_length_eq_zero this.symm
        subst hc2
        rw [List.append_nil] at e0
        subst e0
        exact ⟨x, h', sv', bs, _, g2, by simp only [PR]; exact ⟨cs, arr, rfl, rfl, h1, rfl, e2⟩, e3, e3', e4, e6, e7, e8, e9⟩
      | false =>
        have hr' : (impM ik [a] sv fun y r sv => nilR y (fun y => f y sv) r).run nid h K = some r := hr
        obtain ⟨x, h', sv', bs, c1, c2, e0, e1, _, e2, e3, e3', e4, e5, e6, e7, e8, e9⟩ := impM_out ik I S hsub hr' (vals := [val]) (by simp only [AVRs]; exact ⟨ha, trivial⟩)
        obtain ⟨g1, g2⟩ := nilR_out e1
        rw [g1] at e5
        have := e5.length
        simp only [List.length_nil] at this
        have hc2 : c2 = [] := List.eq_nil_of_length_eq_zero this.symm
        subst hc2
        rw [List.append_nil] at e0
        subst e0
        exact ⟨x, h', sv', bs, _, g2, by simp only [PR]; exact ⟨trivial, e2⟩, e3, e3', e4, e6, e7, e8, e9⟩
    | _ => simp [impP, HM.run] at hr
  | ptr k l =>
    cases a <;> first | (simp [impP, HM.run] at hr; done) | skip
    rename_i q off
    cases off with
    | succ _ => simp [impP, HM.run] at hr
    | zero =>
      simp only [impP] at hr
      obtain ⟨root, hlook, hr⟩ := get_run hr
      cases root with
      | list => cases hr
      | arr => cases hr
      | box cs =>
        simp only [HM.run] at hr
        obtain ⟨hd, hroot⟩ := I.root q _ hlook
        simp only [RootR] at hroot
        obtain ⟨g, cur, ty, g1, g2, g3, g4, g5⟩ := hroot
        simp only [AVR] at ha
        obtain ⟨_, g', hL, rfl⟩ := ha
        rw [g1] at hL
        injection hL with hL; injection hL with hL; injection hL with hL; subst hL
        have l1 := Limbo.of_del I hlook (bs := [g]) (by simp) (fun b hb => by rw [g2]; exact hb)
        obtain ⟨x, h', bs, c1, c2, e0, e1, e2, e3, e4⟩ := impI_out k l1.inv hr (l1.avrs g5)
        obtain ⟨e5, e6⟩ := nilR_out e1
        rw [e5] at e4
        have := e4.length
        simp only [List.length_nil] at this
        have hc2 : c2 = [] := List.eq_nil_of_length_eq_zero this.symm
        subst hc2
        rw [List.append_nil] at e0
        subst e0
        have he : (fun b => (X b ∨ b ∈ [g]) ∨ b ∈ bs) = fun b => X b ∨ b ∈ [g] ++ bs := by funext b; simp [or_assoc]
        rw [he] at e2
        have hl := l1.trans e3
        refine ⟨x, h', (q, .box cs) :: sv, [g] ++ bs, [g] ++ bs, e6, ?_, fun _ h => h, hl.nodup, hl, ⟨fun j root hj => ?_, fun j root hj => ?_⟩, fun j root hj => ?_, by simp [idsP], fun j hj => ?_⟩
        · simp only [PR, VR, roP, hlook]
          exact ⟨trivial, ⟨g, cur, ty, bs, rfl, g3, rfl, e2⟩, q, g, rfl, g2, rfl⟩
        · rw [look_cons] at hj
          split at hj
          · rename_i e; subst e; injection hj with hj; subst hj; exact hsub _ _ hlook
          · exact S.a _ _ hj
        · cases hl' : look h' j with
          | none => rfl
          | some r' =>
            have h1 := e3.sub j r' hl'
            rw [look_del] at h1
            rw [look_cons] at hj
            split at h1
            · cases h1
            · rename_i hne
              rw [if_neg hne] at hj
              rw [S.b j root hj] at h1; cases h1
        · rw [look_cons]
          split
          · rename_i e; subst e; have := S.b _ _ hj; rw [hlook] at this; cases this
          · exact hj
        · simp only [idsP, List.mem_singleton] at hj
          subst hj
          exact ⟨_, hlook, by rw [look_cons, if_pos rfl]⟩
  | eat k =>
    cases a <;> first | (simp [impP, HM.run] at hr; done) | skip
    rename_i q off
    cases off with
    | succ _ => simp [impP, HM.run] at hr
    | zero =>
      simp only [impP] at hr
      obtain ⟨root, hlook, hr⟩ := get_run hr
      cases root with
      | list => cases hr
      | arr => cases hr
      | box cs =>
        simp only [HM.run] at hr
        obtain ⟨hd, hroot⟩ := I.root q _ hlook
        simp only [RootR] at hroot
        obtain ⟨g, cur, ty, g1, g2, g3, g4, g5⟩ := hroot
        simp only [AVR] at ha
        obtain ⟨_, g', hL, rfl⟩ := ha
        rw [g1] at hL
        injection hL with hL; injection hL with hL; injection hL with hL; subst hL
        have l1 := Limbo.of_del I hlook (bs := [g]) (by simp) (fun b hb => by rw [g2]; exact hb)
        obtain ⟨x, h', bs, c1, c2, e0, e1, e2, e3, e4⟩ := impI_out k l1.inv hr (l1.avrs g5)
        obtain ⟨e5, e6⟩ := nilR_out e1
        rw [e5] at e4
        have := e4.length
        simp only [List.length_nil] at this
        have hc2 : c2 = [] := List.eq_nil_of_length_eq_zero this.symm
        subst hc2
        rw [List.append_nil] at e0
        subst e0
        have he : (fun b => (X b ∨ b ∈ [g]) ∨ b ∈ bs) = fun b => X b ∨ b ∈ [g] ++ bs := by funext b; simp [or_assoc]
        rw [he] at e2
        have hl := l1.trans e3
        refine ⟨x, h', (q, .box cs) :: sv, [g] ++ bs, [g] ++ bs, e6, ?_, fun _ h => h, hl.nodup, hl, ⟨fun j root hj => ?_, fun j root hj => ?_⟩, fun j root hj => ?_, by simp [idsP], fun j hj => ?_⟩
        · simp only [PR, VR, roP, hlook]
          exact ⟨trivial, ⟨g, cur, ty, bs, rfl, g3, rfl, e2⟩, q, g, rfl, g2, rfl⟩
        · rw [look_cons] at hj
          split at hj
          · rename_i e; subst e; injection hj with hj; subst hj; exact hsub _ _ hlook
          · exact S.a _ _ hj
        · cases hl' : look h' j with
          | none => rfl
          | some r' =>
            have h1 := e3.sub j r' hl'
            rw [look_del] at h1
            rw [look_cons] at hj
            split at h1
            · cases h1
            · rename_i hne
              rw [if_neg hne] at hj
              rw [S.b j root hj] at h1; cases h1
        · rw [look_cons]
          split
          · rename_i e; subst e; have := S.b _ _ hj; rw [hlook] at this; cases this
          · exact hj
        · simp only [idsP, List.mem_singleton] at hj
          subst hj
          exact ⟨_, hlook, by rw [look_cons, if_pos rfl]⟩
  | lend k =>
    cases a <;> first | (simp [impP, HM.run] at hr; done) | skip
    · simp only [impP] at hr
      simp only [AVR] at ha
      subst ha
      exact ⟨[], h, sv, [], [], hr, by simp only [PR, VR, IR]; exact ⟨trivial, ⟨_, rfl, by simp [Own]⟩, .inl trivial⟩, fun _ h => h, List.nodup_nil, Limbo.refl I, S, fun _ _ h => h, by simp [idsP], fun j hj => by simp [idsP] at hj⟩
    · rename_i j
      simp only [impP] at hr
      obtain ⟨root, hlook, hr⟩ := get_run hr
      cases root with
      | box => cases hr
      | arr => cases hr
      | list gen k' xs =>
        simp only at hr
        split at hr
        · rename_i hk
          subst hk
          simp only [HM.run] at hr
          obtain ⟨hd, hroot⟩ := I.root j _ hlook
          simp only [RootR] at hroot
          simp only [AVR] at ha
          obtain ⟨_, rfl, _⟩ := ha
          have l1 := Limbo.of_del I hlook (bs := B j) (I.nodup j _ hlook) (fun b hb => hb)
          refine ⟨xs, _, (j, .list gen k' xs) :: sv, B j, B j, hr, ?_, fun _ h => h, l1.nodup, l1, ⟨fun i root hi => ?_, fun i root hi => ?_⟩, fun i root hi => ?_, by simp [idsP], fun i hi => ?_⟩
          · simp only [PR, VR, IR]
            exact ⟨trivial, ⟨_, rfl, hroot.2.1⟩, .inr ⟨j, rfl⟩⟩
          · rw [look_cons] at hi
            split at hi
            · rename_i e; subst e; injection hi with hi; subst hi; exact hsub _ _ hlook
            · exact S.a _ _ hi
          · rw [look_del]
            rw [look_cons] at hi
            split
            · rfl
            · rename_i hne
              rw [if_neg hne] at hi
              exact S.b i root hi
          · rw [look_cons]
            split
            · rename_i e; subst e; have := S.b _ _ hi; rw [hlook] at this; cases this
            · exact hi
          · simp only [idsP, List.mem_singleton] at hi
            subst hi
            exact ⟨_, hlook, by rw [look_cons, if_pos rfl]⟩
        · cases hr
end
end Go.TM

/- The whole list of parameters. -/
set_option linter.unusedVariables false
set_option linter.unusedSimpArgs false
namespace Go.TM
open Go
section
variable {P : Program} {E : Env} {c : Ctx} {h : List (Nat × Root)} {G : Ge} {w : World} {B : Nat → List Nat} {X : Nat → Prop} {sl : Nat → AV} {vs : Nat → Value} {ρ α : Type} {K : α → List (Nat × Root) → Nat → Option ρ} {r : ρ} {nid : Nat}
theorem liveP_out (p : PM) {h' sv : List (Nat × Root)} {a : AV} {f : HM α} (hsub : ∀ j root, look h' j = some root → look h j = some root) (hsv : ∀ j, j ∈ idsP p a → ∃ root, look h j = some root ∧ look sv j = some root) (hr : (liveP p a sv f).run nid h' K = some r) : f.run nid h' K = some r ∧ ∀ j, j ∈ roP h p a → ∃ root, look h' j = some root := by
  cases p with
  | val v =>
    cases v with
    | c ik agg =>
      cases agg with
      | true =>
        cases a <;> first | exact liveI_out ik hr | exact ⟨hr, fun j hj => by simp [roP, roV] at hj⟩
      | false => exact liveI_out ik (avs := [a]) (f := fun _ => f) hr
    | box ik => simp [liveP, HM.run] at hr
    | arr n k => exact ⟨hr, fun j hj => by simp [roP, roV] at hj⟩
    | abox n k => exact ⟨hr, fun j hj => by simp [roP, roV] at hj⟩
    | peek k =>
      cases a <;> first | (simp [liveP, HM.run] at hr; done) | exact ⟨hr, fun j hj => by simp [roP, roV] at hj⟩ | skip
      rename_i q off
      cases off with
      | succ _ => simp [liveP, HM.run] at hr
      | zero =>
        simp only [liveP] at hr
        obtain ⟨root, hlook, hr⟩ := get_run hr
        cases root with
        | list => cases hr
        | arr => cases hr
        | box cs =>
          obtain ⟨e1, e2⟩ := liveI_out (toRo k) hr
          refine ⟨e1, fun j hj => ?_⟩
          simp only [roP, roV, hsub _ _ hlook] at hj
          rcases List.mem_cons.1 hj with rfl | hj
          · exact ⟨_, hlook⟩
          · exact e2 j hj
  | «mut» v => exact ⟨hr, fun j hj => by simp [roP] at hj⟩
  | ptr k l =>
    cases a <;> first | exact ⟨hr, fun j hj => by simp [roP] at hj⟩ | skip
    rename_i q off
    cases off with
    | succ _ => exact ⟨hr, fun j hj => by simp [roP] at hj⟩
    | zero =>
      obtain ⟨root, h1, h2⟩ := hsv q (by simp [idsP])
      simp only [liveP, h2] at hr
      simp only [roP, h1]
      cases root with
      | box cs => exact liveI_out k hr
      | list => cases hr
      | arr => cases hr
  | eat k =>
    cases a <;> first | exact ⟨hr, fun j hj => by simp [roP] at hj⟩ | skip
    rename_i q off
    cases off with
    | succ _ => exact ⟨hr, fun j hj => by simp [roP] at hj⟩
    | zero =>
      obtain ⟨root, h1, h2⟩ := hsv q (by simp [idsP])
      simp only [liveP, h2] at hr
      simp only [roP, h1]
      cases root with
      | box cs => exact liveI_out k hr
      | list => cases hr
      | arr => cases hr
  | lend k => exact ⟨by cases a <;> exact hr, fun j hj => by simp [roP] at hj⟩
theorem dropP_out (p : PM) {h' sv : List (Nat × Root)} {a : AV} {f : HM α} (I : Inv c h' G w B X sl vs) (hsv : ∀ j, j ∈ idsP p a → ∃ root, look h j = some root ∧ look sv j = some root) (hv : ∀ ik, p ≠ .val (.box ik)) (hr : (dropP p a sv f).run nid h' K = some r) : ∃ h'', f.run nid h'' K = some r ∧ Drop c h' G w B X sl vs h'' (roP h p a) := by
  cases p with
  | val v =>
    cases v with
    | c ik agg =>
      cases agg with
      | true =>
        cases a <;> first | exact dropI_out ik I hr | exact ⟨h', hr, by simpa [roP, roV] using Drop.refl I⟩
      | false => exact dropI_out ik (avs := [a]) (f := fun _ => f) I hr
    | box ik => exact absurd rfl (hv ik)
    | arr n k => exact ⟨h', hr, by simpa [roP, roV] using Drop.refl I⟩
    | abox n k => exact ⟨h', hr, by simpa [roP, roV] using Drop.refl I⟩
    | peek k =>
      cases a <;> first | (simp [dropP, HM.run] at hr; done) | exact ⟨h', hr, by simpa [roP, roV] using Drop.refl I⟩
  | «mut» v => exact ⟨h', hr, by simpa [roP] using Drop.refl I⟩
  | ptr k l =>
    cases a <;> first | exact ⟨h', hr, by simpa [roP] using Drop.refl I⟩ | skip
    rename_i q off
    cases off with
    | succ _ => exact ⟨h', hr, by simpa [roP] using Drop.refl I⟩
    | zero =>
      obtain ⟨root, h1, h2⟩ := hsv q (by simp [idsP])
      simp only [dropP, h2] at hr
      simp only [roP, h1]
      cases root with
      | box cs => exact dropI_out k I hr
      | list => cases hr
      | arr => cases hr
  | eat k =>
    cases a <;> first | exact ⟨h', hr, by simpa [roP] using Drop.refl I⟩ | skip
    rename_i q off
    cases off with
    | succ _ => exact ⟨h', hr, by simpa [roP] using Drop.refl I⟩
    | zero =>
      obtain ⟨root, h1, h2⟩ := hsv q (by simp [idsP])
      simp only [dropP, h2] at hr
      simp only [roP, h1]
      cases root with
      | box cs => exact dropI_out k I hr
      | list => cases hr
      | arr => cases hr
  | lend k => exact ⟨h', by cases a <;> exact hr, by simpa [roP] using Drop.refl I⟩
end
def PRs (B : Nat → List Nat) (w : World) (A : Nat → Prop) : (ps : List PM) → List AV → List Nat → List Nat → PMs ps → List Value → Prop
  | [], [], bs, ls, _, vals => bs = [] ∧ ls = [] ∧ vals = []
  | [p], [a], bs, ls, x, vals => ∃ u, vals = [u] ∧ PR B w A p a bs ls x u
  | p :: q :: ps, a :: asv, bs, ls, x, vals => ∃ b1 b2 l1 l2 u us, bs = b1 ++ b2 ∧ ls = l1 ++ l2 ∧ vals = u :: us ∧ PR B w A p a b1 l1 x.1 u ∧ PRs B w A (q :: ps) asv b2 l2 x.2 us
  | _, _, _, _, _, _ => False
def idsPs : List PM → List AV → List Nat
  | p :: ps, a :: asv => idsP p a ++ idsPs ps asv
  | _, _ => []
def roPs (h : List (Nat × Root)) : List PM → List AV → List Nat
  | p :: ps, a :: asv => roP h p a ++ roPs h ps asv
  | _, _ => []
theorem PRs.mono {B : Nat → List Nat} {w : World} {A A' : Nat → Prop} (hA : ∀ b, A b → A' b) : ∀ {ps : List PM} {asv : List AV} {bs ls : List Nat} {x : PMs ps} {vals : List Value}, PRs B w A ps asv bs ls x vals → PRs B w A' ps asv bs ls x vals
  | [], [], _, _, _, _, h => h
  | [p], [a], _, _, _, _, h => by
    simp only [PRs] at h ⊢
    obtain ⟨u, h1, h2⟩ := h
    exact ⟨u, h1, h2.mono hA⟩
  | p :: q :: ps, a :: asv, _, _, _, _, h => by
    simp only [PRs] at h ⊢
    obtain ⟨b1, b2, l1, l2, u, us, h1, h2, h3, h4, h5⟩ := h
    exact ⟨b1, b2, l1, l2, u, us, h1, h2, h3, h4.mono hA, PRs.mono hA h5⟩
  | [], _ :: _, _, _, _, _, h => by simp only [PRs] at h
  | [_], [], _, _, _, _, h => by simp only [PRs] at h
  | [_], _ :: _ :: _, _, _, _, _, h => by simp only [PRs] at h
  | _ :: _ :: _, [], _, _, _, _, h => by simp only [PRs] at h
end Go.TM

/- All arguments in. -/
set_option linter.unusedVariables false
set_option linter.unusedSimpArgs false
namespace Go.TM
open Go
theorem roP_sub {h h0 : List (Nat × Root)} (hs : ∀ j root, look h j = some root → look h0 j = some root) (p : PM) (a : AV) : ∀ j, j ∈ roP h p a → j ∈ roP h0 p a := by
  intro j hj
  cases p with
  | val v =>
    cases v with
    | c ik agg =>
      cases agg with
      | true => cases a <;> exact hj
      | false => exact hj
    | box ik =>
      cases a <;> first | exact hj | skip
      rename_i q off
      cases off with
      | succ _ => exact hj
      | zero =>
        simp only [roP, roV] at hj ⊢
        cases hl : look h q with
        | none => rw [hl] at hj; cases hj
        | some root => rw [hl] at hj; rw [hs _ _ hl]; exact hj
    | arr n k => exact hj
    | abox n k => exact hj
    | peek k =>
      cases a <;> first | exact hj | skip
      rename_i q off
      cases off with
      | succ _ => exact hj
      | zero =>
        simp only [roP, roV] at hj ⊢
        cases hl : look h q with
        | none => rw [hl] at hj; cases hj
        | some root => rw [hl] at hj; rw [hs _ _ hl]; exact hj
  | «mut» v => exact hj
  | ptr k l =>
    cases a <;> first | exact hj | skip
    rename_i q off
    cases off with
    | succ _ => exact hj
    | zero =>
      simp only [roP] at hj ⊢
      cases hl : look h q with
      | none => rw [hl] at hj; cases hj
      | some root => rw [hl] at hj; rw [hs _ _ hl]; exact hj
  | eat k =>
    cases a <;> first | exact hj | skip
    rename_i q off
    cases off with
    | succ _ => exact hj
    | zero =>
      simp only [roP] at hj ⊢
      cases hl : look h q with
      | none => rw [hl] at hj; cases hj
      | some root => rw [hl] at hj; rw [hs _ _ hl]; exact hj
  | lend k => cases a <;> exact hj
section
variable {P : Program} {E : Env} {c : Ctx} {G : Ge} {w : World} {B : Nat → List Nat} {sl : Nat → AV} {vs : Nat → Value} {ρ α : Type} {K : α → List (Nat × Root) → Nat → Option ρ} {r : ρ} {nid : Nat}
theorem impPs_out {h0 : List (Nat × Root)} : ∀ (ps : List PM) {h : List (Nat × Root)} {X : Nat → Prop} {asv : List AV} {vals : List Value} {sv : List (Nat × Root)} {f : PMs ps → List (Nat × Root) → HM α} (I : Inv c h G w B X sl vs) (S : Saved h0 h sv) (hsub : ∀ j root, look h j = some root → look h0 j = some root), (impPs ps asv sv f).run nid h K = some r → AVRs G w (NN c h B X) asv vals →
    ∃ x h' sv' bs ls, (f x sv').run nid h' K = some r ∧ PRs B w (Lent c h' w B (fun b => X b ∨ b ∈ ls) (roPs h0 ps asv)) ps asv bs ls x vals ∧ (∀ b, b ∈ bs → b ∈ ls) ∧ bs.Nodup ∧ Limbo c h G w B X sl vs h' ls ∧ Saved h0 h' sv' ∧ (∀ j root, look sv j = some root → look sv' j = some root) ∧ (idsPs ps asv).Nodup ∧ ∀ j, j ∈ idsPs ps asv → ∃ root, look h j = some root ∧ look sv' j = some root
  | [], h, X, asv, vals, sv, f, I, S, hsub, hr, ha => by
    cases asv with
    | cons _ _ => simp [impPs, HM.run] at hr
    | nil =>
      have hl := ha.length
      have hv : vals = [] := List.eq_nil_of_length_eq_zero hl.symm
      subst hv
      exact ⟨(), h, sv, [], [], hr, by simp [PRs], fun _ h => h, List.nodup_nil, Limbo.refl I, S, fun _ _ h => h, List.nodup_nil, fun j hj => (List.not_mem_nil hj).elim⟩
  | [p], h, X, asv, vals, sv, f, I, S, hsub, hr, ha => by
    match asv, vals, ha, hr with
    | [a], [v], ha, hr =>
      simp only [AVRs] at ha
      obtain ⟨x, h', sv', bs, ls, e1, e2, e3, e4, e5, e6, e7, e8, e9⟩ := impP_out p I S hsub hr ha.1
      exact ⟨x, h', sv', bs, ls, e1, by
        simp only [PRs]
        exact ⟨v, rfl, e2.mono (fun b hb => ⟨hb.1, hb.2.imp id (fun ⟨j, hj, hbj⟩ => ⟨j, by simp only [roPs, List.append_nil]; exact roP_sub hsub p a j hj, hbj⟩)⟩)⟩, e3, e4, e5, e6, e7, by simpa [idsPs] using e8, by simpa [idsPs] using e9⟩
    | [], _, _, hr => simp [impPs, HM.run] at hr
    | _ :: _ :: _, _, _, hr => simp [impPs, HM.run] at hr
    | [_], [], ha, _ => simp only [AVRs] at ha
    | [_], _ :: _ :: _, ha, _ => simp only [AVRs] at ha; exact ha.2.elim
  | p :: q :: ps, h, X, asv, vals, sv, f, I, S, hsub, hr, ha => by
    match asv, vals, ha, hr with
    | a :: asv, v :: vals, ha, hr =>
      simp only [AVRs] at ha
      simp only [impPs] at hr
      obtain ⟨x, h1, sv1, b1, l1, e1, e2, e3, e4, e5, e6, e7, e8, e9⟩ := impP_out p I S hsub hr ha.1
      obtain ⟨y, h2, sv2, b2, l2, f1, f2, f3, f4, f5, f6, f7, f8, f9⟩ := impPs_out (q :: ps) e5.inv e6 (fun j root hj => hsub j root (e5.sub j root hj)) e1 (e5.avrs ha.2)
      have he : (fun b => (X b ∨ b ∈ l1) ∨ b ∈ l2) = fun b => X b ∨ b ∈ l1 ++ l2 := by funext b; simp [or_assoc]
      have g1 := e2.mono (f5.lent (L' := roPs h0 (p :: q :: ps) (a :: asv)) (fun j hj => by
        simp only [roPs]; exact List.mem_append_left _ (roP_sub hsub p a j hj)))
      have g2 := f2.mono (A' := Lent c h2 w B (fun b => (X b ∨ b ∈ l1) ∨ b ∈ l2) (roPs h0 (p :: q :: ps) (a :: asv))) (fun b hb => ⟨hb.1, hb.2.imp id (fun ⟨j, hj, hbj⟩ => ⟨j, by rw [roPs]; exact List.mem_append_right _ hj, hbj⟩)⟩)
      rw [he] at g1 g2
      refine ⟨(x, y), h2, sv2, b1 ++ b2, l1 ++ l2, f1, by simp only [PRs]; exact ⟨b1, b2, l1, l2, v, vals, rfl, rfl, rfl, g1, g2⟩, fun b hb => ?_, ?_, e5.trans f5, f6, fun j root hj => f7 j root (e7 j root hj), ?_, fun j hj => ?_⟩
      · rcases List.mem_append.1 hb with hb | hb
        · exact List.mem_append_left _ (e3 b hb)
        · exact List.mem_append_right _ (f3 b hb)
      · rw [List.nodup_append]
        refine ⟨e4, f4, fun b hb b' hb' heq => ?_⟩
        subst heq
        exact f5.fresh b (f3 b hb') (.inr (e3 b hb))
      · rw [idsPs, List.nodup_append]
        refine ⟨e8, f8, fun j hj j' hj' heq => ?_⟩
        subst heq
        obtain ⟨root, g1, g2⟩ := e9 j hj
        obtain ⟨root', g3, g4⟩ := f9 j hj'
        rw [e6.b _ _ g2] at g3
        cases g3
      · rw [idsPs] at hj
        rcases List.mem_append.1 hj with hj | hj
        · obtain ⟨root, g1, g2⟩ := e9 j hj
          exact ⟨root, g1, f7 _ _ g2⟩
        · obtain ⟨root, g1, g2⟩ := f9 j hj
          exact ⟨root, e5.sub _ _ g1, g2⟩
    | [], _, _, hr => simp [impPs, HM.run] at hr
    | _ :: _, [], ha, _ => simp only [AVRs] at ha
end
end Go.TM

/- What is lent is there; what is lent for good is dropped. -/
set_option linter.unusedVariables false
set_option linter.unusedSimpArgs false
namespace Go.TM
open Go
section
variable {P : Program} {E : Env} {c : Ctx} {G : Ge} {w : World} {B : Nat → List Nat} {X : Nat → Prop} {sl : Nat → AV} {vs : Nat → Value} {ρ α : Type} {K : α → List (Nat × Root) → Nat → Option ρ} {r : ρ} {nid : Nat} {h0 : List (Nat × Root)}
theorem livePs_out : ∀ (ps : List PM) {h sv : List (Nat × Root)} {asv : List AV} {f : HM α}, (∀ j root, look h j = some root → look h0 j = some root) → ps.length = asv.length → (∀ j, j ∈ idsPs ps asv → ∃ root, look h0 j = some root ∧ look sv j = some root) → (livePs ps asv sv f).run nid h K = some r → f.run nid h K = some r ∧ ∀ j, j ∈ roPs h0 ps asv → ∃ root, look h j = some root
  | [], h, sv, [], f, _, _, _, hr => ⟨hr, fun j hj => (List.not_mem_nil hj).elim⟩
  | p :: ps, h, sv, a :: asv, f, hsub, hl, hs, hr => by
    simp only [livePs] at hr
    obtain ⟨h1, h2⟩ := liveP_out p (h := h0) hsub (fun j hj => hs j (by rw [idsPs]; exact List.mem_append_left _ hj)) hr
    obtain ⟨h3, h4⟩ := livePs_out ps hsub (by simpa using hl) (fun j hj => hs j (by rw [idsPs]; exact List.mem_append_right _ hj)) h1
    refine ⟨h3, fun j hj => ?_⟩
    rw [roPs] at hj
    rcases List.mem_append.1 hj with hj | hj
    · exact h2 j hj
    · exact h4 j hj
  | [], _, _, _ :: _, _, _, hl, _, _ => by simp at hl
  | _ :: _, _, _, [], _, _, hl, _, _ => by simp at hl
theorem dropPs_out : ∀ (ps : List PM) {h sv : List (Nat × Root)} {asv : List AV} {f : HM α} (I : Inv c h G w B X sl vs), ps.length = asv.length → (∀ j, j ∈ idsPs ps asv → ∃ root, look h0 j = some root ∧ look sv j = some root) → (∀ p, p ∈ ps → ∀ ik, p ≠ .val (.box ik)) → (dropPs ps asv sv f).run nid h K = some r → ∃ h', f.run nid h' K = some r ∧ Drop c h G w B X sl vs h' (roPs h0 ps asv)
  | [], h, sv, [], f, I, _, _, _, hr => ⟨h, hr, Drop.refl I⟩
  | p :: ps, h, sv, a :: asv, f, I, hl, hs, hp, hr => by
    simp only [dropPs] at hr
    obtain ⟨h1, e1, d1⟩ := dropP_out p (h := h0) I (fun j hj => hs j (by rw [idsPs]; exact List.mem_append_left _ hj)) (hp p List.mem_cons_self) hr
    obtain ⟨h2, e2, d2⟩ := dropPs_out ps d1.inv (by simpa using hl) (fun j hj => hs j (by rw [idsPs]; exact List.mem_append_right _ hj)) (fun q hq => hp q (List.mem_cons_of_mem _ hq)) e1
    exact ⟨h2, e2, by rw [roPs]; exact d1.trans d2⟩
  | [], _, _, _ :: _, _, _, hl, _, _, _ => by simp at hl
  | _ :: _, _, _, [], _, _, hl, _, _, _ => by simp at hl
end
end Go.TM

/- What a call leaves: results, and what its parameters point to. -/
set_option linter.unusedVariables false
set_option linter.unusedSimpArgs false
namespace Go.TM
open Go
def OR (w : World) (A : Nat → Prop) : (p : PM) → List Nat → VKs p.out → Value → Prop
  | .val _, bs, _, _ => bs = []
  | .mut v, bs, y, val => VR v w A bs y val
  | .ptr _ b, bs, y, val => VR (.box b) w A bs y val
  | .eat _, bs, _, _ => bs = []
  | .lend k, bs, y, val => VR (.c (.own k) false) w A bs y val
def ORs (w : World) (A : Nat → Prop) : (ps : List PM) → List Nat → VKs (outs ps) → List Value → Prop
  | [], bs, _, vals => bs = [] ∧ vals = []
  | p :: ps, bs, y, vals => ∃ b1 b2 v vs, bs = b1 ++ b2 ∧ vals = v :: vs ∧ OR w A p b1 (split2 p.out (outs ps) y).1 v ∧ ORs w A ps b2 (split2 p.out (outs ps) y).2 vs
def retV : List Value → Value
  | [v] => v
  | l => .tuple l.toArray
def Holds (P : Program) (f : FuncId) (con : Con) : Prop :=
  ∀ (w : World) (A : Nat → Prop) (vals : List Value) (bs : List Nat) (x : PMs con.ps) (y : VKs (con.rs ++ outs con.ps)),
    con.F x = some y → VRs (con.ps.map PM.vk) w A bs x vals → bs.Nodup → (∀ b, b ∈ bs → b < w.heap.size) → (∀ b, A b → b < w.heap.size ∧ ¬ b ∈ bs) →
    Calls P f vals.toArray w fun e w' => ∃ rv b1 b2, e = .returned (retV rv) ∧
      VRs con.rs w' (fun b => b < w'.heap.size ∧ (A b ∨ b ∈ bs ∨ w.heap.size ≤ b) ∧ ¬ b ∈ b1 ++ b2) b1 (split2 con.rs (outs con.ps) y).1 rv ∧
      ORs w' (fun b => b < w'.heap.size ∧ (A b ∨ b ∈ bs ∨ w.heap.size ≤ b) ∧ ¬ b ∈ b1 ++ b2) con.ps b2 (split2 con.rs (outs con.ps) y).2 vals ∧
      (b1 ++ b2).Nodup ∧ (∀ b, b ∈ b1 ++ b2 → b < w'.heap.size ∧ (b ∈ bs ∨ w.heap.size ≤ b)) ∧
      w'.os = w.os ∧ w'.tape = w.tape ∧ w'.output = w.output ∧ w.heap.size ≤ w'.heap.size ∧ ∀ b, b < w.heap.size → ¬ b ∈ bs → w'.heap[b]? = w.heap[b]?
end Go.TM

/- What a parameter points to comes back. -/
set_option linter.unusedVariables false
set_option linter.unusedSimpArgs false
namespace Go.TM
open Go
def retB : PM → List Nat → List Nat → List Nat
  | .val _, _, _ => []
  | .mut _, ls, _ => ls
  | .ptr _ _, _, bs' => bs'
  | .eat _, _, _ => []
  | .lend _, _, bs' => bs'
def Ge.gen (G : Ge) (j q : Nat) (hd : Nat → Value) : Ge :=
  { D := fun i => i = q ∨ G.D i, L := G.L, KJ := G.KJ, HD := fun i g => if i = j ∧ g = q then hd else G.HD i g }
theorem Ge.gen_pres {G : Ge} {q : Nat} (hq : ¬ G.D q) (h0 : q ≠ 0) (j : Nat) (hd : Nat → Value) (w : World) (N : Nat → Prop) : Pres G w N (G.gen j q hd) w N :=
  ⟨fun _ h => .inr h, fun _ _ => rfl, fun _ _ => rfl, fun i g _ hg => by
    simp only [Ge.gen]
    rw [if_neg]
    rintro ⟨_, rfl⟩
    exact hg.elim h0 hq, fun _ _ _ => rfl, fun _ _ h => h, Nat.le_refl _⟩
structure Back (c : Ctx) (w : World) (sl : Nat → AV) (vs : Nat → Value) (h : List (Nat × Root)) (G : Ge) (B : Nat → List Nat) (X : Nat → Prop) (n : Nat) (ids bs : List Nat) (h' : List (Nat × Root)) (G' : Ge) (B' : Nat → List Nat) (n' : Nat) : Prop where
  inv : Inv c h' G' w B' (fun b => X b ∧ ¬ b ∈ bs) sl vs
  pres : Pres G w (NN c h B X) G' w (NN c h' B' (fun b => X b ∧ ¬ b ∈ bs))
  D : ∀ j, G'.D j → G.D j ∨ (n ≤ j ∧ j < n')
  le : n ≤ n'
  old : ∀ i, ¬ i ∈ ids → ¬ (n ≤ i ∧ i < n') → look h' i = look h i
section
variable {P : Program} {E : Env} {c : Ctx} {h0 : List (Nat × Root)} {G : Ge} {w w' : World} {B : Nat → List Nat} {X0 : Nat → Prop} {sl : Nat → AV} {vs : Nat → Value} {ρ : Type} {K : AV → List (Nat × Root) → Nat → Option ρ} {r : ρ} {m : Nat}
theorem Back.refl {h : List (Nat × Root)} {G : Ge} {B : Nat → List Nat} {X : Nat → Prop} {n : Nat} (I : Inv c h G w B X sl vs) : Back c w sl vs h G B X n [] [] h G B n := by
  have he : (fun b => X b ∧ ¬ b ∈ ([] : List Nat)) = X := by funext b; simp
  exact ⟨by rw [he]; exact I, by rw [he]; exact Pres.refl _ _ _, fun j hj => .inl hj, Nat.le_refl _, fun _ _ _ => rfl⟩
theorem Back.trans {h h' h'' : List (Nat × Root)} {G G' G'' : Ge} {B B' B'' : Nat → List Nat} {X : Nat → Prop} {n n' n'' : Nat} {i1 i2 b1 b2 : List Nat} (a : Back c w sl vs h G B X n i1 b1 h' G' B' n') (b : Back c w sl vs h' G' B' (fun q => X q ∧ ¬ q ∈ b1) n' i2 b2 h'' G'' B'' n'') : Back c w sl vs h G B X n (i1 ++ i2) (b1 ++ b2) h'' G'' B'' n'' := by
  have he : (fun q => (X q ∧ ¬ q ∈ b1) ∧ ¬ q ∈ b2) = fun q => X q ∧ ¬ q ∈ b1 ++ b2 := by funext q; simp [and_assoc]
  obtain ⟨j2, p2, d2, l2, o2⟩ := b
  rw [he] at j2 p2
  exact ⟨j2, a.pres.trans p2, fun j hj => (d2 j hj).elim (fun h => (a.D j h).imp id (fun h => ⟨h.1, by omega⟩)) (fun h => .inr ⟨by have := a.le; omega, h.2⟩), Nat.le_trans a.le l2, fun i hi hn => (o2 i (fun h => hi (List.mem_append_right _ h)) (by have := a.le; omega)).trans (a.old i (fun h => hi (List.mem_append_left _ h)) (by omega))⟩
theorem Inv.regen {h2 : List (Nat × Root)} {G2 : Ge} {B2 : Nat → List Nat} {X2 : Nat → Prop} (I2 : Inv c h2 G2 w' B2 X2 sl vs) {j q : Nat} {k : TM.K} {ys : List k.T} {bs' : List Nat} {val : Value} (hj : look h2 j = none) (hd : G2.D j) (hL : G2.L j = val) (hk : G2.KJ j = k) (hq : ¬ G2.D q) (hq0 : q ≠ 0) (ho : Own (.list k) w' bs' ys [val]) (hn : bs'.Nodup) (hb : ∀ b, b ∈ bs' → X2 b) :
    ∃ G' B', Inv c (TM.put h2 j (.list q k ys)) G' w' B' (fun b => X2 b ∧ ¬ b ∈ bs') sl vs ∧ Pres G2 w' (NN c h2 B2 X2) G' w' (NN c (TM.put h2 j (.list q k ys)) B' (fun b => X2 b ∧ ¬ b ∈ bs')) ∧ ∀ i, G'.D i → G2.D i ∨ i = q := by
  let hd' : Nat → Value := fun o => match blockOf val with
    | some blk => (w'.cell? ⟨blk, o, none⟩).getD Go.undef
    | none => Go.undef
  obtain ⟨i1, p1⟩ := I2.add (G' := G2.gen j q hd') (Ge.gen_pres hq hq0 j hd' w' _) j (.list q k ys) bs' (TM.put h2 j (.list q k ys)) hj (.inr hd) (fun i => look_put h2 j _ i) hn hb (fun N hN => by
    simp only [RootR, Ge.gen, and_self, if_true]
    rw [hL]
    refine ⟨hk, ho, fun blk hblk x hx off hoff => ?_, .inr (.inl trivial)⟩
    obtain ⟨g, cs, b, e1, e2, e3, e4, e5⟩ := own_elem ho (List.getElem?_eq_getElem hx)
    rw [hblk] at e1
    injection e1 with e1
    subst e1
    have hlt : off < cs.length := by rw [e3.len]; exact isL_lt hoff
    have := e5 off _ (List.getElem?_eq_getElem hlt)
    simp only [hd', hblk, this, Option.getD_some])
  exact ⟨_, _, i1, p1, fun i hi => hi.elim .inr .inl⟩
theorem backP_out (p : PM) (I0 : Inv c h0 G w B X0 sl vs) {h2 : List (Nat × Root)} {G2 : Ge} {B2 : Nat → List Nat} {X2 A A' N : Nat → Prop} {n : Nat} (I2 : Inv c h2 G2 w' B2 X2 sl vs) (hG : GeLe G G2) (F : Free' K r G2 n m) {sv : List (Nat × Root)} (hsv : ∀ j root, look sv j = some root → look h0 j = some root)
    {a : AV} {val : Value} {bs ls bs' : List Nat} {x : p.T} {y : VKs p.out} (hp : PR B w A p a bs ls x val) (ha : AVR G w N a val) (ho : OR w' A' p bs' y val) (hnd : bs'.Nodup) (hX : ∀ b, b ∈ retB p ls bs' → X2 b) (hu : ∀ b, b ∈ ls → ¬ b ∈ bs → w'.heap[b]? = w.heap[b]?) (hn : ∀ j, j ∈ idsP p a → look h2 j = none ∧ ∃ root, look h0 j = some root) (hid : (idsP p a).Nodup)
    (hA : ∀ b, A' b → ¬ NN c h2 B2 X2 b ∧ b < w'.heap.size) {f : HM AV} (hr : (backP p a sv y f).run n h2 K = some r) :
    ∃ h3 G3 B3 n3, f.run n3 h3 K = some r ∧ Back c w' sl vs h2 G2 B2 X2 n (idsP p a) (retB p ls bs') h3 G3 B3 n3 := by
  cases p with
  | val v =>
    have hi : idsP (.val v) a = [] := by cases a <;> rfl
    rw [hi]
    exact ⟨h2, G2, B2, n, hr, Back.refl I2⟩
  | eat k =>
    have b := Back.refl (n := n) I2
    exact ⟨h2, G2, B2, n, hr, b.inv, b.pres, b.D, b.le, fun _ _ _ => rfl⟩
  | «mut» v =>
    cases v with
    | c ik agg =>
      cases agg with
      | true =>
        simp only [PR] at hp
        obtain ⟨cs, arr, rfl, rfl, h1, rfl, hm⟩ := hp
        simp only [AVR] at ha
        obtain ⟨arr', e, _, ha⟩ := ha
        injection e with e
        subst e
        simp only [OR, VR] at ho
        obtain ⟨arr', e, ho⟩ := ho
        injection e with e
        subst e
        have hdet := hm.det ho
        subst hdet
        obtain ⟨h3, B3, r1, i3, p3, l3⟩ := backM_out I0 hG hsv ik I2 (c2 := []) (by simpa using ha) hm ho hu hX hn hid hr
        exact ⟨h3, G2, B3, n, r1, i3, p3, fun j hj => .inl hj, Nat.le_refl _, fun i hi _ => l3 i hi⟩
      | false =>
        simp only [PR] at hp
        obtain ⟨rfl, hm⟩ := hp
        simp only [OR, VR] at ho
        have hdet := hm.det ho
        subst hdet
        obtain ⟨h3, B3, r1, i3, p3, l3⟩ := backM_out I0 hG hsv ik I2 (c2 := []) (avs := [a]) (f := fun _ => f) (by simp only [List.append_nil, AVRs]; exact ⟨ha, trivial⟩) hm ho hu hX hn hid hr
        exact ⟨h3, G2, B3, n, r1, i3, p3, fun j hj => .inl hj, Nat.le_refl _, fun i hi _ => l3 i hi⟩
    | _ => simp only [PR] at hp
  | ptr k l =>
    simp only [PR] at hp
    obtain ⟨rfl, _, q, g, rfl, hB, rfl⟩ := hp
    simp only [OR, VR] at ho
    obtain ⟨g', cur, ty, b, e, hg, rfl, ho⟩ := ho
    injection e with e; injection e with e; injection e with e
    subst e
    obtain ⟨hn1, hn2⟩ := List.nodup_cons.1 hnd
    simp only [backP] at hr
    obtain ⟨avs, h3, G3, B3, n3, r1, mm, hv⟩ := expI_out l I2 F ho hn2 (fun b hb => hX b (List.mem_cons_of_mem _ hb)) (fun _ => hA) hr
    simp only [HM.run] at r1
    obtain ⟨hl2, root, hl0⟩ := hn q (by simp [idsP])
    obtain ⟨hd, _⟩ := I0.root q root hl0
    simp only [AVR] at ha
    obtain ⟨_, g', hL, e⟩ := ha
    injection e with e; injection e with e; injection e with e
    subst e
    have hq : ¬ (n ≤ q ∧ q < n3) := fun hqq => by
      obtain ⟨v', h', n', h1, h2⟩ := HM.run_up _ r1
      exact F.free q hqq.1 (by have := F.le _ _ _ h2; omega) (hG.D q hd)
    have hd3 := mm.pres.n q (hG.D q hd)
    obtain ⟨i4, p4⟩ := mm.inv.add (Pres.refl _ _ _) q (.box avs) [g] (TM.put h3 q (.box avs)) ((mm.old q hq).trans hl2) hd3 (fun i => look_put h3 q _ i) (by simp) (fun b' hb' => by
      simp only [List.mem_singleton] at hb'
      subst hb'
      exact ⟨hX _ List.mem_cons_self, hn1⟩) (fun N' hN => by
      simp only [RootR]
      have hNN := funext (fun b' => propext (hN b'))
      rw [hNN]
      exact ⟨g, cur, ty, (mm.pres.L q (hG.D q hd)).trans ((hG.L q hd).trans hL), rfl, hg, ho.one, hv⟩)
    have he : (fun q => (X2 q ∧ ¬ q ∈ b) ∧ ¬ q ∈ [g]) = fun q => X2 q ∧ ¬ q ∈ g :: b := by
      funext q
      apply propext
      have e1 : q ∈ [g] ↔ q = g := List.mem_singleton
      rw [e1, List.mem_cons, not_or]
      exact ⟨fun ⟨⟨a, b⟩, c⟩ => ⟨a, c, b⟩, fun ⟨a, c, b⟩ => ⟨⟨a, b⟩, c⟩⟩
    rw [he] at i4 p4
    refine ⟨_, G3, _, n3, r1, i4, mm.pres.trans p4, mm.D, mm.le, fun i hi hni => ?_⟩
    simp only [idsP, List.mem_singleton] at hi
    rw [look_put, if_neg (fun e => hi e.symm)]
    exact mm.old i hni
  | lend k =>
    simp only [PR] at hp
    obtain ⟨rfl, hv, hcase⟩ := hp
    simp only [OR, VR, IR] at ho hv
    obtain ⟨v', e, ho⟩ := ho
    injection e with e
    subst e
    rcases hcase with rfl | ⟨j, rfl⟩
    · simp only [AVR] at ha
      subst ha
      have hy : bs' = [] := by
        simp only [Own] at ho
        obtain ⟨v', e, ho⟩ := ho
        injection e with e
        subst e
        rcases ho with ⟨_, _, h⟩ | ⟨g, _, _, _, _, _, e, _⟩
        · exact h
        · cases e
      subst hy
      have b := Back.refl (n := n) I2
      exact ⟨h2, G2, B2, n, hr, b.inv, b.pres, b.D, b.le, fun _ _ _ => rfl⟩
    · simp only [backP] at hr
      split at hr
      · rename_i gen k' xs hsvj
        obtain ⟨hk, hr⟩ := bif_run hr
        simp only [decide_eq_true_eq] at hk
        subst hk
        have hj0 := hsv _ _ hsvj
        obtain ⟨hd, hroot⟩ := I0.root j _ hj0
        simp only [RootR] at hroot
        simp only [AVR] at ha
        obtain ⟨_, hval, _⟩ := ha
        simp only [HM.run] at hr
        obtain ⟨hc, hr⟩ := bif_run hr
        have hn0 : n ≠ 0 := by
          intro e
          subst e
          simp at hc
        simp only [HM.run] at hr
        obtain ⟨v', h', n', g1, g2⟩ := HM.run_up _ hr
        have hle := F.le _ _ _ g2
        have hfr := F.free n (Nat.le_refl _) (by omega)
        obtain ⟨hl2, _⟩ := hn j (by simp [idsP])
        obtain ⟨G3, B3, i3, p3, d3⟩ := I2.regen (q := n) hl2 (hG.D j hd) ((hG.L j hd).trans hval.symm) ((hG.KJ j hd).trans hroot.1) hfr hn0 ho hnd hX
        have hlook : ∀ i, look (TM.put (TM.del ((n, .box []) :: h2) n) j (.list n k' y)) i = look (TM.put h2 j (.list n k' y)) i := by
          intro i
          rw [look_put, look_put, look_del, look_cons]
          by_cases hij : j = i
          · rw [if_pos hij, if_pos hij]
          · rw [if_neg hij, if_neg hij]
            by_cases hni : n = i
            · rw [if_pos hni, ← hni, I2.fresh hfr]
            · rw [if_neg hni, if_neg hni]
        have i4 := i3.congr hlook (by rw [← NN_congr (c := c) (B := B3) (X := fun b => X2 b ∧ ¬ b ∈ bs') hlook]; rw [NN_congr (c := c) (B := B3) (X := fun b => X2 b ∧ ¬ b ∈ bs') hlook]; exact i3.slots)
        refine ⟨_, G3, B3, n + 1, hr, i4, ?_, fun i hi => (d3 i hi).imp id (fun e => by omega), Nat.le_succ _, fun i hi hni => ?_⟩
        · simp only [retB]
          rw [NN_congr hlook]; exact p3
        · simp only [idsP, List.mem_singleton] at hi
          rw [hlook, look_put, if_neg (fun e => hi e.symm)]
      · cases hr
end
end Go.TM

/- All parameters come back. -/
set_option linter.unusedVariables false
set_option linter.unusedSimpArgs false
namespace Go.TM
open Go
section
variable {P : Program} {E : Env} {c : Ctx} {h0 : List (Nat × Root)} {G : Ge} {w w' : World} {B : Nat → List Nat} {X0 : Nat → Prop} {sl : Nat → AV} {vs : Nat → Value} {ρ : Type} {K : AV → List (Nat × Root) → Nat → Option ρ} {r : ρ} {m : Nat}
theorem PR.ret {A A' : Nat → Prop} {p : PM} {a : AV} {bs ls bs' : List Nat} {x : p.T} {y : VKs p.out} {val : Value} (hp : PR B w A p a bs ls x val) (ho : OR w' A' p bs' y val) : ∀ b, b ∈ retB p ls bs' → b ∈ bs' ∨ (b ∈ ls ∧ ¬ b ∈ bs) := by
  intro b hb
  cases p with
  | val v => cases hb
  | «mut» v =>
    by_cases hbs : b ∈ bs
    · left
      cases v with
      | c ik agg =>
        cases agg with
        | true =>
          simp only [PR] at hp
          obtain ⟨cs, arr, rfl, rfl, _, _, hm⟩ := hp
          simp only [OR, VR] at ho
          obtain ⟨arr', e, ho⟩ := ho
          injection e with e
          subst e
          rw [hm.det ho]; exact hbs
        | false =>
          simp only [PR] at hp
          simp only [OR, VR] at ho
          rw [hp.2.det ho]; exact hbs
      | _ => simp only [PR] at hp
    · exact .inr ⟨hb, hbs⟩
  | ptr k l => exact .inl hb
  | eat k => cases hb
  | lend k => exact .inl hb
theorem PRs.cons {A : Nat → Prop} : ∀ {p : PM} {ps : List PM} {asv : List AV} {bs ls : List Nat} {x : PMs (p :: ps)} {vals : List Value}, PRs B w A (p :: ps) asv bs ls x vals → ∃ (a : AV) (as' : List AV) (b1 b2 l1 l2 : List Nat) (u : Value) (us : List Value) (x1 : p.T) (x2 : PMs ps), asv = a :: as' ∧ bs = b1 ++ b2 ∧ ls = l1 ++ l2 ∧ vals = u :: us ∧ PR B w A p a b1 l1 x1 u ∧ PRs B w A ps as' b2 l2 x2 us
  | p, [], [a], bs, ls, x, vals, h => by
    simp only [PRs] at h
    obtain ⟨u, rfl, h⟩ := h
    exact ⟨a, [], bs, [], ls, [], u, [], x, (), rfl, by simp, by simp, rfl, h, by simp [PRs]⟩
  | p, q :: ps, a :: asv, bs, ls, x, vals, h => by
    simp only [PRs] at h
    obtain ⟨b1, b2, l1, l2, u, us, h1, h2, h3, h4, h5⟩ := h
    exact ⟨a, asv, b1, b2, l1, l2, u, us, x.1, x.2, rfl, h1, h2, h3, h4, h5⟩
  | _, [], [], _, _, _, _, h => by simp only [PRs] at h
  | _, [], _ :: _ :: _, _, _, _, _, h => by simp only [PRs] at h
  | _, _ :: _, [], _, _, _, _, h => by simp only [PRs] at h
theorem PR.sub {A : Nat → Prop} {p : PM} {a : AV} {bs ls : List Nat} {x : p.T} {val : Value} (hp : PR B w A p a bs ls x val) : ∀ b, b ∈ bs → b ∈ ls := by
  cases p with
  | val v => simp only [PR] at hp; rw [hp.1]; exact fun _ h => h
  | «mut» v =>
    cases v with
    | c ik agg =>
      cases agg with
      | true =>
        simp only [PR] at hp
        obtain ⟨cs, arr, _, _, _, rfl, hm⟩ := hp
        exact hm.sub
      | false =>
        simp only [PR] at hp
        rw [hp.1]
        exact hp.2.sub
    | _ => simp only [PR] at hp
  | ptr k l => simp only [PR] at hp; rw [hp.1]; exact fun _ h => h
  | eat k => simp only [PR] at hp; rw [hp.1]; exact fun _ h => h
  | lend k => simp only [PR] at hp; rw [hp.1]; exact fun _ h => h
theorem PRs.sub {A : Nat → Prop} : ∀ {ps : List PM} {asv : List AV} {bs ls : List Nat} {x : PMs ps} {vals : List Value}, PRs B w A ps asv bs ls x vals → ∀ b, b ∈ bs → b ∈ ls
  | [], [], _, _, _, _, h, b, hb => by simp only [PRs] at h; rw [h.1] at hb; cases hb
  | [], _ :: _, _, _, _, _, h, _, _ => by simp only [PRs] at h
  | p :: ps, asv, _, _, _, _, h, b, hb => by
    obtain ⟨a, as', b1, b2, l1, l2, u, us, x1, x2, _, rfl, rfl, _, h1, h2⟩ := h.cons
    rcases List.mem_append.1 hb with hb | hb
    · exact List.mem_append_left _ (h1.sub b hb)
    · exact List.mem_append_right _ (PRs.sub h2 b hb)
theorem backPs_out (I0 : Inv c h0 G w B X0 sl vs) {sv : List (Nat × Root)} (hsv : ∀ j root, look sv j = some root → look h0 j = some root) {A A' N : Nat → Prop} {bsAll : List Nat} (hun : ∀ b, b < w.heap.size → ¬ b ∈ bsAll → w'.heap[b]? = w.heap[b]?) :
    ∀ (ps : List PM) {h2 : List (Nat × Root)} {G2 : Ge} {B2 : Nat → List Nat} {X2 : Nat → Prop} {n : Nat} {asv : List AV} {vals : List Value} {bs ls bs' : List Nat} {x : PMs ps} {y : VKs (outs ps)} {f : HM AV} (I2 : Inv c h2 G2 w' B2 X2 sl vs) (hG : GeLe G G2) (F : Free' K r G2 n m), PRs B w A ps asv bs ls x vals → AVRs G w N asv vals → ORs w' A' ps bs' y vals → bs'.Nodup → ls.Nodup →
      (∀ b, b ∈ ls → b < w.heap.size) → (∀ b, b ∈ ls → ¬ b ∈ bs → ¬ b ∈ bsAll) → (∀ b, b ∈ bs' → b ∈ bsAll ∨ w.heap.size ≤ b) → (∀ b, b ∈ bs' → X2 b) → (∀ b, b ∈ ls → ¬ b ∈ bsAll → X2 b) → (∀ j, j ∈ idsPs ps asv → look h2 j = none ∧ (∃ root, look h0 j = some root)) → (idsPs ps asv).Nodup → (∀ b, A' b → ¬ NN c h2 B2 X2 b ∧ b < w'.heap.size) → (backPs ps asv sv y f).run n h2 K = some r →
      ∃ h3 G3 B3 n3 R, f.run n3 h3 K = some r ∧ Back c w' sl vs h2 G2 B2 X2 n (idsPs ps asv) R h3 G3 B3 n3 ∧ ∀ b, b ∈ R → b ∈ bs' ∨ (b ∈ ls ∧ ¬ b ∈ bsAll)
  | [], h2, G2, B2, X2, n, asv, vals, bs, ls, bs', x, y, f, I2, hG, F, hp, ha, ho, hnd, hnl, hlt, hks, hbs, hX1, hX2, hn, hid, hA, hr => by
    refine ⟨h2, G2, B2, n, [], by simpa [backPs] using hr, by simpa [idsPs] using Back.refl I2, fun b hb => (List.not_mem_nil hb).elim⟩
  | p :: ps, h2, G2, B2, X2, n, asv, vals, bs, ls, bs', x, y, f, I2, hG, F, hp, ha, ho, hnd, hnl, hlt, hks, hbs, hX1, hX2, hn, hid, hA, hr => by
    obtain ⟨a, as', b1, b2, l1, l2, u, us, x1, x2, rfl, rfl, rfl, rfl, hp1, hp2⟩ := hp.cons
    simp only [ORs] at ho
    obtain ⟨d1, d2, u', us', rfl, e, o1, o2⟩ := ho
    injection e with e1 e2
    subst e1; subst e2
    simp only [AVRs] at ha
    simp only [backPs] at hr
    rw [List.nodup_append] at hnd hnl
    obtain ⟨nd1, nd2, nd3⟩ := hnd
    obtain ⟨nl1, nl2, nl3⟩ := hnl
    rw [idsPs] at hid
    rw [List.nodup_append] at hid
    obtain ⟨ni1, ni2, ni3⟩ := hid
    have hk1 : ∀ b, b ∈ l1 → ¬ b ∈ b1 → ¬ b ∈ bsAll := fun b hb hnb => hks b (List.mem_append_left _ hb) (fun h => (List.mem_append.1 h).elim hnb (fun h2 => nl3 b hb b (hp2.sub b h2) rfl))
    have hk2 : ∀ b, b ∈ l2 → ¬ b ∈ b2 → ¬ b ∈ bsAll := fun b hb hnb => hks b (List.mem_append_right _ hb) (fun h => (List.mem_append.1 h).elim (fun h1 => nl3 b (hp1.sub b h1) b hb rfl) hnb)
    have hret := hp1.ret o1
    obtain ⟨h3, G3, B3, n3, r1, bk1⟩ := backP_out p I0 I2 hG F hsv hp1 ha.1 o1 nd1 (fun b hb => (hret b hb).elim (fun h => hX1 b (List.mem_append_left _ h)) (fun h => hX2 b (List.mem_append_left _ h.1) (hk1 b h.1 h.2))) (fun b hb hnb => hun b (hlt b (List.mem_append_left _ hb)) (hk1 b hb hnb)) (fun j hj => hn j (by rw [idsPs]; exact List.mem_append_left _ hj)) ni1 hA hr
    have hG3 : GeLe G G3 := hG.trans (GeLe.of bk1.pres)
    have hgone : ∀ j, j ∈ idsPs ps as' → look h3 j = none ∧ ∃ root, look h0 j = some root := by
      intro j hj
      obtain ⟨q1, root, q2⟩ := hn j (by rw [idsPs]; exact List.mem_append_right _ hj)
      refine ⟨(bk1.old j (fun h => ni3 j h j hj rfl) (fun hq => ?_)).trans q1, root, q2⟩
      obtain ⟨v', h', n', g1, g2⟩ := HM.run_up _ r1
      exact F.free j hq.1 (by have := F.le _ _ _ g2; omega) (hG.D j (I0.root j root q2).1)
    obtain ⟨h4, G4, B4, n4, R, r2, bk2, hR⟩ := backPs_out I0 hsv hun ps bk1.inv hG3 (F.step bk1.D bk1.le) hp2 ha.2 o2 nd2 nl2 (fun b hb => hlt b (List.mem_append_right _ hb)) hk2 (fun b hb => hbs b (List.mem_append_right _ hb)) (fun b hb => ⟨hX1 b (List.mem_append_right _ hb), fun hrb => (hret b hrb).elim (fun h => nd3 b h b hb rfl) (fun h => (hbs b (List.mem_append_right _ hb)).elim (hk1 b h.1 h.2) (fun hsz => by have := hlt b (List.mem_append_left _ h.1); omega))⟩) (fun b hb hnb => ⟨hX2 b (List.mem_append_right _ hb) hnb, fun hrb => (hret b hrb).elim (fun h => (hbs b (List.mem_append_left _ h)).elim hnb (fun hsz => by have := hlt b (List.mem_append_right _ hb); omega)) (fun h => nl3 b h.1 b hb rfl)⟩) hgone ni2 (fun b hb => ⟨fun hN => (hA b hb).1 (bk1.pres.av b (hA b hb).2 hN), (hA b hb).2⟩) r1
    refine ⟨h4, G4, B4, n4, _, r2, by rw [idsPs]; exact bk1.trans bk2, fun b hb => ?_⟩
    rcases List.mem_append.1 hb with hb | hb
    · exact (hret b hb).imp (List.mem_append_left _) (fun h => ⟨List.mem_append_left _ h.1, hk1 b h.1 h.2⟩)
    · exact (hR b hb).imp (List.mem_append_right _) (fun h => ⟨List.mem_append_right _ h.1, h.2⟩)
end
end Go.TM

/- A call, out of what is held of the function called. -/
set_option linter.unusedVariables false
set_option linter.unusedSimpArgs false
namespace Go.TM
open Go
theorem IR.any : ∀ {k : IK} {w : World} {A A' : Nat → Prop} {bs : List Nat} {x : k.T} {cs : List Value}, k.hasRo = false → IR k w A bs x cs → IR k w A' bs x cs
  | .int _, _, _, _, _, _, _, _, h => h
  | .bool, _, _, _, _, _, _, _, h => h
  | .str, _, _, _, _, _, _, _, h => h
  | .ro _, _, _, _, _, _, _, hr, _ => by simp [IK.hasRo] at hr
  | .own _, _, _, _, _, _, _, _, h => h
  | .pair a b, _, _, _, _, _, _, hr, h => by
    simp only [IK.hasRo, Bool.or_eq_false_iff] at hr
    simp only [IR] at h ⊢
    obtain ⟨b1, b2, c1, c2, h1, h2, h3, h4⟩ := h
    exact ⟨b1, b2, c1, c2, h1, h2, h3.any hr.1, h4.any hr.2⟩
theorem VR.any {v : VK} {w : World} {A A' : Nat → Prop} {bs : List Nat} {x : v.T} {val : Value} (hr : v.noRo = true) (h : VR v w A bs x val) : VR v w A' bs x val := by
  cases v with
  | c ik agg =>
    simp only [VK.noRo, Bool.not_eq_true'] at hr
    cases agg with
    | true => simp only [VR] at h ⊢; obtain ⟨a, h1, h2⟩ := h; exact ⟨a, h1, h2.any hr⟩
    | false => simp only [VR] at h ⊢; exact h.any hr
  | box ik =>
    simp only [VK.noRo, Bool.not_eq_true'] at hr
    simp only [VR] at h ⊢; obtain ⟨g, cur, ty, b, h1, h2, h3, h4⟩ := h; exact ⟨g, cur, ty, b, h1, h2, h3, h4.any hr⟩
  | arr n k =>
    simp only [VR] at h ⊢; obtain ⟨h0, a, rs, h1, h2, h3⟩ := h
    exact ⟨h0, a, [], h1, ro_flat (k := .arr n k) (by simpa [K.flat, VK.noRo] using hr) h2, fun b hb => (List.not_mem_nil hb).elim⟩
  | abox n k => simp only [VR] at h ⊢; exact h
  | peek k => simp [VK.noRo] at hr
theorem VRs.any {A A' : Nat → Prop} {w : World} : ∀ {l : List VK} {bs : List Nat} {x : VKs l} {vals : List Value}, l.all VK.noRo = true → VRs l w A bs x vals → VRs l w A' bs x vals
  | [], _, _, _, _, h => h
  | [v], _, _, _, hr, h => by
    simp only [List.all_cons, List.all_nil, Bool.and_true] at hr
    simp only [VRs] at h ⊢
    obtain ⟨u, h1, h2⟩ := h
    exact ⟨u, h1, h2.any hr⟩
  | v :: v' :: l, _, _, _, hr, h => by
    rw [List.all_cons, Bool.and_eq_true] at hr
    simp only [VRs] at h ⊢
    obtain ⟨b1, b2, u, us, h1, h2, h3, h4⟩ := h
    exact ⟨b1, b2, u, us, h1, h2, h3.any hr.1, VRs.any hr.2 h4⟩
theorem OR.any {A A' : Nat → Prop} {w : World} {p : PM} {bs : List Nat} {y : VKs p.out} {val : Value} (hr : p.out.all VK.noRo = true) (h : OR w A p bs y val) : OR w A' p bs y val := by
  cases p with
  | val v => exact h
  | «mut» v => simp only [PM.out, List.all_cons, List.all_nil, Bool.and_true] at hr; exact VR.any hr h
  | ptr k l => simp only [PM.out, List.all_cons, List.all_nil, Bool.and_true] at hr; exact VR.any hr h
  | eat k => exact h
  | lend k => exact h
theorem ORs.any {A A' : Nat → Prop} {w : World} : ∀ {ps : List PM} {bs : List Nat} {y : VKs (outs ps)} {vals : List Value}, (outs ps).all VK.noRo = true → ORs w A ps bs y vals → ORs w A' ps bs y vals
  | [], _, _, _, _, h => h
  | p :: ps, _, _, _, hr, h => by
    have hr' : p.out.all VK.noRo = true ∧ (outs ps).all VK.noRo = true := by
      have : outs (p :: ps) = p.out ++ outs ps := rfl
      rw [this, List.all_append, Bool.and_eq_true] at hr
      exact hr
    simp only [ORs] at h ⊢
    obtain ⟨b1, b2, v, vs, h1, h2, h3, h4⟩ := h
    exact ⟨b1, b2, v, vs, h1, h2, h3.any hr'.1, ORs.any hr'.2 h4⟩
section
variable {B : Nat → List Nat} {w : World} {A : Nat → Prop}
theorem PR.vr {p : PM} {a : AV} {bs ls : List Nat} {x : p.T} {val : Value} (hp : PR B w A p a bs ls x val) : VR p.vk w A bs x val := by
  cases p with
  | val v => simp only [PR] at hp; exact hp.2
  | «mut» v =>
    cases v with
    | c ik agg =>
      cases agg with
      | true =>
        simp only [PR] at hp
        obtain ⟨cs, arr, rfl, rfl, _, _, hm⟩ := hp
        simp only [PM.vk, VR]
        exact ⟨arr, rfl, hm.ir⟩
      | false =>
        simp only [PR] at hp
        simp only [PM.vk, VR]
        exact hp.2.ir
    | _ => simp only [PR] at hp
  | ptr k l => simp only [PR] at hp; exact hp.2.1
  | eat k => simp only [PR] at hp; exact hp.2.1
  | lend k => simp only [PR] at hp; exact hp.2.1
theorem PRs.vrs : ∀ {ps : List PM} {asv : List AV} {bs ls : List Nat} {x : PMs ps} {vals : List Value}, PRs B w A ps asv bs ls x vals → VRs (ps.map PM.vk) w A bs x vals ∧ ps.length = asv.length
  | [], [], _, _, _, _, h => by simp only [PRs] at h; exact ⟨⟨h.1, h.2.2⟩, rfl⟩
  | [p], [a], _, _, _, _, h => by
    simp only [PRs] at h
    obtain ⟨u, h1, h2⟩ := h
    exact ⟨⟨u, h1, h2.vr⟩, rfl⟩
  | p :: q :: ps, a :: asv, _, _, _, _, h => by
    simp only [PRs] at h
    obtain ⟨b1, b2, l1, l2, u, us, h1, h2, h3, h4, h5⟩ := h
    obtain ⟨g1, g2⟩ := PRs.vrs h5
    exact ⟨⟨b1, b2, u, us, h1, h3, h4.vr, g1⟩, by simp only [List.length_cons] at g2 ⊢; omega⟩
  | [], _ :: _, _, _, _, _, h => by simp only [PRs] at h
  | [_], [], _, _, _, _, h => by simp only [PRs] at h
  | [_], _ :: _ :: _, _, _, _, _, h => by simp only [PRs] at h
  | _ :: _ :: _, [], _, _, _, _, h => by simp only [PRs] at h
end
theorem livePs_nobox {ρ α : Type} {K : α → List (Nat × Root) → Nat → Option ρ} {r : ρ} {nid : Nat} : ∀ (ps : List PM) {h sv : List (Nat × Root)} {asv : List AV} {f : HM α}, ps.length = asv.length → (livePs ps asv sv f).run nid h K = some r → ∀ p, p ∈ ps → ∀ ik, p ≠ .val (.box ik)
  | [], _, _, _, _, _, _, p, hp => (List.not_mem_nil hp).elim
  | p :: ps, h, sv, a :: asv, f, hl, hr, q, hq => by
    simp only [livePs] at hr
    rcases List.mem_cons.1 hq with rfl | hq
    · intro ik e
      subst e
      simp [liveP, HM.run] at hr
    · have h1 : ∃ h', (livePs ps asv sv f).run nid h' K = some r := by
        cases p with
        | val v =>
          cases v with
          | c ik agg =>
            cases agg with
            | true => cases a <;> first | exact ⟨h, (liveI_out ik hr).1⟩ | exact ⟨h, hr⟩
            | false => exact ⟨h, (liveI_out ik (avs := [a]) (f := fun _ => livePs ps asv sv f) hr).1⟩
          | box ik => simp [liveP, HM.run] at hr
          | arr _ _ => exact ⟨h, hr⟩
          | abox _ _ => exact ⟨h, hr⟩
          | peek k =>
            cases a <;> first | (simp [liveP, HM.run] at hr; done) | exact ⟨h, hr⟩ | skip
            rename_i q off
            cases off with
            | succ _ => simp [liveP, HM.run] at hr
            | zero =>
              simp only [liveP] at hr
              obtain ⟨root, hlook, hr⟩ := get_run hr
              cases root with
              | list => cases hr
              | arr => cases hr
              | box cs => exact ⟨h, (liveI_out (toRo k) hr).1⟩
        | «mut» v => exact ⟨h, hr⟩
        | ptr k l =>
          cases a <;> first | exact ⟨h, hr⟩ | skip
          rename_i q' off
          cases off with
          | succ _ => exact ⟨h, hr⟩
          | zero =>
            simp only [liveP] at hr
            split at hr
            · exact ⟨h, (liveI_out k hr).1⟩
            · cases hr
        | eat k =>
          cases a <;> first | exact ⟨h, hr⟩ | skip
          rename_i q' off
          cases off with
          | succ _ => exact ⟨h, hr⟩
          | zero =>
            simp only [liveP] at hr
            split at hr
            · exact ⟨h, (liveI_out k hr).1⟩
            · cases hr
        | lend k => exact ⟨h, by cases a <;> exact hr⟩
      obtain ⟨h', h1⟩ := h1
      exact livePs_nobox ps (by simpa using hl) h1 q hq
  | _ :: _, _, _, [], _, hl, _, _, _ => by simp at hl
end Go.TM

/- A call, out of what is held of the function called. -/
set_option linter.unusedVariables false
set_option linter.unusedSimpArgs false
namespace Go.TM
open Go
def Enters (P : Program) (g : FuncId) : Prop := ∀ (vals : Array Value) (w : World), (callFunc g vals).run P w = .ok (.enter g vals) w
section
variable {P : Program} {E : Env} {c : Ctx} {h : List (Nat × Root)} {G : Ge} {w : World} {B : Nat → List Nat} {sl : Nat → AV} {vs : Nat → Value} {ρ : Type} {K : AV → List (Nat × Root) → Nat → Option ρ} {r : ρ} {nid m : Nat}
theorem ret_avr {N : Nat → Prop} {avs : List AV} {rv : List Value} (ha : AVRs G w N avs rv) : AVR G w N (retOf avs) (retV rv) := by
  match avs, rv, ha with
  | [], [], ha => simp only [retOf, retV, AVR]; exact ⟨_, rfl, by simpa using ha⟩
  | [a], [v], ha => simp only [AVRs] at ha; simp only [retOf, retV]; exact ha.1
  | a :: b :: l, v :: u :: l', ha => simp only [retOf, retV, AVR]; exact ⟨_, rfl, by simpa using ha⟩
  | [], _ :: _, ha => simp only [AVRs] at ha
  | _ :: _, [], ha => simp only [AVRs] at ha
  | [_], _ :: _ :: _, ha => simp only [AVRs] at ha; exact ha.2.elim
  | _ :: _ :: _, [_], ha => simp only [AVRs] at ha; exact ha.2.elim
theorem call_back {con : Con} {g : FuncId} {h1 h1' sv : List (Nat × Root)} {avs : List AV} {vals : List Value} {bs ls : List Nat} {x : PMs con.ps} {y : VKs (con.rs ++ outs con.ps)} {X1 : Nat → Prop} {w' : World} {rv : List Value} {b1 b2 : List Nat}
    (hX : ∀ b, c.X b → b < c.w0.heap.size ∧ ¬ b ∈ c.F) (I : Inv c h G w B Emp sl vs) (R : Room K r G nid m)
    (hX1 : ∀ b, X1 b ↔ b ∈ ls)
    (I1 : Inv c h1' G w B X1 sl vs) (hsub : ∀ j root, look h1' j = some root → look h1 j = some root) (hsub0 : ∀ j root, look h1 j = some root → look h j = some root)
    (I1' : Inv c h1 G w B X1 sl vs)
    (hgone : (con.rs ++ outs con.ps).all VK.noRo = true ∨ ∀ j, j ∈ roPs h con.ps avs → look h1' j = none ∧ ∃ root, look h1 j = some root)
    (S : Saved h h1 sv) (hidn : (idsPs con.ps avs).Nodup) (hids : ∀ j, j ∈ idsPs con.ps avs → ∃ root, look h j = some root ∧ look sv j = some root)
    (hp : PRs B w (Lent c h1 w B X1 (roPs h con.ps avs)) con.ps avs bs ls x vals) (ha : AVRs G w (NN c h B Emp) avs vals) (hbl : ∀ b, b ∈ bs → b ∈ ls) (hln : ls.Nodup)
    (hr : (backPs con.ps avs sv (split2 con.rs (outs con.ps) y).2 (expVs con.rs (split2 con.rs (outs con.ps) y).1 fun vs => .ret (retOf vs))).run nid h1' K = some r)
    (q1 : VRs con.rs w' (fun b => b < w'.heap.size ∧ (Lent c h1 w B X1 (roPs h con.ps avs) b ∨ b ∈ bs ∨ w.heap.size ≤ b) ∧ ¬ b ∈ b1 ++ b2) b1 (split2 con.rs (outs con.ps) y).1 rv)
    (q2 : ORs w' (fun b => b < w'.heap.size ∧ (Lent c h1 w B X1 (roPs h con.ps avs) b ∨ b ∈ bs ∨ w.heap.size ≤ b) ∧ ¬ b ∈ b1 ++ b2) con.ps b2 (split2 con.rs (outs con.ps) y).2 vals)
    (q3 : (b1 ++ b2).Nodup) (q4 : ∀ b, b ∈ b1 ++ b2 → b < w'.heap.size ∧ (b ∈ bs ∨ w.heap.size ≤ b))
    (q5 : w'.os = w.os) (q6 : w'.tape = w.tape) (q7 : w'.output = w.output) (q8 : w.heap.size ≤ w'.heap.size) (q9 : ∀ b, b < w.heap.size → ¬ b ∈ bs → w'.heap[b]? = w.heap[b]?) :
    Out c K r G nid sl vs (retV rv) w' := by
  have hls : ∀ b, b ∈ ls → b < w.heap.size ∧ (b ∈ c.F ∨ c.w0.heap.size ≤ b) := fun b hb => I1.lim b ((hX1 b).2 hb)
  obtain ⟨I2, P2⟩ := I1.world (w' := w') q5 q6 q7 q8 (fun b hb hn => q9 b hb (fun h => hn ((hX1 b).2 (hbl b h))))
  -- what is to come back is still away
  obtain ⟨I3, P3⟩ := I2.less (fun b => (X1 b ∨ (w.heap.size ≤ b ∧ b < w'.heap.size)) ∧ (b ∈ b1 ++ b2 ∨ (b ∈ ls ∧ ¬ b ∈ bs))) (fun b hb => hb.1)
  generalize hX3 : (fun b => (X1 b ∨ (w.heap.size ≤ b ∧ b < w'.heap.size)) ∧ (b ∈ b1 ++ b2 ∨ (b ∈ ls ∧ ¬ b ∈ bs))) = X3 at I3 P3
  have hX3' : ∀ b, X3 b ↔ (X1 b ∨ (w.heap.size ≤ b ∧ b < w'.heap.size)) ∧ (b ∈ b1 ++ b2 ∨ (b ∈ ls ∧ ¬ b ∈ bs)) := by intro b; rw [← hX3]
  -- what may be read
  obtain ⟨A2, hA2, q1, q2⟩ : ∃ A2 : Nat → Prop, (∀ b, A2 b → ¬ NN c h1' B X3 b ∧ b < w'.heap.size) ∧ VRs con.rs w' A2 b1 (split2 con.rs (outs con.ps) y).1 rv ∧ ORs w' A2 con.ps b2 (split2 con.rs (outs con.ps) y).2 vals := by
    rcases hgone with hno | hgone
    · rw [List.all_append, Bool.and_eq_true] at hno
      exact ⟨fun _ => False, fun b hb => hb.elim, q1.any hno.1, q2.any hno.2⟩
    · refine ⟨_, fun b hb => ⟨fun hN => ?_, hb.1⟩, q1, q2⟩
      obtain ⟨hb0, hb1, hb2⟩ := hb
      have hx3 : X3 b → b ∈ ls ∧ ¬ b ∈ bs := fun h => ((hX3' b).1 h).2.resolve_left hb2
      rcases hb1 with ⟨hlt, hb1⟩ | hb1 | hb1
      · rcases hb1 with hb1 | ⟨j, hj, hbj⟩
        · rcases hN with ⟨i, ri, hi, hbi⟩ | hN | hN
          · exact hb1 (.inl ⟨i, ri, hsub _ _ hi, hbi⟩)
          · exact hb1 (.inr (.inl ((hX1 b).2 (hx3 hN).1)))
          · exact hb1 (.inr (.inr hN))
        · obtain ⟨hj1, root, hj2⟩ := hgone j hj
          obtain ⟨o1, o2, o3⟩ := I1'.own j root hj2 b hbj
          rcases hN with ⟨i, ri, hi, hbi⟩ | hN | hN
          · have hij : i ≠ j := by rintro rfl; rw [hj1] at hi; cases hi
            exact I1'.disj i j ri root hij (hsub _ _ hi) hj2 b hbi hbj
          · exact o3 ((hX1 b).2 (hx3 hN).1)
          · obtain ⟨e1, e2⟩ := hX b hN
            exact o2.elim e2 (fun h => by omega)
      · rcases hN with ⟨i, ri, hi, hbi⟩ | hN | hN
        · exact (I1.own i ri hi b hbi).2.2 ((hX1 b).2 (hbl b hb1))
        · exact (hx3 hN).2 hb1
        · obtain ⟨e1, e2⟩ := hX b hN
          exact (hls b (hbl b hb1)).2.elim e2 (fun h => by omega)
      · rcases hN with ⟨i, ri, hi, hbi⟩ | hN | hN
        · have := (I1.own i ri hi b hbi).1; omega
        · have := (hls b (hx3 hN).1).1; omega
        · have := (hX b hN).1
          have := I.size
          omega
  rw [List.nodup_append] at q3
  obtain ⟨n1, n2, n3⟩ := q3
  have hgn : ∀ j, j ∈ idsPs con.ps avs → look h1' j = none ∧ ∃ root, look h j = some root := by
    intro j hj
    obtain ⟨root, g1, g2⟩ := hids j hj
    refine ⟨?_, root, g1⟩
    cases hl : look h1' j with
    | none => rfl
    | some r' => have := hsub j r' hl; rw [S.b j root g2] at this; cases this
  obtain ⟨h3, G3, B3, n3', Rr, r3, bk, hR⟩ := backPs_out (A' := A2) (K := K) (m := m) I S.a (bsAll := bs) q9 con.ps I3 ⟨fun _ h => h, fun _ _ => rfl, fun _ _ => rfl, fun _ _ _ _ => rfl⟩ ⟨R.le, R.free⟩ hp ha q2 n2 hln (fun b hb => (hls b hb).1) (fun b _ hb => hb)
    (fun b hb => (q4 b (List.mem_append_right _ hb)).2)
    (fun b hb => (hX3' b).2 ⟨(q4 b (List.mem_append_right _ hb)).2.imp (fun h => (hX1 b).2 (hbl b h)) (fun h => ⟨h, (q4 b (List.mem_append_right _ hb)).1⟩), .inl (List.mem_append_right _ hb)⟩)
    (fun b hb hnb => (hX3' b).2 ⟨.inl ((hX1 b).2 hb), .inr ⟨hb, hnb⟩⟩) hgn hidn hA2 hr
  obtain ⟨ravs, h4, G4, B4, n4, r4, mm, hv⟩ := expVs_out (K := K) (m := m) (A := A2) con.rs bk.inv (Free'.step ⟨R.le, R.free⟩ bk.D bk.le) q1 n1 (fun b hb => ⟨(hX3' b).2 ⟨(q4 b (List.mem_append_left _ hb)).2.imp (fun h => (hX1 b).2 (hbl b h)) (fun h => ⟨h, (q4 b (List.mem_append_left _ hb)).1⟩), .inl (List.mem_append_left _ hb)⟩, fun hbr => (hR b hbr).elim (fun h => n3 b hb b h rfl) (fun h => (q4 b (List.mem_append_left _ hb)).2.elim h.2 (fun h' => by have := (hls b h.1).1; omega))⟩)
    (fun b hb => ⟨fun hN => (hA2 b hb).1 (bk.pres.av b (hA2 b hb).2 hN), (hA2 b hb).2⟩) r3
  obtain ⟨I5, P5⟩ := mm.inv.less Emp (fun b hb => hb.elim)
  refine ⟨retOf ravs, h4, n4, G4, B4, r4, fun j hj => mm.pres.n j (bk.pres.n j hj), fun j hj => ?_, I5, AVR.pres P5 _ _ (ret_avr hv)⟩
  rcases mm.D j hj with hj | hj
  · exact (bk.D j hj).imp id (fun h => ⟨h.1, by have := mm.le; omega⟩)
  · exact .inr ⟨by have := bk.le; omega, hj.2⟩
theorem call_sim {g : FuncId} {con : Con} (hg : Enters P g) (hH : Holds P g con) (hX : ∀ b, c.X b → b < c.w0.heap.size ∧ ¬ b ∈ c.F) (I : Inv c h G w B Emp sl vs) (R : Room K r G nid m) {avs : List AV} {vals : List Value} (hr : (semCall con avs).run nid h K = some r) (ha : AVRs G w (NN c h B Emp) avs vals) : OpSim P c K r G nid sl vs (callFunc g vals.toArray) w := by
  unfold semCall at hr
  obtain ⟨x, h1, sv, bs, ls, r1, hp, hbl, hbn, lim, S, _, hidn, hids⟩ := impPs_out (h0 := h) con.ps I (sv := []) ⟨fun j root hj => (by cases hj), fun j root hj => (by cases hj)⟩ (fun _ _ h => h) hr ha
  obtain ⟨hvr, hlen⟩ := hp.vrs
  obtain ⟨r2, hlive⟩ := livePs_out (h0 := h) con.ps (fun j root hj => lim.sub j root hj) hlen hids r1
  have hnobox := livePs_nobox con.ps hlen r1
  have hE1 : ∀ b, (Emp b ∨ b ∈ ls) ↔ b ∈ ls := fun b => ⟨fun h => h.elim (fun h => h.elim) id, .inr⟩
  have hlent : ∀ b, Lent c h1 w B (fun b => Emp b ∨ b ∈ ls) (roPs h con.ps avs) b → b < w.heap.size ∧ ¬ b ∈ bs := by
    rintro b ⟨hb1, hb2⟩
    refine ⟨hb1, fun hbb => ?_⟩
    rcases hb2 with hb2 | ⟨j, hj, hbj⟩
    · exact hb2 (.inr (.inl (.inr (hbl b hbb))))
    · obtain ⟨root, hroot⟩ := hlive j hj
      exact (lim.inv.own j root hroot b hbj).2.2 (.inr (hbl b hbb))
  have hlt : ∀ b, b ∈ bs → b < w.heap.size := fun b hb => (lim.inv.lim b (.inr (hbl b hb))).1
  have fin : ∀ h1', Inv c h1' G w B (fun b => Emp b ∨ b ∈ ls) sl vs → (∀ j root, look h1' j = some root → look h1 j = some root) → ((con.rs ++ outs con.ps).all VK.noRo = true ∨ ∀ j, j ∈ roPs h con.ps avs → look h1' j = none ∧ ∃ root, look h1 j = some root) →
      (HM.lift (con.F x) fun y => backPs con.ps avs sv (split2 con.rs (outs con.ps) y).2 (expVs con.rs (split2 con.rs (outs con.ps) y).1 fun vs => .ret (retOf vs))).run nid h1' K = some r → OpSim P c K r G nid sl vs (callFunc g vals.toArray) w := by
    intro h1' I1 hsub hgone hr
    simp only [HM.run] at hr
    cases hF : con.F x with
    | none => rw [hF] at hr; cases hr
    | some y =>
      rw [hF] at hr
      simp only [Option.bind_some] at hr
      refine .inr (.inr ⟨g, vals.toArray, hg _ _, (hH w _ vals bs x y hF hvr hbn hlt hlent).mono ?_⟩)
      rintro e w' ⟨rv, b1, b2, rfl, q1, q2, q3, q4, q5, q6, q7, q8, q9⟩
      exact ⟨retV rv, rfl, call_back (g := g) hX I R hE1 I1 hsub (fun j root hj => lim.sub j root hj) lim.inv hgone S hidn hids hp ha hbl lim.nodup hr q1 q2 q3 q4 q5 q6 q7 q8 q9⟩
  cases hno : (con.rs ++ outs con.ps).all VK.noRo with
  | true =>
    simp only [hno, cond_true] at r2
    exact fin h1 lim.inv (fun _ _ h => h) (.inl hno) r2
  | false =>
    simp only [hno, cond_false] at r2
    obtain ⟨h1', r3, d⟩ := dropPs_out (h0 := h) con.ps lim.inv hlen hids hnobox r2
    exact fin h1' d.inv d.sub (.inr fun j hj => ⟨d.gone j hj, hlive j hj⟩) r3
theorem callSim_of (hg : ∀ g con, look E.cons g = some con → Enters P g ∧ Holds P g con) : CallSim P E := fun g con hcon => fun hX I R hr ha => call_sim (hg g con hcon).1 (hg g con hcon).2 hX I R hr ha
end
end Go.TM

/- A region's operations over data: step by step, and in any order that its edges allow. -/
set_option linter.unusedVariables false
set_option linter.unusedSimpArgs false
namespace Go.TM
open Go
abbrev Hp := List (Nat × Root)
def HM.go {α : Type} (x : HM α) (n : Nat) (h : Hp) (R W : List Nat) : Option (α × Hp × Nat × List Nat × List Nat) := x.runL n h R W fun v h n R W => some (v, h, n, R, W)
theorem runL_some {α ρ : Type} : ∀ (x : HM α) {n : Nat} {h : Hp} {R W : List Nat} {K : α → Hp → Nat → List Nat → List Nat → Option ρ} {r : ρ}, x.runL n h R W K = some r → ∃ v h' n' R' W', x.go n h R W = some (v, h', n', R', W') ∧ K v h' n' R' W' = some r
  | .ret v, n, h, R, W, K, r, hr => ⟨v, h, n, R, W, rfl, hr⟩
  | .get i k, n, h, R, W, K, r, hr => by
    simp only [HM.runL] at hr
    cases hl : look h i with
    | none => rw [hl] at hr; cases hr
    | some root =>
      rw [hl] at hr
      obtain ⟨v, h', n', R', W', h1, h2⟩ := runL_some (k root) hr
      exact ⟨v, h', n', R', W', by simp only [HM.go, HM.runL, hl]; exact h1, h2⟩
  | .put i root k, n, h, R, W, K, r, hr => runL_some k hr
  | .del i k, n, h, R, W, K, r, hr => runL_some k hr
  | .new root k, n, h, R, W, K, r, hr => runL_some (k n) hr
  | .lift o k, n, h, R, W, K, r, hr => by
    simp only [HM.runL] at hr
    cases o with
    | none => cases hr
    | some x =>
      obtain ⟨v, h', n', R', W', h1, h2⟩ := runL_some (k x) hr
      exact ⟨v, h', n', R', W', by simp only [HM.go, HM.runL]; exact h1, h2⟩
  | .ite b x y, n, h, R, W, K, r, hr => by
    simp only [HM.runL] at hr
    cases b with
    | true =>
      obtain ⟨v, h', n', R', W', h1, h2⟩ := runL_some x hr
      exact ⟨v, h', n', R', W', by simp only [HM.go, HM.runL]; exact h1, h2⟩
    | false =>
      obtain ⟨v, h', n', R', W', h1, h2⟩ := runL_some y hr
      exact ⟨v, h', n', R', W', by simp only [HM.go, HM.runL]; exact h1, h2⟩
  | .fail, n, h, R, W, K, r, hr => by cases hr
theorem run_some {α ρ : Type} : ∀ (x : HM α) {n : Nat} {h : Hp} (R W : List Nat) {K : α → Hp → Nat → Option ρ} {r : ρ}, x.run n h K = some r → ∃ v h' n' R' W', x.go n h R W = some (v, h', n', R', W') ∧ K v h' n' = some r
  | .ret v, n, h, R, W, K, r, hr => ⟨v, h, n, R, W, rfl, hr⟩
  | .get i k, n, h, R, W, K, r, hr => by
    simp only [HM.run] at hr
    cases hl : look h i with
    | none => rw [hl] at hr; cases hr
    | some root =>
      rw [hl] at hr
      obtain ⟨v, h', n', R', W', h1, h2⟩ := run_some (k root) (i :: R) W hr
      exact ⟨v, h', n', R', W', by simp only [HM.go, HM.runL, hl]; exact h1, h2⟩
  | .put i root k, n, h, R, W, K, r, hr => run_some k R (i :: W) hr
  | .del i k, n, h, R, W, K, r, hr => run_some k R (i :: W) hr
  | .new root k, n, h, R, W, K, r, hr => run_some (k n) R (n :: W) hr
  | .lift o k, n, h, R, W, K, r, hr => by
    simp only [HM.run] at hr
    cases o with
    | none => cases hr
    | some x =>
      obtain ⟨v, h', n', R', W', h1, h2⟩ := run_some (k x) R W hr
      exact ⟨v, h', n', R', W', by simp only [HM.go, HM.runL]; exact h1, h2⟩
  | .ite b x y, n, h, R, W, K, r, hr => by
    simp only [HM.run] at hr
    cases b with
    | true =>
      obtain ⟨v, h', n', R', W', h1, h2⟩ := run_some x R W hr
      exact ⟨v, h', n', R', W', by simp only [HM.go, HM.runL]; exact h1, h2⟩
    | false =>
      obtain ⟨v, h', n', R', W', h1, h2⟩ := run_some y R W hr
      exact ⟨v, h', n', R', W', by simp only [HM.go, HM.runL]; exact h1, h2⟩
  | .fail, n, h, R, W, K, r, hr => by cases hr
theorem go_run {α ρ : Type} : ∀ (x : HM α) {n : Nat} {h : Hp} {R W : List Nat} {v : α} {h' : Hp} {n' : Nat} {R' W' : List Nat} (K : α → Hp → Nat → Option ρ), x.go n h R W = some (v, h', n', R', W') → x.run n h K = K v h' n'
  | .ret v, n, h, R, W, _, _, _, _, _, K, hr => by
    simp only [HM.go, HM.runL, Option.some.injEq, Prod.mk.injEq] at hr
    obtain ⟨rfl, rfl, rfl, _⟩ := hr
    rfl
  | .get i k, n, h, R, W, _, _, _, _, _, K, hr => by
    simp only [HM.go, HM.runL] at hr
    simp only [HM.run]
    cases hl : look h i with
    | none => rw [hl] at hr; cases hr
    | some root =>
      rw [hl] at hr
      exact go_run (k root) K hr
  | .put i root k, n, h, R, W, _, _, _, _, _, K, hr => go_run k K (R := R) (W := i :: W) hr
  | .del i k, n, h, R, W, _, _, _, _, _, K, hr => go_run k K (R := R) (W := i :: W) hr
  | .new root k, n, h, R, W, _, _, _, _, _, K, hr => go_run (k n) K (R := R) (W := n :: W) hr
  | .lift o k, n, h, R, W, _, _, _, _, _, K, hr => by
    simp only [HM.go, HM.runL] at hr
    simp only [HM.run]
    cases o with
    | none => cases hr
    | some x => exact go_run (k x) K hr
  | .ite b x y, n, h, R, W, _, _, _, _, _, K, hr => by
    simp only [HM.go, HM.runL] at hr
    simp only [HM.run]
    cases b with
    | true => exact go_run x K hr
    | false => exact go_run y K hr
  | .fail, n, h, R, W, _, _, _, _, _, K, hr => by cases hr
structure Local {α : Type} (x : HM α) (n : Nat) (h : Hp) (R W : List Nat) (v : α) (h' : Hp) (n' : Nat) (R' W' : List Nat) : Prop where
  inR : ∀ i, i ∈ R → i ∈ R'
  inW : ∀ i, i ∈ W → i ∈ W'
  keep : ∀ i, ¬ i ∈ W' → look h' i = look h i
  other : ∀ h2 : Hp, (∀ i, i ∈ R' → look h2 i = look h i) → ∃ h2', x.go n h2 R W = some (v, h2', n', R', W') ∧
    (∀ i, look h2 i = look h i → look h2' i = look h' i) ∧ (∀ i, i ∈ W' → ¬ i ∈ W → look h2' i = look h' i) ∧ (∀ i, ¬ i ∈ W' → look h2' i = look h2 i)
theorem go_local {α : Type} : ∀ (x : HM α) {n : Nat} {h : Hp} {R W : List Nat} {v : α} {h' : Hp} {n' : Nat} {R' W' : List Nat}, x.go n h R W = some (v, h', n', R', W') → Local x n h R W v h' n' R' W'
  | .ret v, n, h, R, W, _, _, _, _, _, hr => by
    simp only [HM.go, HM.runL, Option.some.injEq, Prod.mk.injEq] at hr
    obtain ⟨rfl, rfl, rfl, rfl, rfl⟩ := hr
    exact ⟨fun _ h => h, fun _ h => h, fun _ _ => rfl, fun h2 _ => ⟨h2, rfl, fun _ h => h, fun i h1 h2 => absurd h1 h2, fun _ _ => rfl⟩⟩
  | .get i k, n, h, R, W, v, h', n', R', W', hr => by
    simp only [HM.go, HM.runL] at hr
    cases hl : look h i with
    | none => rw [hl] at hr; cases hr
    | some root =>
      rw [hl] at hr
      have L := go_local (k root) hr
      refine ⟨fun j hj => L.inR j (List.mem_cons_of_mem _ hj), L.inW, L.keep, fun h2 h2e => ?_⟩
      obtain ⟨h2', g1, g2⟩ := L.other h2 h2e
      refine ⟨h2', ?_, g2⟩
      simp only [HM.go, HM.runL, (h2e i (L.inR i List.mem_cons_self)).trans hl]
      exact g1
  | .put i root k, n, h, R, W, v, h', n', R', W', hr => by
    have L := go_local k (R := R) (W := i :: W) hr
    have hi := L.inW i List.mem_cons_self
    refine ⟨L.inR, fun j hj => L.inW j (List.mem_cons_of_mem _ hj), fun j hj => ?_, fun h2 h2e => ?_⟩
    · rw [L.keep j hj, look_put, if_neg (fun e : _ = j => hj (e ▸ hi))]
    · obtain ⟨h2', g1, g2, g3, g4⟩ := L.other (TM.put h2 i root) (fun j hj => by
        rw [look_put, look_put]
        split
        · rfl
        · exact h2e j hj)
      refine ⟨h2', g1, fun j hj => g2 j (by
        rw [look_put, look_put]
        split
        · rfl
        · exact hj), fun j hj hjw => ?_, fun j hj => by rw [g4 j hj, look_put, if_neg (fun e : _ = j => hj (e ▸ hi))]⟩
      by_cases e : i = j
      · exact g2 j (by rw [look_put, look_put, if_pos e, if_pos e])
      · exact g3 j hj (fun h => (List.mem_cons.1 h).elim (fun h => e h.symm) hjw)
  | .del i k, n, h, R, W, v, h', n', R', W', hr => by
    have L := go_local k (R := R) (W := i :: W) hr
    have hi := L.inW i List.mem_cons_self
    refine ⟨L.inR, fun j hj => L.inW j (List.mem_cons_of_mem _ hj), fun j hj => ?_, fun h2 h2e => ?_⟩
    · rw [L.keep j hj, look_del, if_neg (fun e : _ = j => hj (e ▸ hi))]
    · obtain ⟨h2', g1, g2, g3, g4⟩ := L.other (TM.del h2 i) (fun j hj => by
        rw [look_del, look_del]
        split
        · rfl
        · exact h2e j hj)
      refine ⟨h2', g1, fun j hj => g2 j (by
        rw [look_del, look_del]
        split
        · rfl
        · exact hj), fun j hj hjw => ?_, fun j hj => by rw [g4 j hj, look_del, if_neg (fun e : _ = j => hj (e ▸ hi))]⟩
      by_cases e : i = j
      · exact g2 j (by rw [look_del, look_del, if_pos e, if_pos e])
      · exact g3 j hj (fun h => (List.mem_cons.1 h).elim (fun h => e h.symm) hjw)
  | .new root k, n, h, R, W, v, h', n', R', W', hr => by
    have L := go_local (k n) (R := R) (W := n :: W) hr
    have hi := L.inW n List.mem_cons_self
    refine ⟨L.inR, fun j hj => L.inW j (List.mem_cons_of_mem _ hj), fun j hj => ?_, fun h2 h2e => ?_⟩
    · rw [L.keep j hj, look_cons, if_neg (fun e : _ = j => hj (e ▸ hi))]
    · obtain ⟨h2', g1, g2, g3, g4⟩ := L.other ((n, root) :: h2) (fun j hj => by
        rw [look_cons, look_cons]
        split
        · rfl
        · exact h2e j hj)
      refine ⟨h2', g1, fun j hj => g2 j (by
        rw [look_cons, look_cons]
        split
        · rfl
        · exact hj), fun j hj hjw => ?_, fun j hj => by rw [g4 j hj, look_cons, if_neg (fun e : _ = j => hj (e ▸ hi))]⟩
      by_cases e : n = j
      · exact g2 j (by rw [look_cons, look_cons, if_pos e, if_pos e])
      · exact g3 j hj (fun h => (List.mem_cons.1 h).elim (fun h => e h.symm) hjw)
  | .lift o k, n, h, R, W, v, h', n', R', W', hr => by
    simp only [HM.go, HM.runL] at hr
    cases o with
    | none => cases hr
    | some x =>
      have L := go_local (k x) hr
      exact ⟨L.inR, L.inW, L.keep, fun h2 h2e => L.other h2 h2e⟩
  | .ite b x y, n, h, R, W, v, h', n', R', W', hr => by
    simp only [HM.go, HM.runL] at hr
    cases b with
    | true =>
      have L := go_local x hr
      exact ⟨L.inR, L.inW, L.keep, fun h2 h2e => L.other h2 h2e⟩
    | false =>
      have L := go_local y hr
      exact ⟨L.inR, L.inW, L.keep, fun h2 h2e => L.other h2 h2e⟩
  | .fail, n, h, R, W, v, h', n', R', W', hr => by cases hr
theorem fill_congr (size : Nat → Option (Nat × Nat)) {ev ev' : Operand → AV} : ∀ (ps : List (Nat × Operand)) (cs : List AV), (∀ x, x ∈ ps.map (·.2) → ev x = ev' x) → fill size ev ps cs = fill size ev' ps cs
  | [], cs, _ => rfl
  | (i, x) :: r, cs, h => by
    simp only [fill]
    rw [h x (by simp)]
    split
    · rfl
    · rw [fill_congr size r _ (fun y hy => h y (by simp only [List.map_cons]; exact List.mem_cons_of_mem _ hy))]
theorem sem_congr {E : Env} {ev ev' : Operand → AV} (op : Op) (h : ∀ x, x ∈ op.operands → ev x = ev' x) : sem E ev op = sem E ev' op := by
  cases op <;> simp only [Op.operands] at h <;> simp only [sem]
  case build t ps =>
    have hf := fun size cs => fill_congr (ev := ev) (ev' := ev') size ps.toList cs (fun x hx => h x (by simpa using hx))
    simp only [semBuild, hf]
  case buildSlice t n ps =>
    have hf := fun size cs => fill_congr (ev := ev) (ev' := ev') size ps.toList cs (fun x hx => h x (by simpa using hx))
    simp only [semBuildSlice, hf]
  case call c =>
    have ha : c.args.toList.map ev = c.args.toList.map ev' := List.map_congr_left fun x hx => h x (by unfold Call.operands; exact Array.mem_append_right _ (by simpa using hx))
    cases hc : c.callee with
    | builtin b => simp only [ha]
    | value f => simp only [ha, h f (by simp [Call.operands, hc])]
    | invoke r m => rfl
  case slice t x lo hi mx =>
    cases mx with
    | some _ => rfl
    | none =>
      simp only [sem]
      cases lo <;> cases hi <;> simp_all
  all_goals (first | rfl | (simp_all; done))
def opGo (E : Env) (q : Nat) (o : Oper) (s : TS) : Option (TS × List Nat × List Nat) :=
  match (sem E s.ev o.op).go (s.next + 16 * q) s.roots [] [] with
  | some (v, h, n, R, W) => bif Nat.ble n (s.next + 16 * (q + 1)) then some ({ s with roots := h }.set o.dst v, R, W) else none
  | none => none
def opStep (E : Env) (all : List Oper) (q : Nat) (o : Oper) (s : TS) : Option (TS × List Nat × List Nat) :=
  match o.guard with
  | none => opGo E q o s
  | some (j, want) => match dstOf all j with
    | none => none
    | some d => match s.slot d with
      | .bool b => bif b == want then opGo E q o s else some (s.set o.dst .skip, [], [])
      | .skip => some (s.set o.dst .skip, [], [])
      | _ => none
theorem put_same {α : Type} : ∀ (l : List (Nat × α)) (j : Nat) (x : α), look l j = some x → put l j x = l
  | [], j, x, h => by cases h
  | (i, a) :: r, j, x, h => by
    simp only [look] at h
    simp only [put]
    cases hb : Nat.beq i j with
    | true => rw [hb] at h; simp only [cond_true, Option.some.injEq] at h; subst h; rfl
    | false => rw [hb] at h; simp only [cond_false] at h ⊢; rw [put_same r j x h]
theorem slot_bool {s : TS} {d : Nat} {b : Bool} (h : s.slot d = .bool b) : s.set (some d) (.bool b) = s := by
  have hl : look s.slots d = some (.bool b) := by
    unfold TS.slot at h
    cases hl : look s.slots d with
    | none => rw [hl] at h; cases h
    | some a => rw [hl] at h; simp only [Option.getD_some] at h; rw [h]
  cases s
  simp only [TS.set] at hl ⊢
  rw [put_same _ _ _ hl]
section
variable {E : Env} {ρ : Type} {r : ρ}
theorem opGo_of {q : Nat} {o : Oper} {s : TS} {K : TS → Option ρ} (h : ((sem E s.ev o.op).run (s.next + 16 * q) s.roots fun v h n => bif Nat.ble n (s.next + 16 * (q + 1)) then K ({ s with roots := h }.set o.dst v) else none) = some r) :
    ∃ s' R W, opGo E q o s = some (s', R, W) ∧ K s' = some r := by
  obtain ⟨v, h', n', R', W', h1, h2⟩ := run_some _ [] [] h
  cases hb : Nat.ble n' (s.next + 16 * (q + 1)) with
  | false => rw [hb] at h2; cases h2
  | true => rw [hb] at h2; exact ⟨_, R', W', by simp only [opGo, h1, hb, cond_true], h2⟩
theorem opGo_ofL {q : Nat} {o : Oper} {s : TS} {K : TS → List Nat → List Nat → Option ρ} (h : ((sem E s.ev o.op).runL (s.next + 16 * q) s.roots [] [] fun v h n R W => bif Nat.ble n (s.next + 16 * (q + 1)) then K ({ s with roots := h }.set o.dst v) R W else none) = some r) :
    ∃ s' R W, opGo E q o s = some (s', R, W) ∧ K s' R W = some r := by
  obtain ⟨v, h', n', R', W', h1, h2⟩ := runL_some _ h
  cases hb : Nat.ble n' (s.next + 16 * (q + 1)) with
  | false => rw [hb] at h2; cases h2
  | true => rw [hb] at h2; exact ⟨_, R', W', by simp only [opGo, h1, hb, cond_true], h2⟩
theorem runOps_cons {all : List Oper} {q : Nat} {o : Oper} {l : List Oper} {s : TS} {K : TS → Option ρ} (h : runOps E all q (o :: l) s K = some r) :
    ∃ s' R W, opStep E all q o s = some (s', R, W) ∧ runOps E all (q + 1) l s' K = some r := by
  simp only [runOps] at h
  unfold opStep
  cases hg : o.guard with
  | none => rw [hg] at h; exact opGo_of h
  | some g =>
    obtain ⟨j, want⟩ := g
    rw [hg] at h
    simp only at h ⊢
    cases hd : dstOf all j with
    | none => rw [hd] at h; cases h
    | some d =>
      rw [hd] at h
      simp only at h ⊢
      split at h
      · rename_i b hb
        simp only [hb]
        cases b with
        | true =>
          simp only [cond_true, slot_bool hb] at h
          cases want with
          | true => simp only [cond_true] at h; exact opGo_of h
          | false => exact ⟨_, [], [], rfl, h⟩
        | false =>
          simp only [cond_false, slot_bool hb] at h
          cases want with
          | true => exact ⟨_, [], [], rfl, h⟩
          | false => simp only [cond_false] at h; exact opGo_of h
      · rename_i hb
        simp only [hb]
        exact ⟨_, [], [], rfl, h⟩
      · cases h
theorem runOpsD_cons {all : List Oper} {q : Nat} {o : Oper} {l : List Oper} {s : TS} {f : List (List Nat × List Nat)} {K : TS → Option ρ} (h : runOpsD E all q (o :: l) s f K = some r) :
    ∃ s' R W, opStep E all q o s = some (s', R, W) ∧ runOpsD E all (q + 1) l s' ((R, W) :: f) K = some r := by
  simp only [runOpsD] at h
  unfold opStep
  cases hg : o.guard with
  | none => rw [hg] at h; exact opGo_ofL (K := fun s R W => runOpsD E all (q + 1) l s ((R, W) :: f) K) h
  | some g =>
    obtain ⟨j, want⟩ := g
    rw [hg] at h
    simp only at h ⊢
    cases hd : dstOf all j with
    | none => rw [hd] at h; cases h
    | some d =>
      rw [hd] at h
      simp only at h ⊢
      split at h
      · rename_i b hb
        simp only [hb]
        cases b with
        | true =>
          simp only [cond_true, slot_bool hb] at h
          cases want with
          | true => simp only [cond_true] at h; exact opGo_ofL (K := fun s R W => runOpsD E all (q + 1) l s ((R, W) :: f) K) h
          | false => exact ⟨_, [], [], rfl, h⟩
        | false =>
          simp only [cond_false, slot_bool hb] at h
          cases want with
          | true => exact ⟨_, [], [], rfl, h⟩
          | false => simp only [cond_false] at h; exact opGo_ofL (K := fun s R W => runOpsD E all (q + 1) l s ((R, W) :: f) K) h
      · rename_i hb
        simp only [hb]
        exact ⟨_, [], [], rfl, h⟩
      · cases h
theorem runOpsD_row {all : List Oper} {K : TS → Option ρ} : ∀ (l : List Oper) {q : Nat} {s : TS} {f : List (List Nat × List Nat)}, runOpsD E all q l s f K = some r →
    ∃ (st : Nat → TS) (RW : Nat → List Nat × List Nat), st 0 = s ∧ (∀ k o, l[k]? = some o → opStep E all (q + k) o (st k) = some (st (k + 1), RW k)) ∧ drawOk all (f.reverse ++ (List.range l.length).map RW) = true ∧ K (st l.length) = some r
  | [], q, s, f, h => by
    simp only [runOpsD] at h
    cases hd : drawOk all f.reverse with
    | false => rw [hd] at h; cases h
    | true => rw [hd] at h; exact ⟨fun _ => s, fun _ => ([], []), rfl, fun k o hk => by simp at hk, by simpa using hd, h⟩
  | o :: l, q, s, f, h => by
    obtain ⟨s', R, W, h1, h2⟩ := runOpsD_cons h
    obtain ⟨st, RW, e1, e2, e3, e4⟩ := runOpsD_row l h2
    refine ⟨fun | 0 => s | k + 1 => st k, fun | 0 => (R, W) | k + 1 => RW k, rfl, fun k o' hk => ?_, ?_, e4⟩
    · cases k with
      | zero => simp only [List.getElem?_cons_zero, Option.some.injEq] at hk; subst hk; simp only [Nat.add_zero]; rw [h1, e1]
      | succ k => simp only [List.getElem?_cons_succ] at hk; have := e2 k o' hk; rw [show q + (k + 1) = q + 1 + k from by omega]; exact this
    · rw [List.length_cons, List.range_succ_eq_map, List.map_cons, List.map_map]
      simpa [List.reverse_cons, List.append_assoc, Function.comp_def] using e3
end
end Go.TM

/- Operations in any order that their edges allow come to the same state. -/
set_option linter.unusedVariables false
set_option linter.unusedSimpArgs false
namespace Go.TM
open Go
inductive Pl where
  | slot (t : Nat) | root (i : Nat)
def TS.at (s : TS) : Pl → AV ⊕ Option Root
  | .slot t => .inl (s.slot t)
  | .root i => .inr (look s.roots i)
def Wr (o : Oper) (RW : List Nat × List Nat) : Pl → Prop
  | .slot t => o.dst = some t
  | .root i => i ∈ RW.2
def Rd (all : List Oper) (o : Oper) (RW : List Nat × List Nat) : Pl → Prop
  | .slot t => t ∈ opTmps o.op ∨ t ∈ guardTmp all o
  | .root i => i ∈ RW.1
theorem slot_set (s : TS) (d : Option Nat) (v : AV) (t : Nat) : (s.set d v).slot t = if d = some t then v else s.slot t := by
  cases d with
  | none => simp [TS.set]
  | some d =>
    simp only [TS.set, TS.slot, look_put, Option.some.injEq]
    split <;> rfl
theorem roots_set (s : TS) (d : Option Nat) (v : AV) : (s.set d v).roots = s.roots := by cases d <;> rfl
theorem next_set (s : TS) (d : Option Nat) (v : AV) : (s.set d v).next = s.next := by cases d <;> rfl
structure OpLocal (E : Env) (all : List Oper) (q : Nat) (o : Oper) (s s' : TS) (RW : List Nat × List Nat) : Prop where
  next : s'.next = s.next
  keep : ∀ x, ¬ Wr o RW x → s'.at x = s.at x
  other : ∀ s2 : TS, s2.next = s.next → (∀ x, Rd all o RW x → s2.at x = s.at x) → ∃ s2', opStep E all q o s2 = some (s2', RW) ∧ (∀ x, Wr o RW x → s2'.at x = s'.at x)
theorem opGo_local {E : Env} {all : List Oper} {q : Nat} {o : Oper} {s s' : TS} {RW : List Nat × List Nat} (h : opGo E q o s = some (s', RW)) :
    s'.next = s.next ∧ (∀ x, ¬ Wr o RW x → s'.at x = s.at x) ∧ ∀ s2 : TS, s2.next = s.next → (∀ x, Rd all o RW x → s2.at x = s.at x) → ∃ s2', opGo E q o s2 = some (s2', RW) ∧ (∀ x, Wr o RW x → s2'.at x = s'.at x) := by
  unfold opGo at h
  split at h
  · rename_i v h' n R W hgo
    cases hb : Nat.ble n (s.next + 16 * (q + 1)) with
    | false => rw [hb] at h; cases h
    | true =>
      rw [hb] at h
      simp only [cond_true, Option.some.injEq, Prod.mk.injEq] at h
      obtain ⟨rfl, rfl⟩ := h
      have L := go_local _ hgo
      refine ⟨by rw [next_set], fun x hx => ?_, fun s2 hn hrd => ?_⟩
      · cases x with
        | slot t =>
          have hx' : ¬ o.dst = some t := hx
          simp only [TS.at, slot_set]
          rw [if_neg hx']; rfl
        | root i =>
          simp only [TS.at, roots_set]
          rw [L.keep i hx]
      · have hev : sem E s2.ev o.op = sem E s.ev o.op := sem_congr o.op fun x hx => by
          cases x with
          | tmp t =>
            have := hrd (.slot t) (.inl (List.mem_filterMap.2 ⟨.tmp t, by simpa using hx, rfl⟩))
            simp only [TS.at, Sum.inl.injEq] at this
            exact this
          | _ => rfl
        obtain ⟨h2', g1, g2, g3, g4⟩ := L.other s2.roots (fun i hi => by
          have := hrd (.root i) hi
          simp only [TS.at, Sum.inr.injEq] at this
          exact this)
        refine ⟨({ s2 with roots := h2' }).set o.dst v, ?_, fun x hx => ?_⟩
        · unfold opGo
          rw [hev, hn, g1]
          simp only [hb, cond_true]
        · cases x with
          | slot t =>
            have hx' : o.dst = some t := hx
            simp only [TS.at, slot_set]
            rw [if_pos hx', if_pos hx']
          | root i =>
            simp only [TS.at, roots_set]
            rw [g3 i hx (by simp)]
  · cases h
theorem skip_local {o : Oper} (s s2 : TS) : (s.set o.dst .skip).next = s.next ∧ (∀ x, ¬ Wr o ([], []) x → (s.set o.dst .skip).at x = s.at x) ∧ (∀ x, Wr o ([], []) x → (s2.set o.dst .skip).at x = (s.set o.dst .skip).at x) := by
  refine ⟨next_set _ _ _, fun x hx => ?_, fun x hx => ?_⟩
  · cases x with
    | slot t =>
      have hx' : ¬ o.dst = some t := hx
      simp only [TS.at, slot_set]
      rw [if_neg hx']
    | root i => simp only [TS.at, roots_set]
  · cases x with
    | slot t =>
      have hx' : o.dst = some t := hx
      simp only [TS.at, slot_set]
      rw [if_pos hx', if_pos hx']
    | root i => exact absurd hx (by simp [Wr])
theorem opStep_local {E : Env} {all : List Oper} {q : Nat} {o : Oper} {s s' : TS} {RW : List Nat × List Nat} (h : opStep E all q o s = some (s', RW)) : OpLocal E all q o s s' RW := by
  unfold opStep at h
  cases hg : o.guard with
  | none =>
    rw [hg] at h
    obtain ⟨h1, h2, h3⟩ := opGo_local (all := all) h
    exact ⟨h1, h2, fun s2 hn hr => by
      obtain ⟨s2', g1, g2⟩ := h3 s2 hn hr
      exact ⟨s2', by unfold opStep; rw [hg]; exact g1, g2⟩⟩
  | some g =>
    obtain ⟨j, want⟩ := g
    rw [hg] at h
    simp only at h
    cases hd : dstOf all j with
    | none => rw [hd] at h; cases h
    | some d =>
      rw [hd] at h
      simp only at h
      have hslot : ∀ s2 : TS, (∀ x, Rd all o RW x → s2.at x = s.at x) → s2.slot d = s.slot d := by
        intro s2 hr
        have := hr (.slot d) (.inr (by simp [guardTmp, hg, hd, optL]))
        simp only [TS.at, Sum.inl.injEq] at this
        exact this
      split at h
      · rename_i b hb
        cases hbw : b == want with
        | true =>
          rw [hbw] at h
          simp only [cond_true] at h
          obtain ⟨h1, h2, h3⟩ := opGo_local (all := all) h
          exact ⟨h1, h2, fun s2 hn hr => by
            obtain ⟨s2', g1, g2⟩ := h3 s2 hn hr
            exact ⟨s2', by unfold opStep; rw [hg]; simp only [hd, hslot s2 hr, hb, hbw, cond_true]; exact g1, g2⟩⟩
        | false =>
          rw [hbw] at h
          simp only [cond_false, Option.some.injEq, Prod.mk.injEq] at h
          obtain ⟨rfl, rfl⟩ := h
          exact ⟨(skip_local s s).1, (skip_local s s).2.1, fun s2 hn hr => ⟨s2.set o.dst .skip, by unfold opStep; rw [hg]; simp only [hd, hslot s2 hr, hb, hbw, cond_false], (skip_local s s2).2.2⟩⟩
      · rename_i hb
        simp only [Option.some.injEq, Prod.mk.injEq] at h
        obtain ⟨rfl, rfl⟩ := h
        exact ⟨(skip_local s s).1, (skip_local s s).2.1, fun s2 hn hr => ⟨s2.set o.dst .skip, by unfold opStep; rw [hg]; simp only [hd, hslot s2 hr, hb], (skip_local s s2).2.2⟩⟩
      · cases h
section
open Classical
variable {β : Type} (wr : Nat → Pl → Prop) (v : Nat → Pl → β)
noncomputable def valAt (D : Nat → Prop) : Nat → Pl → β
  | 0, x => v 0 x
  | k + 1, x => if D k ∧ wr k x then v (k + 1) x else valAt D k x
variable {wr v}
theorem valAt_upto {D : Nat → Prop} {x : Pl} : ∀ {n : Nat}, (∀ j, j < n → ¬ wr j x → v (j + 1) x = v j x) → (∀ j, j < n → wr j x → D j) → valAt wr v D n x = v n x
  | 0, _, _ => rfl
  | n + 1, hk, hd => by
    simp only [valAt]
    by_cases hw : wr n x
    · rw [if_pos ⟨hd n (by omega) hw, hw⟩]
    · rw [if_neg (fun h => hw h.2), valAt_upto (fun j hj => hk j (by omega)) (fun j hj => hd j (by omega)), hk n (by omega) hw]
theorem valAt_from {D : Nat → Prop} {x : Pl} {q : Nat} : ∀ {n : Nat}, q ≤ n → (∀ j, q ≤ j → j < n → D j → ¬ wr j x) → valAt wr v D n x = valAt wr v D q x
  | 0, hq, _ => by have : q = 0 := by omega
                   subst this; rfl
  | n + 1, hq, hd => by
    by_cases he : q = n + 1
    · subst he; rfl
    · simp only [valAt]
      rw [if_neg (fun h => hd n (by omega) (by omega) h.1 h.2), valAt_from (by omega) (fun j h1 h2 => hd j h1 (by omega))]
theorem valAt_to {D : Nat → Prop} {x : Pl} {q n : Nat} (hq : q ≤ n) (hk : ∀ j, j < q → ¬ wr j x → v (j + 1) x = v j x) (hd : ∀ j, j < q → wr j x → D j) (hn : ∀ j, q ≤ j → j < n → D j → ¬ wr j x) : valAt wr v D n x = v q x := by
  rw [valAt_from hq hn, valAt_upto hk hd]
theorem valAt_same {D D' : Nat → Prop} {x : Pl} : ∀ {n : Nat}, (∀ j, j < n → wr j x → (D j ↔ D' j)) → valAt wr v D n x = valAt wr v D' n x
  | 0, _ => rfl
  | n + 1, h => by
    simp only [valAt]
    have hc : (D n ∧ wr n x) ↔ (D' n ∧ wr n x) := ⟨fun ⟨a, b⟩ => ⟨(h n (by omega) b).1 a, b⟩, fun ⟨a, b⟩ => ⟨(h n (by omega) b).2 a, b⟩⟩
    simp only [hc]
    rw [valAt_same (fun j hj => h j (by omega))]
end
theorem memB_iff (x : Nat) : ∀ l : List Nat, memB x l = true ↔ x ∈ l
  | [] => by simp [memB]
  | y :: r => by
    have : Nat.beq x y = true ↔ x = y := ⟨Nat.eq_of_beq_eq_true, fun h => by simp [h]⟩
    simp only [memB, Bool.or_eq_true, this, memB_iff x r, List.mem_cons]
theorem meetB_iff : ∀ a b : List Nat, meetB a b = true ↔ ∃ x, x ∈ a ∧ x ∈ b
  | [], b => by simp [meetB]
  | x :: r, b => by
    simp only [meetB, Bool.or_eq_true, memB_iff, meetB_iff r b]
    constructor
    · rintro (h | ⟨y, h1, h2⟩)
      · exact ⟨x, by simp, h⟩
      · exact ⟨y, by simp [h1], h2⟩
    · rintro ⟨y, h1, h2⟩
      rcases List.mem_cons.1 h1 with rfl | h1
      · exact .inl h2
      · exact .inr ⟨y, h1, h2⟩
theorem edgesBack_iff : ∀ (l : List Oper) (q : Nat), edgesBack q l = true → ∀ k o, l[k]? = some o → ∀ e, e ∈ o.after.toList → Region.binds .any e = true → e.on < q + k
  | [], q, _, k, o, hk, _, _, _ => by simp at hk
  | x :: r, q, h, k, o, hk, e, he, hb => by
    simp only [edgesBack, Bool.and_eq_true] at h
    cases k with
    | zero =>
      simp only [List.getElem?_cons_zero, Option.some.injEq] at hk
      subst hk
      have := (List.all_eq_true.1 h.1) e he
      simp only [hb, Bool.not_true, Bool.false_or] at this
      have h3 := Nat.le_of_ble_eq_true this
      omega
    | succ k =>
      simp only [List.getElem?_cons_succ] at hk
      have := edgesBack_iff r (q + 1) h.2 k o hk e he hb
      omega
def Down (all : List Oper) (D : Nat → Prop) : Prop := ∀ q o, all[q]? = some o → D q → ∀ e, e ∈ o.after.toList → Region.binds .any e = true → D e.on
theorem maskOf_spec (acc : List (Nat × Nat)) : ∀ (es : List Edge) (s a : Nat), Nat.testBit (maskOf acc es s) a = true → Nat.testBit s a = true ∨ ∃ e, e ∈ es ∧ Region.binds .any e = true ∧ (a = e.on ∨ Nat.testBit ((look acc e.on).getD 0) a = true)
  | [], s, a, h => .inl h
  | e :: r, s, a, h => by
    simp only [maskOf] at h
    cases hb : Region.binds .any e with
    | false =>
      rw [hb] at h
      rcases maskOf_spec acc r s a h with h | ⟨e', h1, h2⟩
      · exact .inl h
      · exact .inr ⟨e', List.mem_cons_of_mem _ h1, h2⟩
    | true =>
      rw [hb] at h
      rcases maskOf_spec acc r _ a h with h | ⟨e', h1, h2⟩
      · have h' : Nat.testBit ((s ||| 2 ^ e.on) ||| ((look acc e.on).getD 0)) a = true := h
        rw [Nat.testBit_or, Nat.testBit_or, Bool.or_eq_true, Bool.or_eq_true] at h'
        rcases h' with (h' | h') | h'
        · exact .inl h'
        · rw [Nat.testBit_two_pow] at h'
          exact .inr ⟨e, List.mem_cons_self, hb, .inl (by have := of_decide_eq_true h'; exact this.symm)⟩
        · exact .inr ⟨e, List.mem_cons_self, hb, .inr h'⟩
      · exact .inr ⟨e', List.mem_cons_of_mem _ h1, h2⟩
def MaskOk (all : List Oper) (acc : List (Nat × Nat)) : Prop := ∀ b m, look acc b = some m → ∀ D, Down all D → D b → ∀ a, Nat.testBit m a = true → D a
theorem masks_ok {all : List Oper} : ∀ (l : List Oper) (q : Nat) (acc : List (Nat × Nat)), (∀ k o, l[k]? = some o → all[q + k]? = some o) → MaskOk all acc → MaskOk all (masks q l acc)
  | [], q, acc, _, h => h
  | o :: r, q, acc, hl, h => by
    simp only [masks]
    refine masks_ok r (q + 1) _ (fun k o' hk => by have := hl (k + 1) o' (by simpa using hk); rw [show q + 1 + k = q + (k + 1) from by omega]; exact this) ?_
    intro b m hb D hD hDb a ha
    rw [look_cons] at hb
    split at hb
    · rename_i hqb
      subst hqb
      injection hb with hb
      subst hb
      have ho := hl 0 o (by simp)
      rcases maskOf_spec acc o.after.toList 0 a ha with ha | ⟨e, he, hbe, ha⟩
      · simp at ha
      · have hDe := hD _ _ (by simpa using ho) hDb e he hbe
        rcases ha with rfl | ha
        · exact hDe
        · cases hm : look acc e.on with
          | none => rw [hm] at ha; simp at ha
          | some m' => rw [hm] at ha; exact h _ _ hm D hD hDe a ha
    · exact h b m hb D hD hDb a ha
theorem against_iff (ms : List (Nat × Nat)) (x : Foot) : ∀ (l : List Foot), against ms x l = true → ∀ y, y ∈ l → clash x y = true → Nat.testBit ((look ms y.q).getD 0) x.q = true
  | [], _, y, hy, _ => by cases hy
  | z :: r, h, y, hy, hc => by
    simp only [against, Bool.and_eq_true, Bool.or_eq_true, Bool.not_eq_true'] at h
    rcases List.mem_cons.1 hy with rfl | hy
    · rcases h.1 with h1 | h1
      · rw [hc] at h1; cases h1
      · exact h1
    · exact against_iff ms x r h.2 y hy hc
theorem allApart_iff (ms : List (Nat × Nat)) : ∀ (l : List Foot), allApart ms l = true → ∀ (i j : Nat) (x y : Foot), i < j → l[i]? = some x → l[j]? = some y → clash x y = true → Nat.testBit ((look ms y.q).getD 0) x.q = true
  | [], _, i, j, x, y, _, hi, _, _ => by simp at hi
  | z :: r, h, i, j, x, y, hij, hi, hj, hc => by
    simp only [allApart, Bool.and_eq_true] at h
    cases j with
    | zero => omega
    | succ j =>
      simp only [List.getElem?_cons_succ] at hj
      cases i with
      | zero =>
        simp only [List.getElem?_cons_zero, Option.some.injEq] at hi
        subst hi
        exact against_iff ms z r h.1 y (List.mem_of_getElem? hj) hc
      | succ i =>
        simp only [List.getElem?_cons_succ] at hi
        exact allApart_iff ms r h.2 i j x y (by omega) hi hj hc
theorem foots_get (all : List Oper) (RW : Nat → List Nat × List Nat) : ∀ (l : List Oper) (q : Nat) (f : List (List Nat × List Nat)) (k : Nat) (o : Oper) (rw' : List Nat × List Nat), l[k]? = some o → f[k]? = some rw' → (foots all q l f)[k]? = some ⟨q + k, optL o.dst, opTmps o.op ++ guardTmp all o, rw'.1, rw'.2⟩
  | [], q, f, k, o, r, h, _ => by simp at h
  | x :: l, q, [], k, o, r, _, h => by simp at h
  | x :: l, q, (R, W) :: f, k, o, r, h1, h2 => by
    cases k with
    | zero =>
      simp only [List.getElem?_cons_zero, Option.some.injEq] at h1 h2
      subst h1; subst h2
      simp [foots]
    | succ k =>
      simp only [List.getElem?_cons_succ] at h1 h2
      simp only [foots, List.getElem?_cons_succ]
      rw [foots_get all RW l (q + 1) f k o r h1 h2]
      congr 2
      omega
def Meets (all : List Oper) (o o' : Oper) (RW RW' : List Nat × List Nat) (x : Pl) : Prop := (Wr o RW x ∧ Wr o' RW' x) ∨ (Wr o RW x ∧ Rd all o' RW' x) ∨ (Rd all o RW x ∧ Wr o' RW' x)
theorem clash_of {all : List Oper} {o o' : Oper} {RW RW' : List Nat × List Nat} {x : Pl} {q q' : Nat} (h : Meets all o o' RW RW' x) :
    clash ⟨q, optL o.dst, opTmps o.op ++ guardTmp all o, RW.1, RW.2⟩ ⟨q', optL o'.dst, opTmps o'.op ++ guardTmp all o', RW'.1, RW'.2⟩ = true := by
  have hopt : ∀ (d : Option Nat) (t : Nat), d = some t → t ∈ optL d := fun d t h => by subst h; simp [optL]
  simp only [clash, Bool.or_eq_true, meetB_iff]
  cases x with
  | slot t =>
    simp only [Meets, Wr, Rd] at h
    rcases h with ⟨h1, h2⟩ | ⟨h1, h2⟩ | ⟨h1, h2⟩
    · exact .inl (.inl (.inl (.inl (.inl ⟨t, hopt _ _ h1, hopt _ _ h2⟩))))
    · exact .inl (.inl (.inl (.inl (.inr ⟨t, hopt _ _ h1, List.mem_append.2 h2⟩))))
    · exact .inl (.inl (.inl (.inr ⟨t, List.mem_append.2 h1, hopt _ _ h2⟩)))
  | root i =>
    simp only [Meets, Wr, Rd] at h
    rcases h with ⟨h1, h2⟩ | ⟨h1, h2⟩ | ⟨h1, h2⟩
    · exact .inl (.inl (.inr ⟨i, h1, h2⟩))
    · exact .inl (.inr ⟨i, h1, h2⟩)
    · exact .inr ⟨i, h1, h2⟩
structure Apart (all : List Oper) (RW : Nat → List Nat × List Nat) : Prop where
  back : ∀ q o, all[q]? = some o → ∀ e, e ∈ o.after.toList → Region.binds .any e = true → e.on < q
  apart : ∀ i j o o' x, i < j → all[i]? = some o → all[j]? = some o' → Meets all o o' (RW i) (RW j) x → ∀ D, Down all D → D j → D i
theorem drawOk_apart {all : List Oper} {RW : Nat → List Nat × List Nat} (h : drawOk all ((List.range all.length).map RW) = true) : Apart all RW := by
  simp only [drawOk, Bool.and_eq_true] at h
  refine ⟨fun q o ho e he hb => by simpa using edgesBack_iff all 0 h.1 q o ho e he hb, fun i j o o' x hij hi hj hm D hD hDj => ?_⟩
  have hlt : ∀ k o, all[k]? = some o → ((List.range all.length).map RW)[k]? = some (RW k) := by
    intro k o hk
    have : k < all.length := (List.getElem?_eq_some_iff.1 hk).1
    simp [List.getElem?_map, List.getElem?_range this]
  have f1 := foots_get all RW all 0 _ i o (RW i) hi (hlt i o hi)
  have f2 := foots_get all RW all 0 _ j o' (RW j) hj (hlt j o' hj)
  have hb := allApart_iff _ _ h.2 i j _ _ hij f1 f2 (clash_of hm)
  simp only [Nat.zero_add] at hb
  cases hm' : look (masks 0 all []) j with
  | none => rw [hm'] at hb; simp at hb
  | some m =>
    rw [hm'] at hb
    exact masks_ok all 0 [] (fun k o hk => by simpa using hk) (fun b m hbm => by cases hbm) j m hm' D hD hDj i hb
structure Some' (st : Nat → TS) (wr : Nat → Pl → Prop) (D : Nat → Prop) (n : Nat) (s : TS) : Prop where
  next : s.next = (st 0).next
  at' : ∀ x, s.at x = valAt wr (fun k => (st k).at) D n x
section
variable {E : Env} {all : List Oper} {st : Nat → TS} {RW : Nat → List Nat × List Nat}
def WrN (all : List Oper) (RW : Nat → List Nat × List Nat) (k : Nat) (x : Pl) : Prop := ∃ o, all[k]? = some o ∧ Wr o (RW k) x
theorem row_next (hst : ∀ k o, all[k]? = some o → opStep E all k o (st k) = some (st (k + 1), RW k)) : ∀ k, k ≤ all.length → (st k).next = (st 0).next
  | 0, _ => rfl
  | k + 1, hk => by
    have ho : all[k]? = some (all[k]'(by omega)) := List.getElem?_eq_getElem _
    rw [(opStep_local (hst k _ ho)).next, row_next hst k (by omega)]
theorem row_keep (hst : ∀ k o, all[k]? = some o → opStep E all k o (st k) = some (st (k + 1), RW k)) (x : Pl) (j : Nat) (hj : j < all.length) (h : ¬ WrN all RW j x) : (st (j + 1)).at x = (st j).at x := by
  have ho : all[j]? = some (all[j]'hj) := List.getElem?_eq_getElem _
  exact (opStep_local (hst j _ ho)).keep x (fun hw => h ⟨_, ho, hw⟩)
theorem any_step (hst : ∀ k o, all[k]? = some o → opStep E all k o (st k) = some (st (k + 1), RW k)) (A : Apart all RW) {D : Nat → Prop} (hD : Down all D) (hDn : ∀ q, D q → q < all.length) {s : TS} (S : Some' st (WrN all RW) D all.length s) {q : Nat} {o : Oper} (ho : all[q]? = some o) (hq : ¬ D q) (hr : ∀ e, e ∈ o.after.toList → Region.binds .any e = true → D e.on) :
    ∃ s', opStep E all q o s = some (s', RW q) ∧ Some' st (WrN all RW) (fun j => D j ∨ j = q) all.length s' ∧ Down all (fun j => D j ∨ j = q) := by
  have hlt : q < all.length := (List.getElem?_eq_some_iff.1 ho).1
  have hD' : Down all (fun j => D j ∨ j = q) := by
    intro p op hp hDp e he hb
    rcases hDp with hDp | rfl
    · exact .inl (hD p op hp hDp e he hb)
    · rw [ho] at hp; injection hp with hp; subst hp
      exact .inl (hr e he hb)
  have hbefore : ∀ j o', j < q → all[j]? = some o' → (∃ x, Meets all o' o (RW j) (RW q) x) → D j := by
    intro j o' hj hoj ⟨x, hm⟩
    rcases A.apart j q o' o x hj hoj ho hm _ hD' (.inr rfl) with h | h
    · exact h
    · omega
  have hafter : ∀ j o', q < j → all[j]? = some o' → D j → ∀ x, ¬ Meets all o o' (RW q) (RW j) x := fun j o' hj hoj hDj x hm => hq (A.apart q j o o' x hj ho hoj hm D hD hDj)
  have L := opStep_local (hst q o ho)
  obtain ⟨s', g1, g2⟩ := L.other s (by rw [S.next, row_next hst q (by omega)]) (fun x hx => by
    rw [S.at' x]
    refine valAt_to (by omega) (fun j hj hw => row_keep hst x j (by omega) hw) (fun j hj ⟨o', hoj, hw⟩ => hbefore j o' hj hoj ⟨x, .inr (.inl ⟨hw, hx⟩)⟩) (fun j hj1 hj2 hDj ⟨o', hoj, hw⟩ => ?_)
    by_cases he : j = q
    · subst he; exact hq hDj
    · exact hafter j o' (by omega) hoj hDj x (.inr (.inr ⟨hx, hw⟩)))
  have L2 := opStep_local g1
  refine ⟨s', g1, ⟨L2.next.trans S.next, fun x => ?_⟩, hD'⟩
  by_cases hw : Wr o (RW q) x
  · rw [g2 x hw]
    refine (valAt_to (wr := WrN all RW) (v := fun k => (st k).at) (n := all.length) (D := fun j => D j ∨ j = q) (x := x) (q := q + 1) (by omega) (fun j hj hw' => row_keep hst x j (by omega) hw') (fun j hj ⟨o', hoj, hw'⟩ => ?_) (fun j hj1 hj2 hDj ⟨o', hoj, hw'⟩ => ?_)).symm
    · by_cases he : j = q
      · exact .inr he
      · exact .inl (hbefore j o' (by omega) hoj ⟨x, .inl ⟨hw', hw⟩⟩)
    · rcases hDj with hDj | rfl
      · exact hafter j o' (by omega) hoj hDj x (.inl ⟨hw, hw'⟩)
      · omega
  · rw [L2.keep x hw, S.at' x]
    refine valAt_same (fun j hj ⟨o', hoj, hw'⟩ => ⟨.inl, fun h => h.elim id (fun he => ?_)⟩)
    subst he
    rw [ho] at hoj; injection hoj with hoj; subst hoj
    exact absurd hw' hw
theorem any_start : Some' st (WrN all RW) (fun _ => False) all.length (st 0) :=
  ⟨rfl, fun x => (valAt_to (wr := WrN all RW) (v := fun k => (st k).at) (D := fun _ => False) (n := all.length) (x := x) (q := 0) (by omega) (fun j hj => by omega) (fun j hj => by omega) (fun j _ _ (h : False) => h.elim)).symm⟩
theorem any_end (hst : ∀ k o, all[k]? = some o → opStep E all k o (st k) = some (st (k + 1), RW k)) {D : Nat → Prop} {s : TS} (S : Some' st (WrN all RW) D all.length s) (hall : ∀ q, q < all.length → D q) : ∀ x, s.at x = (st all.length).at x :=
  fun x => (S.at' x).trans (valAt_upto (fun j hj hw => row_keep hst x j hj hw) (fun j hj _ => hall j hj))
end
end Go.TM

/- A region on the machine. -/
set_option linter.unusedVariables false
set_option linter.unusedSimpArgs false
namespace Go.TM
open Go
structure Sg where
  nt : Nat
  prot : List Nat
  p0 : Nat → Value
def Sg.ok (σ : Sg) (a : Act) : Prop := a.tmps.size = σ.nt ∧ (∀ i, i ∈ σ.prot → a.tmps.getD i undef = σ.p0 i) ∧ a.defers = []
def Sg.may (σ : Sg) (dst : Option Nat) : Prop := ∀ d, dst = some d → d < σ.nt ∧ ¬ d ∈ σ.prot
def RS (c : Ctx) (σ : Sg) (ok : Nat → Prop) (s : TS) (a : Act) (w : World) : Prop :=
  ∃ G B, Inv c s.roots G w B Emp s.slot (fun t => a.tmps.getD t undef) ∧ (∀ j, G.D j → ok j) ∧ σ.ok a
section
variable {P : Program} {E : Env} {c : Ctx} {σ : Sg} {ok : Nat → Prop} {s s' : TS} {a : Act} {w : World}
theorem RS.congr (h : RS c σ ok s a w) (he : ∀ x, s'.at x = s.at x) : RS c σ ok s' a w := by
  obtain ⟨G, B, I, h1, h2⟩ := h
  refine ⟨G, B, I.congr (fun i => ?_) (fun t => ?_), h1, h2⟩
  · have := he (.root i)
    simpa [TS.at] using this
  · have := he (.slot t)
    simp only [TS.at, Sum.inl.injEq] at this
    rw [this]
    exact I.slots t
theorem RS.mono {ok' : Nat → Prop} (h : RS c σ ok s a w) (hk : ∀ j, ok j → ok' j) : RS c σ ok' s a w := by
  obtain ⟨G, B, I, h1, h2⟩ := h
  exact ⟨G, B, I, fun j hj => hk j (h1 j hj), h2⟩
theorem RS.next {n : Nat} (h : RS c σ ok s a w) : RS c σ ok { s with next := n } a w := h
theorem RS.drawn {n : Nat} (h : RS c σ ok s a w) : RS c σ ok s a { w with drawn := n } := by
  obtain ⟨G, B, I, h1⟩ := h
  obtain ⟨I2, _⟩ := I.world (w' := { w with drawn := n }) rfl rfl rfl (Nat.le_refl _) (fun _ _ _ => rfl)
  obtain ⟨I3, _⟩ := I2.less Emp (fun _ h => h.elim)
  exact ⟨G, B, I3, h1⟩
theorem getD_set (xs : Array Value) (d t : Nat) (v : Value) : (xs.setIfInBounds d v).getD t undef = if d = t ∧ d < xs.size then v else xs.getD t undef := by
  simp only [Array.getD_eq_getD_getElem?, Array.getElem?_setIfInBounds]
  by_cases h1 : d = t
  · subst h1
    by_cases h2 : d < xs.size
    · simp [h2]
    · simp [h2]
  · simp [h1]
theorem Sg.put {dst : Option Nat} {val : Value} (h : σ.ok a) (hd : σ.may dst) : σ.ok (a.put dst val) := by
  cases dst with
  | none => exact h
  | some d =>
    obtain ⟨h1, h2, h3⟩ := h
    refine ⟨by simp [Act.put, h1], fun i hi => ?_, h3⟩
    simp only [Act.put, getD_set]
    rw [if_neg (fun e : d = i ∧ d < a.tmps.size => (hd d rfl).2 (e.1 ▸ hi))]
    exact h2 i hi
theorem rs_put {G : Ge} {B : Nat → List Nat} {dst : Option Nat} {v : AV} {val : Value} (I : Inv c s.roots G w B Emp s.slot (fun t => a.tmps.getD t undef)) (hv : AVR G w (NN c s.roots B Emp) v val) (hk : ∀ j, G.D j → ok j) (hn : σ.ok a) (hd : σ.may dst) : RS c σ ok (s.set dst v) (a.put dst val) w := by
  refine ⟨G, B, I.congr (fun i => by rw [roots_set]) (fun t => ?_), hk, Sg.put hn hd⟩
  cases dst with
  | none => exact I.slots t
  | some d =>
    have hlt := (hd d rfl).1
    simp only [slot_set, Act.put, getD_set, Option.some.injEq]
    by_cases he : d = t
    · rw [if_pos he, if_pos ⟨he, by rw [hn.1]; exact hlt⟩]; exact hv
    · rw [if_neg he, if_neg (fun h => he h.1)]; exact I.slots t
variable {ops : Array Oper} {Q : Exit → Act → World → Prop}
theorem op_wp (hX : ∀ b, c.X b → b < c.w0.heap.size ∧ ¬ b ∈ c.F) (hC : CallSim P E) (hE : TabOk P E) {q : Nat} {o : Oper} (ho : ops[q]? = some o) (hd : σ.may o.dst) {RW : List Nat × List Nat}
    (h : opStep E ops.toList q o s = some (s', RW)) (rs : RS c σ ok s a w) (hfree : ∀ j, s.next + 16 * q ≤ j → j < s.next + 16 * (q + 1) → ¬ ok j) {K : Act → World → Prop}
    (hK : ∀ a' w', RS c σ (fun j => ok j ∨ (s.next + 16 * q ≤ j ∧ j < s.next + 16 * (q + 1))) s' a' w' → K a' w') : wpOp P ops Q q K a w := by
  obtain ⟨G, B, I, h1, h2⟩ := rs
  have hev : ∀ x, AVR G w (NN c s.roots B Emp) (s.ev x) (a.eval x) := by
    intro x
    cases x with
    | tmp t => exact I.slots t
    | const v => exact avr_const v
    | global g => simp only [TS.ev, AVR]
    | func f => simp only [TS.ev, Act.eval, AVR]
  have go : opGo E q o s = some (s', RW) → (o.wp P a w K Q) := by
    intro hg
    unfold opGo at hg
    split at hg
    · rename_i v h' n R W hgo
      cases hb : Nat.ble n (s.next + 16 * (q + 1)) with
      | false => rw [hb] at hg; cases hg
      | true =>
        rw [hb] at hg
        simp only [cond_true, Option.some.injEq, Prod.mk.injEq] at hg
        obtain ⟨rfl, rfl⟩ := hg
        have hle := Nat.le_of_ble_eq_true hb
        -- the run, with the answer kept
        have hrun := go_run (sem E s.ev o.op) (fun v h n => some (v, h, n)) hgo
        have R : Room (fun v h n => some (v, h, n)) (v, h', n) G (s.next + 16 * q) (s.next + 16 * (q + 1)) := ⟨fun v1 h1 n1 h => by
          simp only [Option.some.injEq, Prod.mk.injEq] at h
          omega, fun j j1 j2 hj => hfree j j1 j2 (h1 j hj)⟩
        have fin : ∀ val w', Out c (fun v h n => some (v, h, n)) (v, h', n) G (s.next + 16 * q) s.slot (fun t => a.tmps.getD t undef) val w' → K (a.put o.dst val) w' := by
          rintro val w' ⟨v1, h1', n1, G', B', e1, e2, e3, e4, e5⟩
          simp only [Option.some.injEq, Prod.mk.injEq] at e1
          obtain ⟨rfl, rfl, rfl⟩ := e1
          refine hK _ _ (rs_put (s := { s with roots := h1' }) e4 e5 (fun j hj => ?_) h2 hd)
          exact (e3 j hj).imp (h1 j) (fun h => ⟨h.1, by omega⟩)
        have sim := sem_sim hX hC I hE R (val := a.eval) hev hrun
        unfold Oper.wp
        rcases sim with ⟨val, w', r1, o1⟩ | ⟨w', r1, o1⟩ | ⟨f, args, r1, o1⟩
        · rw [r1]; exact fin _ _ o1
        · rw [r1]; exact fin _ _ o1
        · rw [r1, Oper.upon_enter]
          refine o1.mono ?_
          rintro e w' ⟨val, rfl, o2⟩
          exact fin _ _ o2
    · cases hg
  have skip : some (s.set o.dst .skip, ([] : List Nat), ([] : List Nat)) = some (s', RW) → K (a.put o.dst undef) w := by
    intro hg
    simp only [Option.some.injEq, Prod.mk.injEq] at hg
    obtain ⟨rfl, _⟩ := hg
    exact hK _ _ (rs_put I (by simp only [AVR]) (fun j hj => .inl (h1 j hj)) h2 hd)
  have main : (Region.wanted o (yielded ops a.tmps) = true ∧ o.wp P a w K Q) ∨ (Region.wanted o (yielded ops a.tmps) = false ∧ K (a.put o.dst undef) w) := by
    unfold opStep at h
    cases hg : o.guard with
    | none =>
      rw [hg] at h
      exact .inl ⟨by simp only [Region.wanted, hg], go h⟩
    | some g =>
      obtain ⟨j, want⟩ := g
      rw [hg] at h
      simp only at h
      have hwd : Region.wanted o (yielded ops a.tmps) = (yielded ops a.tmps j == some want) := by simp only [Region.wanted, hg]
      have hdst : (ops[j]?).bind (·.dst) = dstOf ops.toList j := by
        unfold dstOf
        rw [Array.getElem?_toList]
        cases ops[j]? <;> rfl
      cases hdj : dstOf ops.toList j with
      | none => rw [hdj] at h; cases h
      | some d =>
        rw [hdj] at h
        simp only at h
        have hsl := I.slots d
        have hy : yielded ops a.tmps j = (match a.tmps[d]? with | some (.bool b) => some b | _ => none) := by
          unfold yielded
          rw [hdst, hdj]
          rfl
        rw [hwd, hy]
        split at h
        · rename_i b hb
          rw [hb] at hsl
          simp only [AVR] at hsl
          have hget : a.tmps[d]? = some (.bool b) := by
            rw [Array.getD_eq_getD_getElem?] at hsl
            cases hx : a.tmps[d]? with
            | none => rw [hx] at hsl; simp [undef] at hsl
            | some u => rw [hx] at hsl; simp only [Option.getD_some] at hsl; rw [hsl]
          rw [hget]
          simp only
          cases hbw : b == want with
          | true =>
            rw [hbw] at h
            exact .inl ⟨by simpa using hbw, go h⟩
          | false =>
            rw [hbw] at h
            exact .inr ⟨by simpa using hbw, skip h⟩
        · rename_i hb
          rw [hb] at hsl
          simp only [AVR] at hsl
          have hget : (match a.tmps[d]? with | some (.bool b) => some b | _ => none) = (none : Option Bool) := by
            rw [Array.getD_eq_getD_getElem?] at hsl
            cases hx : a.tmps[d]? with
            | none => rfl
            | some u => rw [hx] at hsl; simp only [Option.getD_some] at hsl; subst hsl; rfl
          rw [hget]
          exact .inr ⟨rfl, skip h⟩
        · cases h
  unfold wpOp
  rw [ho]
  simp only
  rcases main with ⟨h1, h2⟩ | ⟨h1, h2⟩
  · rw [if_pos h1]; exact .inl h2
  · rw [if_neg (by rw [h1]; simp)]; exact h2
theorem runOps_wp (hX : ∀ b, c.X b → b < c.w0.heap.size ∧ ¬ b ∈ c.F) (hC : CallSim P E) (hE : TabOk P E) (hd : ∀ (q : Nat) (o : Oper), ops[q]? = some o → σ.may o.dst) {ρ : Type} {K : TS → Option ρ} {r : ρ} {n0 : Nat}
    (hQ : ∀ s' a' w', K s' = some r → s'.next = n0 → RS c σ (fun j => j < n0 + 16 * ops.toList.length) s' a' w' → Q .normal a' w') :
    ∀ (l : List Oper) (q : Nat) (s : TS) (a : Act) (w : World), q + l.length = ops.toList.length → (∀ k, l[k]? = ops.toList[q + k]?) → s.next = n0 → runOps E ops.toList q l s K = some r → RS c σ (fun j => j < n0 + 16 * q) s a w → wpOps P ops Q (List.range' q l.length) a w
  | [], q, s, a, w, hl, _, hn, h, rs => by
    simp only [List.length_nil, Nat.add_zero] at hl
    simp only [runOps] at h
    simp only [List.length_nil, List.range', wpOps]
    exact hQ s a w h hn (by rw [← hl]; exact rs)
  | o :: l, q, s, a, w, hl, hg, hn, h, rs => by
    obtain ⟨s', R, W, h1, h2⟩ := runOps_cons h
    have ho : ops[q]? = some o := by
      have := hg 0
      simp only [List.getElem?_cons_zero, Nat.add_zero, Array.getElem?_toList] at this
      exact this.symm
    simp only [List.length_cons, List.range'_succ]
    rw [wpOps_cons]
    have hn' := (opStep_local h1).next
    refine op_wp hX hC hE ho (hd q o ho) h1 rs (fun j j1 j2 hj => by omega) (fun a' w' rs' => ?_)
    refine runOps_wp hX hC hE hd hQ l (q + 1) s' a' w' (by simp only [List.length_cons] at hl; omega) (fun k => ?_) (by rw [hn', hn]) h2 (rs'.mono (fun j hj => by omega))
    have := hg (k + 1)
    simp only [List.getElem?_cons_succ] at this
    rw [this]
    congr 1
    omega
theorem ready_spec {md : Region.Mode} {listed : Array Bool} {i : Nat} (h : i ∈ Region.ready md ops listed) : i < ops.size ∧ listed.getD i true = false ∧ ∃ o, ops[i]? = some o ∧ ∀ e, e ∈ o.after.toList → Region.binds md e = true → listed.getD e.on false = true := by
  simp only [Region.ready, List.mem_filter, List.mem_range, Bool.and_eq_true, Bool.not_eq_true'] at h
  obtain ⟨h1, h2, h3⟩ := h
  refine ⟨h1, h2, ?_⟩
  have ho : ops[i]? = some (ops[i]'h1) := Array.getElem?_eq_getElem h1
  rw [ho] at h3
  simp only [Option.map_some, Option.getD_some] at h3
  refine ⟨_, ho, fun e he hb => ?_⟩
  have := (Array.all_eq_true_iff_forall_mem.1 h3) e (by simpa using he)
  simpa [hb] using this
theorem ready_nil {md : Region.Mode} {listed : Array Bool} (h : Region.ready md ops listed = []) (hsz : listed.size = ops.size) (hback : ∀ q o, ops[q]? = some o → ∀ e, e ∈ o.after.toList → Region.binds md e = true → e.on < q) : ∀ q, q < ops.size → listed.getD q false = true := by
  intro q
  induction q using Nat.strongRecOn with
  | _ q ih =>
    intro hq
    have ho : ops[q]? = some (ops[q]'hq) := Array.getElem?_eq_getElem hq
    have hq' : q < listed.size := by omega
    cases hl : listed.getD q false with
    | true => rfl
    | false =>
      exfalso
      have hl2 : listed.getD q true = false := by
        simp only [Array.getD_eq_getD_getElem?, Array.getElem?_eq_getElem hq', Option.getD_some] at hl ⊢
        exact hl
      have : q ∈ Region.ready md ops listed := by
        simp only [Region.ready, List.mem_filter, List.mem_range, Bool.and_eq_true, Bool.not_eq_true']
        refine ⟨hq, hl2, ?_⟩
        rw [ho]
        simp only [Option.map_some, Option.getD_some]
        rw [Array.all_eq_true_iff_forall_mem]
        intro e he
        cases hb : Region.binds md e with
        | false => simp
        | true =>
          have h1 := hback q _ ho e (by simpa using he) hb
          simpa using ih e.on h1 (by omega)
      rw [h] at this
      cases this
theorem any_wp (hX : ∀ b, c.X b → b < c.w0.heap.size ∧ ¬ b ∈ c.F) (hC : CallSim P E) (hE : TabOk P E) (hd : ∀ (q : Nat) (o : Oper), ops[q]? = some o → σ.may o.dst) {st : Nat → TS} {RW : Nat → List Nat × List Nat}
    (hst : ∀ k o, ops.toList[k]? = some o → opStep E ops.toList k o (st k) = some (st (k + 1), RW k)) (A : Apart ops.toList RW)
    (hQ : ∀ s' a' w', (∀ x, s'.at x = (st ops.toList.length).at x) → RS c σ (fun j => j < (st 0).next + 16 * ops.toList.length) s' a' w' → Q .normal a' w') :
    ∀ (fuel : Nat) (listed : Array Bool) (U : List Nat) (s : TS) (a : Act) (w : World), listed.size = ops.size → U.length = fuel → (∀ i, i < ops.size → listed.getD i false = false → i ∈ U) → Down ops.toList (fun q => listed.getD q false = true) →
      Some' st (WrN ops.toList RW) (fun q => listed.getD q false = true) ops.toList.length s → RS c σ (fun j => j < (st 0).next ∨ ∃ q, listed.getD q false = true ∧ (st 0).next + 16 * q ≤ j ∧ j < (st 0).next + 16 * (q + 1)) s a w →
      wpAny P .any ops Q fuel listed a w := by
  have hsize : ops.toList.length = ops.size := Array.length_toList
  have hget : ∀ q o, ops[q]? = some o → ops.toList[q]? = some o := fun q o h => by rw [Array.getElem?_toList]; exact h
  have hDn : ∀ {listed : Array Bool}, listed.size = ops.size → ∀ q, listed.getD q false = true → q < ops.toList.length := by
    intro listed hs q hq
    by_cases hlt : q < listed.size
    · omega
    · simp [Array.getD_eq_getD_getElem?, Array.getElem?_eq_none (by omega : listed.size ≤ q)] at hq
  have fin : ∀ (listed : Array Bool) (s : TS) (a : Act) (w : World), listed.size = ops.size → (∀ q, q < ops.size → listed.getD q false = true) → Some' st (WrN ops.toList RW) (fun q => listed.getD q false = true) ops.toList.length s → RS c σ (fun j => j < (st 0).next ∨ ∃ q, listed.getD q false = true ∧ (st 0).next + 16 * q ≤ j ∧ j < (st 0).next + 16 * (q + 1)) s a w → Q .normal a w := by
    intro listed s a w hs hall S rs
    refine hQ s a w (any_end hst S (fun q hq => hall q (by omega))) (rs.mono (fun j hj => ?_))
    rcases hj with hj | ⟨q, hq, h1, h2⟩
    · omega
    · have := hDn hs q hq
      have : 16 * (q + 1) ≤ 16 * ops.toList.length := Nat.mul_le_mul_left _ this
      omega
  intro fuel
  induction fuel with
  | zero =>
    intro listed U s a w hs hU hin hdown S rs
    have hall : ∀ q, q < ops.size → listed.getD q false = true := by
      intro q hq
      cases hl : listed.getD q false with
      | true => rfl
      | false =>
        have := hin q hq hl
        rw [List.eq_nil_of_length_eq_zero hU] at this
        cases this
    refine ⟨?_, fin listed s a w hs hall S rs⟩
    apply List.eq_nil_iff_forall_not_mem.2
    intro i hi
    obtain ⟨h1, h2, _⟩ := ready_spec hi
    have := hall i h1
    have hi' : i < listed.size := by omega
    simp only [Array.getD_eq_getD_getElem?, Array.getElem?_eq_getElem hi', Option.getD_some] at this h2
    rw [this] at h2; cases h2
  | succ fuel ih =>
    intro listed U s a w hs hU hin hdown S rs
    refine ⟨fun hr => fin listed s a w hs (ready_nil hr hs (fun q o ho e he hb => A.back q o (hget q o ho) e he hb)) S rs, fun i hi => ?_⟩
    obtain ⟨h1, h2, o, ho, h3⟩ := ready_spec hi
    have hi' : i < listed.size := by omega
    have hnl : listed.getD i false = false := by
      simp only [Array.getD_eq_getD_getElem?, Array.getElem?_eq_getElem hi', Option.getD_some] at h2 ⊢
      exact h2
    obtain ⟨s', g1, g2, g3⟩ := any_step hst A hdown (hDn hs) S (hget i o ho) (by simp [hnl]) h3
    have hset : ∀ q, (listed.setIfInBounds i true).getD q false = true ↔ (listed.getD q false = true ∨ q = i) := by
      intro q
      simp only [Array.getD_eq_getD_getElem?, Array.getElem?_setIfInBounds]
      by_cases he : i = q
      · subst he; simp [hi']
      · simp [he, Ne.symm he]
    have hsetf : (fun q => (listed.setIfInBounds i true).getD q false = true) = fun q => listed.getD q false = true ∨ q = i := funext fun q => propext (hset q)
    have hnx := S.next
    refine op_wp hX hC hE ho (hd i o ho) g1 rs (fun j j1 j2 hj => ?_) (fun a' w' rs' => ?_)
    · rcases hj with hj | ⟨q, hq, q1, q2⟩
      · omega
      · have : q ≠ i := fun e => by subst e; rw [hnl] at hq; cases hq
        omega
    · refine ih _ (U.erase i) s' a' w' (by simp [hs]) ?_ (fun j hj hl => ?_) (by rw [hsetf]; exact g3) (by rw [hsetf]; exact g2) (rs'.mono (fun j hj => ?_))
      · rw [List.length_erase_of_mem (hin i h1 hnl), hU]; rfl
      · have hne : j ≠ i := fun e => by subst e; have := (hset j).2 (.inr rfl); rw [this] at hl; cases hl
        refine (List.mem_erase_of_ne hne).2 (hin j hj ?_)
        cases hx : listed.getD j false with
        | false => rfl
        | true => rw [(hset j).2 (.inl hx)] at hl; cases hl
      · rcases hj with (hj | ⟨q, hq, q1, q2⟩) | hj
        · exact .inl hj
        · exact .inr ⟨q, (hset q).2 (.inl hq), q1, q2⟩
        · exact .inr ⟨i, (hset i).2 (.inr rfl), by omega, by omega⟩
theorem region_wp (hm : P.follows .mixedOrders = true) (hX : ∀ b, c.X b → b < c.w0.heap.size ∧ ¬ b ∈ c.F) (hC : CallSim P E) (hE : TabOk P E) {id : Nat} {draw : Bool} (hd : ∀ (q : Nat) (o : Oper), ops[q]? = some o → σ.may o.dst) {ρ : Type} {K : TS → Option ρ} {r : ρ}
    (h : (bif draw then runOpsD E ops.toList 0 ops.toList s [] K else runOps E ops.toList 0 ops.toList s K) = some r) (rs : RS c σ (fun j => j < s.next) s a w) :
    (Code.region id ops draw).wp P (fun e a' w' => e = .normal ∧ ∃ s', K s' = some r ∧ RS c σ (fun j => j < s'.next + 16 * ops.toList.length) s' a' w') a w := by
  have hsize : ops.toList.length = ops.size := Array.length_toList
  cases draw with
  | false =>
    refine wp_region ?_
    have := runOps_wp (Q := fun e a' w' => e = .normal ∧ ∃ s', K s' = some r ∧ RS c σ (fun j => j < s'.next + 16 * ops.toList.length) s' a' w') hX hC hE hd (fun s' a' w' h1 h2 h3 => ⟨rfl, s', h1, by rw [h2]; exact h3⟩) ops.toList 0 s a w (by simp) (fun k => by rw [Nat.zero_add]) rfl h (rs.mono (fun j hj => by omega))
    rw [hsize] at this
    rw [List.range_eq_range']
    exact this
  | true =>
    obtain ⟨st, RW, e1, e2, e3, e4⟩ := runOpsD_row _ h
    have hst : ∀ k o, ops.toList[k]? = some o → opStep E ops.toList k o (st k) = some (st (k + 1), RW k) := fun k o hk => by simpa using e2 k o hk
    have A : Apart ops.toList RW := drawOk_apart (by simpa using e3)
    have hnx := row_next hst ops.toList.length (Nat.le_refl _)
    refine wp_region_any hm ?_
    have hrep : ∀ q, (Array.replicate ops.size false).getD q false = false := by
      intro q
      simp only [Array.getD_eq_getD_getElem?, Array.getElem?_replicate]
      split <;> rfl
    have hrepf : (fun q => (Array.replicate ops.size false).getD q false = true) = fun _ => False := funext fun q => by simp only [hrep q]; simp
    refine any_wp hX hC hE hd hst A (fun s' a' w' h1 h2 => ⟨rfl, st ops.toList.length, e4, ?_⟩) ops.size _ (List.range ops.size) (st 0) a _ (by simp) (by simp) (fun i hi _ => by simpa using hi) (by rw [hrepf]; exact fun _ _ _ h => h.elim) (by rw [hrepf]; exact any_start) ?_
    · rw [e1]
      exact RS.drawn (rs.mono (fun j hj => .inl hj))
    · rw [hnx]
      exact RS.congr h2 (fun x => (h1 x).symm)
end
end Go.TM

/- The run of a body on the machine. -/
set_option linter.unusedVariables false
set_option linter.unusedSimpArgs false
namespace Go.TM
open Go
def mayB (nt : Nat) (prot : List Nat) : Option Nat → Bool
  | some d => Nat.blt d nt && !memB d prot
  | none => true
def codeOk (nt : Nat) (prot : List Nat) : Code → Bool
  | .region _ ops _ => ops.toList.all fun o => mayB nt prot o.dst
  | .seq a b => codeOk nt prot a && codeOk nt prot b
  | .cond _ a b => codeOk nt prot a && codeOk nt prot b
  | .block _ c => codeOk nt prot c
  | .loop c => codeOk nt prot c
  | _ => true
def itemOk (nt : Nat) (prot : List Nat) : Item → Bool
  | .code c => codeOk nt prot c
  | .inLoop c => codeOk nt prot c
  | _ => true
def placesC : Code → List Item → List (Nat × List Item)
  | .region i ops d, k => [(i, .code (.region i ops d) :: k)]
  | .seq a b, k => placesC a (.code b :: k) ++ placesC b k
  | .cond _ a b, k => placesC a k ++ placesC b k
  | .block i c, k => placesC c (.inBlock i :: k)
  | .loop c, k => placesC c (.inLoop c :: k)
  | _, _ => []
def places : List Item → List (Nat × List Item)
  | [] => []
  | .code c :: k => placesC c k ++ places k
  | .inLoop c :: k => placesC c (.inLoop c :: k) ++ places k
  | _ :: k => places k
def regionIds : Code → List Nat
  | .region i _ _ => [i]
  | .seq a b => regionIds a ++ regionIds b
  | .cond _ a b => regionIds a ++ regionIds b
  | .block _ c => regionIds c
  | .loop c => regionIds c
  | _ => []
def nodupB : List Nat → Bool
  | [] => true
  | x :: r => !memB x r && nodupB r
theorem nodupB_iff : ∀ l : List Nat, nodupB l = true → l.Nodup
  | [], _ => List.nodup_nil
  | x :: r, h => by
    simp only [nodupB, Bool.and_eq_true, Bool.not_eq_true'] at h
    exact List.nodup_cons.2 ⟨fun hx => (by rw [(memB_iff x r).2 hx] at h; cases h.1), nodupB_iff r h.2⟩
theorem placesC_ids : ∀ (c : Code) (k : List Item), (placesC c k).map (·.1) = regionIds c
  | .region i ops d, k => rfl
  | .seq a b, k => by simp only [placesC, regionIds, List.map_append, placesC_ids a, placesC_ids b]
  | .cond _ a b, k => by simp only [placesC, regionIds, List.map_append, placesC_ids a, placesC_ids b]
  | .block i c, k => placesC_ids c _
  | .loop c, k => placesC_ids c _
  | .skip, _ => rfl
  | .rangeFunc .., _ => rfl
  | .exit _, _ => rfl
  | .scope _, _ => rfl
  | .label _, _ => rfl
  | .goto _, _ => rfl
  | .ret, _ => rfl
  | .refuse _, _ => rfl
theorem seek_places : ∀ (c : Code) (k : List Item) (id : Nat), seek id c k = ((placesC c k).find? (fun p => Nat.beq p.1 id)).map (·.2)
  | .region i ops d, k, id => by
    simp only [seek, placesC, List.find?_cons, List.find?_nil]
    cases hb : Nat.beq i id <;> simp
  | .seq a b, k, id => by
    simp only [seek, placesC, List.find?_append, seek_places a, seek_places b]
    cases (placesC a (.code b :: k)).find? (fun p => Nat.beq p.1 id) <;> simp
  | .cond _ a b, k, id => by
    simp only [seek, placesC, List.find?_append, seek_places a, seek_places b]
    cases (placesC a k).find? (fun p => Nat.beq p.1 id) <;> simp
  | .block i c, k, id => seek_places c _ id
  | .loop c, k, id => seek_places c _ id
  | .skip, _, _ => rfl
  | .rangeFunc .., _, _ => rfl
  | .exit _, _, _ => rfl
  | .scope _, _, _ => rfl
  | .label _, _, _ => rfl
  | .goto _, _, _ => rfl
  | .ret, _, _ => rfl
  | .refuse _, _, _ => rfl
theorem find_of_mem : ∀ (l : List (Nat × List Item)) (id : Nat) (k : List Item), (l.map (·.1)).Nodup → (id, k) ∈ l → l.find? (fun p => Nat.beq p.1 id) = some (id, k)
  | [], _, _, _, h => by cases h
  | (i, k') :: r, id, k, hn, h => by
    simp only [List.map_cons, List.nodup_cons] at hn
    rcases List.mem_cons.1 h with h | h
    · injection h with h1 h2
      subst h1; subst h2
      simp [List.find?_cons]
    · have hne : i ≠ id := fun e => hn.1 (e ▸ List.mem_map.2 ⟨_, h, rfl⟩)
      rw [List.find?_cons, nbeq_false hne]
      exact find_of_mem r id k hn.2 h
theorem seek_of_mem {body : Code} {id : Nat} {k : List Item} (hn : (regionIds body).Nodup) (h : (id, k) ∈ placesC body []) : seek id body [] = some k := by
  rw [seek_places, find_of_mem _ id k (by rw [placesC_ids]; exact hn) h]; rfl
theorem places_of_seek {body : Code} {id : Nat} {k : List Item} (h : seek id body [] = some k) : ∀ p, p ∈ places k → p ∈ places [.code body] := by
  have key : ∀ (c : Code) (k0 : List Item) (id : Nat) (k : List Item), (id, k) ∈ placesC c k0 → ∀ p, p ∈ places k → p ∈ placesC c k0 ++ places k0 := by
    intro c
    induction c with
    | region i ops d =>
      intro k0 id k h p hp
      simp only [placesC, List.mem_singleton, Prod.mk.injEq] at h
      obtain ⟨rfl, rfl⟩ := h
      exact hp
    | seq a b iha ihb =>
      intro k0 id k h p hp
      simp only [placesC] at h ⊢
      rcases List.mem_append.1 h with h | h
      · have := iha _ _ _ h p hp
        simpa [places, or_assoc] using this
      · have := ihb _ _ _ h p hp
        simp only [List.mem_append] at this ⊢
        exact this.elim (fun h => .inl (.inr h)) .inr
    | cond x a b iha ihb =>
      intro k0 id k h p hp
      simp only [placesC] at h ⊢
      rcases List.mem_append.1 h with h | h
      · have := iha _ _ _ h p hp
        simp only [List.mem_append] at this ⊢
        exact this.elim (fun h => .inl (.inl h)) .inr
      · have := ihb _ _ _ h p hp
        simp only [List.mem_append] at this ⊢
        exact this.elim (fun h => .inl (.inr h)) .inr
    | block i c ih =>
      intro k0 id k h p hp
      exact ih _ _ _ h p hp
    | loop c ih =>
      intro k0 id k h p hp
      have := ih _ _ _ h p hp
      simp only [placesC, places, List.mem_append] at this ⊢
      exact this.elim .inl (fun h => h)
    | _ => intro k0 id k h; cases h
  rw [seek_places] at h
  cases hf : (placesC body []).find? (fun p => Nat.beq p.1 id) with
  | none => rw [hf] at h; cases h
  | some q =>
    rw [hf] at h
    simp only [Option.map_some, Option.some.injEq] at h
    subst h
    have hm := List.mem_of_find?_eq_some hf
    intro p hp
    exact key body [] q.1 q.2 hm p hp
theorem items_of_seek {body : Code} {nt : Nat} {prot : List Nat} (hb : codeOk nt prot body = true) {id : Nat} {k : List Item} (h : seek id body [] = some k) : ∀ x, x ∈ k → itemOk nt prot x = true := by
  have key : ∀ (c : Code) (k0 : List Item), codeOk nt prot c = true → (∀ x, x ∈ k0 → itemOk nt prot x = true) → ∀ p, p ∈ placesC c k0 → ∀ x, x ∈ p.2 → itemOk nt prot x = true := by
    intro c
    induction c with
    | region i ops d =>
      intro k0 hc hk p hp x hx
      simp only [placesC, List.mem_singleton] at hp
      subst hp
      rcases List.mem_cons.1 hx with rfl | hx
      · exact hc
      · exact hk x hx
    | seq a b iha ihb =>
      intro k0 hc hk p hp
      simp only [codeOk, Bool.and_eq_true] at hc
      simp only [placesC] at hp
      rcases List.mem_append.1 hp with hp | hp
      · exact iha _ hc.1 (fun x hx => (List.mem_cons.1 hx).elim (fun e => by subst e; exact hc.2) (hk x)) p hp
      · exact ihb _ hc.2 hk p hp
    | cond y a b iha ihb =>
      intro k0 hc hk p hp
      simp only [codeOk, Bool.and_eq_true] at hc
      simp only [placesC] at hp
      rcases List.mem_append.1 hp with hp | hp
      · exact iha _ hc.1 hk p hp
      · exact ihb _ hc.2 hk p hp
    | block i c ih =>
      intro k0 hc hk p hp
      exact ih _ hc (fun x hx => (List.mem_cons.1 hx).elim (fun e => by subst e; rfl) (hk x)) p hp
    | loop c ih =>
      intro k0 hc hk p hp
      exact ih _ hc (fun x hx => (List.mem_cons.1 hx).elim (fun e => by subst e; exact hc) (hk x)) p hp
    | _ => intro k0 _ _ p h; cases h
  rw [seek_places] at h
  cases hf : (placesC body []).find? (fun p => Nat.beq p.1 id) with
  | none => rw [hf] at h; cases h
  | some q =>
    rw [hf] at h
    simp only [Option.map_some, Option.some.injEq] at h
    subst h
    exact key body [] hb (fun x hx => by cases hx) q (List.mem_of_find?_eq_some hf)
theorem exitTo_ok {id : Nat} : ∀ {k k' : List Item}, exitTo id k = some k' → (∀ p, p ∈ places k' → p ∈ places k) ∧ ∀ x, x ∈ k' → x ∈ k
  | [], _, h => by cases h
  | x :: k, k', h => by
    have step : exitTo id k = some k' → (∀ p, p ∈ places k' → p ∈ places (x :: k)) ∧ ∀ y, y ∈ k' → y ∈ x :: k := by
      intro h
      obtain ⟨h1, h2⟩ := exitTo_ok h
      refine ⟨fun p hp => ?_, fun y hy => List.mem_cons_of_mem _ (h2 y hy)⟩
      cases x <;> simp only [places, List.mem_append] <;> first | exact h1 p hp | exact .inr (h1 p hp)
    cases x with
    | inBlock i =>
      simp only [exitTo] at h
      split at h
      · injection h with h; subst h
        exact ⟨fun p hp => hp, fun y hy => List.mem_cons_of_mem _ hy⟩
      · exact step h
    | _ => exact step h
def Leaf.st : Leaf → TS
  | .lab _ _ s => s
  | .ret s => s
def Lands (P : Program) (m : Machine) (b : Frame) (cs : List Frame) (a' : Act) (w' : World) : Leaf → Prop
  | .lab _ k _ => Steps P m (lone (b.at a' k) cs w')
  | .ret _ => ∃ todo, Steps P m (lone { b.at a' todo with mode := .returning } cs w')
def Within (items : List Item) : Leaf → Prop
  | .lab id k _ => (id, k) ∈ places items
  | .ret _ => True
section
variable {P : Program} {E : Env} {c : Ctx} {σ : Sg} {ρ : Type} {K : Leaf → Option ρ} {r : ρ} {labs : List Nat}
theorem Lands.steps {m m' : Machine} {b : Frame} {cs : List Frame} {a' : Act} {w' : World} (h : Steps P m m') : ∀ {l : Leaf}, Lands P m' b cs a' w' l → Lands P m b cs a' w' l
  | .lab _ _ _, h' => h.trans h'
  | .ret _, ⟨todo, h'⟩ => ⟨todo, h.trans h'⟩
theorem Within.mono {k k' : List Item} (h : ∀ p, p ∈ places k → p ∈ places k') : ∀ {l : Leaf}, Within k l → Within k' l
  | .lab _ _ _, h' => h _ h'
  | .ret _, _ => trivial
theorem may_of {o : Option Nat} (h : mayB σ.nt σ.prot o = true) : σ.may o := by
  intro d hd
  subst hd
  simp only [mayB, Bool.and_eq_true, Bool.not_eq_true'] at h
  have h1 := Nat.le_of_ble_eq_true h.1
  exact ⟨h1, fun hm => by rw [(memB_iff _ _).2 hm] at h; cases h.2⟩
theorem exec_sim (hm : P.follows .mixedOrders = true) (hX : ∀ b, c.X b → b < c.w0.heap.size ∧ ¬ b ∈ c.F) (hC : CallSim P E) (hE : TabOk P E) (b : Frame) (cs : List Frame) :
    ∀ (n : Nat) (fst : Bool) (items : List Item) (s : TS) (a : Act) (w : World), exec E labs K n fst items s = some r → (∀ x, x ∈ items → itemOk σ.nt σ.prot x = true) → RS c σ (fun j => j < s.next) s a w →
      ∃ leaf a' w', K leaf = some r ∧ Lands P (lone (b.at a items) cs w) b cs a' w' leaf ∧ RS c σ (fun j => j < leaf.st.next) leaf.st a' w' ∧ Within items leaf := by
  intro n
  induction n with
  | zero => intro fst items s a w h; cases h
  | succ n ih =>
    intro fst items s a w h hi rs
    have go : ∀ (fst' : Bool) (items' : List Item) (s' : TS) (a' : Act) (w' : World), exec E labs K n fst' items' s' = some r → RS c σ (fun j => j < s'.next) s' a' w' → Steps P (lone (b.at a items) cs w) (lone (b.at a' items') cs w') → (∀ x, x ∈ items' → itemOk σ.nt σ.prot x = true) → (∀ p, p ∈ places items' → p ∈ places items) →
        ∃ leaf a' w', K leaf = some r ∧ Lands P (lone (b.at a items) cs w) b cs a' w' leaf ∧ RS c σ (fun j => j < leaf.st.next) leaf.st a' w' ∧ Within items leaf := by
      intro fst' items' s' a' w' h1 h2 h3 h4 h5
      obtain ⟨leaf, a2, w2, g1, g2, g3, g4⟩ := ih fst' items' s' a' w' h1 h4 h2
      exact ⟨leaf, a2, w2, g1, g2.steps h3, g3, g4.mono h5⟩
    cases items with
    | nil => exact ⟨.ret s, a, w, h, ⟨[], .one step_end⟩, rs, trivial⟩
    | cons x k =>
      have hk : ∀ y, y ∈ k → itemOk σ.nt σ.prot y = true := fun y hy => hi y (List.mem_cons_of_mem _ hy)
      have hx := hi x List.mem_cons_self
      cases x with
      | inBlock i => exact go fst k s a w h rs (.one step_inBlock) hk (fun p hp => hp)
      | inLoop c' => exact go fst _ s a w h rs (.one step_inLoop) (fun y hy => (List.mem_cons.1 hy).elim (fun e => by subst e; exact hx) (hi y)) (fun p hp => by
          simp only [places, List.mem_append] at hp ⊢
          exact hp.elim .inl id)
      | code c' =>
        cases c' with
        | ret => exact ⟨.ret s, a, w, h, ⟨_, .one step_ret⟩, rs, trivial⟩
        | skip => exact go fst k s a w h rs (.one step_skip) hk (fun p hp => by simpa [places, placesC] using hp)
        | seq x y =>
          simp only [itemOk, codeOk, Bool.and_eq_true] at hx
          exact go fst _ s a w h rs (.one step_seq) (fun z hz => by
            rcases List.mem_cons.1 hz with rfl | hz
            · exact hx.1
            · rcases List.mem_cons.1 hz with rfl | hz
              · exact hx.2
              · exact hk z hz) (fun p hp => by simpa [places, placesC, or_assoc] using hp)
        | cond v x y =>
          simp only [itemOk, codeOk, Bool.and_eq_true] at hx
          simp only [exec] at h
          split at h
          · rename_i t ht
            have hev : a.eval v = .bool t := by
              obtain ⟨G, B, I, _⟩ := rs
              cases v with
              | tmp t' =>
                have := I.slots t'
                have ht' : s.slot t' = .bool t := ht
                rw [ht'] at this
                simp only [AVR] at this
                exact this
              | const v =>
                have h1 := avr_const (G := G) (w := w) (N := Emp) v
                have ht' : avOf v = .bool t := ht
                rw [ht'] at h1
                simpa [AVR, Act.eval] using h1
              | global g => cases ht
              | func f => cases ht
            have hs := step_cond (P := P) (b := b) (k := k) (cs := cs) (w := w) (x := x) (y := y) hev
            cases t with
            | true => exact go fst _ s a w h rs (.one hs) (fun z hz => (List.mem_cons.1 hz).elim (fun e => by subst e; exact hx.1) (hk z)) (fun p hp => by
                simp only [places, placesC, List.mem_append, if_true] at hp ⊢
                exact hp.elim (fun h => .inl (.inl h)) .inr)
            | false => exact go fst _ s a w h rs (.one hs) (fun z hz => (List.mem_cons.1 hz).elim (fun e => by subst e; exact hx.2) (hk z)) (fun p hp => by
                simp only [places, placesC, List.mem_append] at hp ⊢
                exact hp.elim (fun h => .inl (.inr h)) .inr)
          · cases h
        | block i x =>
          exact go fst _ s a w h rs (.one step_block) (fun z hz => by
            rcases List.mem_cons.1 hz with rfl | hz
            · exact hx
            · rcases List.mem_cons.1 hz with rfl | hz
              · rfl
              · exact hk z hz) (fun p hp => by simpa [places, placesC] using hp)
        | loop x =>
          exact go fst _ s a w h rs (.one step_loop) (fun z hz => by
            rcases List.mem_cons.1 hz with rfl | hz
            · exact hx
            · rcases List.mem_cons.1 hz with rfl | hz
              · exact hx
              · exact hk z hz) (fun p hp => by
              simp only [places, placesC, List.mem_append] at hp ⊢
              rcases hp with hp | hp | hp
              · exact .inl hp
              · exact .inl hp
              · exact .inr hp)
        | exit id =>
          simp only [exec] at h
          split at h
          · rename_i k' hk'
            obtain ⟨h1, h2⟩ := exitTo_ok hk'
            exact go fst k' s a w h rs (.one (step_exit hk')) (fun z hz => hk z (h2 z hz)) (fun p hp => by simpa [places, placesC] using h1 p hp)
          · cases h
        | region id ops draw =>
          simp only [exec] at h
          cases hl : (!fst && isLab labs id) with
          | true =>
            rw [hl] at h
            exact ⟨_, a, w, h, Steps.refl P _, rs, by simp [Within, places, placesC]⟩
          | false =>
            rw [hl] at h
            simp only [cond_false] at h
            have hmay : ∀ (q : Nat) (o : Oper), ops[q]? = some o → σ.may o.dst := by
              intro q o ho
              refine may_of ?_
              simp only [itemOk, codeOk] at hx
              exact (List.all_eq_true.1 hx) o (by rw [Array.mem_toList_iff]; exact Array.mem_of_getElem? ho)
            have hwp := region_wp (id := id) hm hX hC hE hmay h rs
            obtain ⟨e, a', w', ⟨rfl, s', h1, h2⟩, h3⟩ := hwp b k cs
            exact go false k { s' with next := s'.next + 16 * ops.toList.length } a' w' h1 (RS.next h2) h3 hk (fun p hp => by
              simp only [places, placesC, List.mem_append]
              exact .inr hp)
        | _ => cases h
      | _ => cases h
end
end Go.TM

/- States told asv data, at labels. -/
set_option linter.unusedVariables false
set_option linter.unusedSimpArgs false
namespace Go.TM
open Go
def CR (w : World) (A : Nat → Prop) (bs : List Nat) (cs : List Value) : (v : VK) → v.T → Prop
  | .c ik _, x => IR ik w A bs x cs
  | .arr n k, x => bs = [] ∧ RO (.arr n k) w [] x cs
  | _, _ => False
def SR (w : World) (A : Nat → Prop) (f : Nat → Value) (v : VK) (src : Src) (bs : List Nat) (x : v.T) : Prop := match src with
  | .slot t => VR v w A bs x (f t)
  | .cell t => ∃ g cur ty, f t = .pointer (some ⟨g, 0, none⟩) ∧ w.heap[g]? = some (.cells cur ty (0, 0)) ∧ (∀ u, u ∈ cur.toList → u.oneCell' = true) ∧ CR w A bs cur.toList v x
def SRs (w : World) (A : Nat → Prop) (f : Nat → Value) : (l : List VK) → List Src → List Nat → VKs l → Prop
  | [], _, bs, _ => bs = []
  | [v], a :: _, bs, x => SR w A f v a bs x
  | v :: v' :: l, a :: asv, bs, x => ∃ b1 b2, bs = b1 ++ b2 ∧ SR w A f v a b1 x.1 ∧ SRs w A f (v' :: l) asv b2 x.2
  | _, _, _, _ => False
theorem CR.mono {w : World} {A A' : Nat → Prop} {bs : List Nat} {cs : List Value} (hA : ∀ b, A b → A' b) {v : VK} {x : v.T} (h : CR w A bs cs v x) : CR w A' bs cs v x := by
  cases v with
  | c ik agg => exact IR.mono hA h
  | _ => exact h
theorem SR.mono {w : World} {A A' : Nat → Prop} {f : Nat → Value} (hA : ∀ b, A b → A' b) {v : VK} {src : Src} {bs : List Nat} {x : v.T} (h : SR w A f v src bs x) : SR w A' f v src bs x := by
  cases src with
  | slot t => exact VR.mono hA h
  | cell t =>
    obtain ⟨g, cur, ty, h1, h2, h3, h4⟩ := h
    exact ⟨g, cur, ty, h1, h2, h3, h4.mono hA⟩
theorem SRs.mono {w : World} {A A' : Nat → Prop} {f : Nat → Value} (hA : ∀ b, A b → A' b) : ∀ {l : List VK} {srcs : List Src} {bs : List Nat} {x : VKs l}, SRs w A f l srcs bs x → SRs w A' f l srcs bs x
  | [], _, _, _, h => h
  | [v], a :: _, _, _, h => SR.mono hA h
  | v :: v' :: l, a :: asv, _, _, h => by
    simp only [SRs] at h ⊢
    obtain ⟨b1, b2, h1, h2, h3⟩ := h
    exact ⟨b1, b2, h1, h2.mono hA, h3.mono hA⟩
  | [_], [], _, _, h => by simp only [SRs] at h
  | _ :: _ :: _, [], _, _, h => by simp only [SRs] at h
structure LabR (c : Ctx) (σ : Sg) (L : Lab) (x : VKs L.D) (a : Act) (w : World) : Prop where
  val : ∃ bs : List Nat, SRs w (fun b => b < w.heap.size ∧ ¬ b ∈ bs ∧ ¬ c.X b) (fun t => a.tmps.getD t undef) L.D L.src bs x ∧ bs.Nodup ∧ ∀ b, b ∈ bs → b < w.heap.size ∧ (b ∈ c.F ∨ c.w0.heap.size ≤ b)
  ok : σ.ok a
  os : w.os = c.w0.os
  tape : w.tape = c.w0.tape
  output : w.output = c.w0.output
  size : c.w0.heap.size ≤ w.heap.size
  keep : ∀ b, b < c.w0.heap.size → ¬ b ∈ c.F → w.heap[b]? = c.w0.heap[b]?
  al : ∀ p, p ∈ L.al → ∃ g cur ty, a.tmps.getD p.2.1 undef = .pointer (some ⟨g, 0, none⟩) ∧ w.heap[g]? = some (.cells cur ty (0, 0)) ∧ cur.toList[p.2.2]? = some (a.tmps.getD p.1 undef)
def roS (s : TS) : VK → Src → List Nat
  | v, .slot t => roV s.roots v (s.slot t)
  | .c ik _, .cell t => match s.slot t with
    | .box q 0 => match look s.roots q with
      | some (.box cs) => roRoots ik cs
      | _ => []
    | _ => []
  | _, _ => []
def roSs (s : TS) : List VK → List Src → List Nat
  | v :: l, a :: asv => roS s v a ++ roSs s l asv
  | _, _ => []
section
variable {P : Program} {E : Env} {c : Ctx} {σ : Sg} {G : Ge} {w : World} {B : Nat → List Nat} {sl : Nat → AV} {vs : Nat → Value} {ρ α : Type} {K : α → List (Nat × Root) → Nat → Option ρ} {r : ρ} {nid : Nat} {s : TS}
theorem read1_out (v : VK) (src : Src) {h : Hp} {X : Nat → Prop} (I : Inv c h G w B X s.slot vs) (hsub : ∀ j root, look h j = some root → look s.roots j = some root) {f : v.T → HM α} (hr : (read1 s v src f).run nid h K = some r) :
    ∃ x h' bs ls, (f x).run nid h' K = some r ∧ SR w (Lent c h' w B (fun b => X b ∨ b ∈ ls) (roS s v src)) vs v src bs x ∧ (∀ b, b ∈ bs → b ∈ ls) ∧ bs.Nodup ∧ Limbo c h G w B X s.slot vs h' ls := by
  cases src with
  | slot t =>
    have hr' : (impV v (s.slot t) f).run nid h K = some r := by
      cases v <;> exact hr
    obtain ⟨x, h', bs, e1, e2, e3⟩ := impV_out v I hr' (I.slots t)
    refine ⟨x, h', bs, bs, e1, ?_, fun _ h => h, e3.nodup, e3⟩
    have := e2.mono (A' := Lent c h' w B (fun b => X b ∨ b ∈ bs) (roS s v (.slot t))) (fun b hb => ⟨hb.1, hb.2.imp id (fun ⟨j, hj, hbj⟩ => ⟨j, roP_sub hsub (.val v) (s.slot t) j hj, hbj⟩)⟩)
    exact this
  | cell t =>
    cases v with
    | c ik agg =>
      simp only [read1] at hr
      split at hr
      · rename_i q hq
        obtain ⟨root, hlook, hr⟩ := get_run hr
        cases root with
        | list => cases hr
        | arr => cases hr
        | box cs =>
          simp only [HM.run] at hr
          obtain ⟨hd, hroot⟩ := I.root q _ hlook
          simp only [RootR] at hroot
          obtain ⟨g, cur, ty, g1, g2, g3, g4, g5⟩ := hroot
          have ha := I.slots t
          rw [hq] at ha
          simp only [AVR] at ha
          obtain ⟨_, g', hL, hv⟩ := ha
          rw [g1] at hL
          injection hL with hL; injection hL with hL; injection hL with hL; subst hL
          have l1 := Limbo.of_del I hlook (bs := [g]) (by simp) (fun b hb => by rw [g2]; exact hb)
          obtain ⟨x, h', bs, c1, c2, e0, e1, e2, e3, e4⟩ := impI_out ik l1.inv hr (l1.avrs g5)
          obtain ⟨e5, e6⟩ := nilR_out e1
          rw [e5] at e4
          have := e4.length
          simp only [List.length_nil] at this
          have hc2 : c2 = [] := List.eq_nil_of_length_eq_zero this.symm
          subst hc2
          rw [List.append_nil] at e0
          subst e0
          have he : (fun b => (X b ∨ b ∈ [g]) ∨ b ∈ bs) = fun b => X b ∨ b ∈ [g] ++ bs := by funext b; simp [or_assoc]
          rw [he] at e2
          have hl := l1.trans e3
          refine ⟨x, h', bs, [g] ++ bs, e6, ⟨g, cur, ty, hv, g3, g4, ?_⟩, fun b hb => List.mem_append_right _ hb, e3.nodup, hl⟩
          simp only [CR, roS, hq, hsub _ _ hlook]
          exact e2
      · cases hr
    | arr n k =>
      simp only [read1] at hr
      split at hr
      · rename_i q hq
        obtain ⟨root, hlook, hr⟩ := get_run hr
        cases root with
        | list => cases hr
        | box => cases hr
        | arr n' k' xs =>
          simp only at hr
          split at hr
          · rename_i hk
            subst hk
            obtain ⟨hn, hr2⟩ := bif_run hr
            have hn := Nat.eq_of_beq_eq_true hn
            subst hn
            simp only [HM.run] at hr2
            obtain ⟨hd, hroot⟩ := I.root q _ hlook
            simp only [RootR] at hroot
            obtain ⟨g0, gf, g, cur, ty, g1, g2, g3, g4⟩ := hroot
            have ha := I.slots t
            rw [hq] at ha
            simp only [AVR] at ha
            obtain ⟨_, g', hL, hv⟩ := ha
            rw [g1] at hL
            injection hL with hL; injection hL with hL; injection hL with hL; subst hL
            have l1 := Limbo.of_del I hlook (bs := [g]) (by simp) (fun b hb => by rw [g2]; exact hb)
            exact ⟨xs, _, [], [g], hr2, ⟨g, cur, ty, hv, g3, ro_one (k := .arr n k') (by simpa [TM.K.flat] using gf) g4, by simp only [CR]; exact ⟨trivial, g4⟩⟩, by simp, List.nodup_nil, l1⟩
          · cases hr
      · cases hr
    | box ik => simp [read1, HM.run] at hr
    | abox n k => simp [read1, HM.run] at hr
    | peek k => simp [read1, HM.run] at hr
theorem readVals_out : ∀ (l : List VK) (srcs : List Src) {h : Hp} {X : Nat → Prop} {f : VKs l → HM α} (I : Inv c h G w B X s.slot vs) (hsub : ∀ j root, look h j = some root → look s.roots j = some root), (readVals s l srcs f).run nid h K = some r →
    ∃ x h' bs ls, (f x).run nid h' K = some r ∧ SRs w (Lent c h' w B (fun b => X b ∨ b ∈ ls) (roSs s l srcs)) vs l srcs bs x ∧ (∀ b, b ∈ bs → b ∈ ls) ∧ bs.Nodup ∧ Limbo c h G w B X s.slot vs h' ls
  | [], srcs, h, X, f, I, hsub, hr => ⟨(), h, [], [], hr, by simp [SRs], fun _ h => h, List.nodup_nil, Limbo.refl I⟩
  | [v], a :: asv, h, X, f, I, hsub, hr => by
    obtain ⟨x, h', bs, ls, e1, e2, e3, e4, e5⟩ := read1_out v a I hsub hr
    exact ⟨x, h', bs, ls, e1, by
      simp only [SRs]
      exact e2.mono (fun b hb => ⟨hb.1, hb.2.imp id (fun ⟨j, hj, hbj⟩ => ⟨j, by simp only [roSs]; exact List.mem_append_left _ hj, hbj⟩)⟩), e3, e4, e5⟩
  | v :: v' :: l, a :: asv, h, X, f, I, hsub, hr => by
    simp only [readVals] at hr
    obtain ⟨x, h1, b1, l1, e1, e2, e3, e4, e5⟩ := read1_out v a I hsub hr
    obtain ⟨y, h2, b2, l2, f1, f2, f3, f4, f5⟩ := readVals_out (v' :: l) asv e5.inv (fun j root hj => hsub j root (e5.sub j root hj)) e1
    have he : (fun b => (X b ∨ b ∈ l1) ∨ b ∈ l2) = fun b => X b ∨ b ∈ l1 ++ l2 := by funext b; simp [or_assoc]
    have g1 := e2.mono (f5.lent (L' := roSs s (v :: v' :: l) (a :: asv)) (fun j hj => by rw [roSs]; exact List.mem_append_left _ hj))
    have g2 := f2.mono (A' := Lent c h2 w B (fun b => (X b ∨ b ∈ l1) ∨ b ∈ l2) (roSs s (v :: v' :: l) (a :: asv))) (fun b hb => ⟨hb.1, hb.2.imp id (fun ⟨j, hj, hbj⟩ => ⟨j, by rw [roSs]; exact List.mem_append_right _ hj, hbj⟩)⟩)
    rw [he] at g1 g2
    refine ⟨(x, y), h2, b1 ++ b2, l1 ++ l2, f1, by simp only [SRs]; exact ⟨b1, b2, rfl, g1, g2⟩, fun b hb => ?_, ?_, e5.trans f5⟩
    · rcases List.mem_append.1 hb with hb | hb
      · exact List.mem_append_left _ (e3 b hb)
      · exact List.mem_append_right _ (f3 b hb)
    · rw [List.nodup_append]
      refine ⟨e4, f4, fun b hb b' hb' heq => ?_⟩
      subst heq
      exact f5.fresh b (f3 b hb') (.inr (e3 b hb))
  | [_], [], _, _, _, _, _, hr => by simp [readVals, HM.run] at hr
  | _ :: _ :: _, [], _, _, _, _, _, hr => by simp [readVals, HM.run] at hr
theorem live1_out (v : VK) (src : Src) {h : Hp} {f : HM α} (hr : (live1 s v src f).run nid h K = some r) : f.run nid h K = some r ∧ ∀ j, j ∈ roS s v src → ∃ root, look h j = some root := by
  cases v with
  | c ik agg =>
    cases src with
    | slot t =>
      cases agg with
      | true =>
        simp only [live1] at hr
        simp only [roS]
        split at hr
        · rename_i cs hcs
          rw [hcs]
          exact liveI_out ik hr
        · cases hr
      | false => exact liveI_out ik (avs := [s.slot t]) (f := fun _ => f) hr
    | cell t =>
      simp only [live1] at hr
      simp only [roS]
      split at hr
      · rename_i q hq
        split at hr
        · rename_i cs hcs
          rw [hq]
          simp only [hcs]
          exact liveI_out ik hr
        · cases hr
      · cases hr
  | box ik =>
    cases src with
    | slot t =>
      simp only [live1] at hr
      simp only [roS]
      split at hr
      · rename_i q hq
        split at hr
        · rename_i cs hcs
          rw [hq]
          simp only [roV, hcs]
          exact liveI_out ik hr
        · cases hr
      · cases hr
    | cell t => exact ⟨hr, fun j hj => by simp [roS] at hj⟩
  | arr n k => cases src <;> exact ⟨hr, fun j hj => by simp [roS, roV] at hj⟩
  | abox n k => cases src <;> exact ⟨hr, fun j hj => by simp [roS, roV] at hj⟩
  | peek k =>
    cases src with
    | slot t =>
      simp only [live1] at hr
      simp only [roS]
      split at hr
      · rename_i k' e off hq
        rw [hq]
        exact ⟨hr, fun j hj => by simp [roV] at hj⟩
      · cases hr
    | cell t => exact ⟨hr, fun j hj => by simp [roS] at hj⟩
theorem liveVals_out : ∀ (l : List VK) (srcs : List Src) {h : Hp} {f : HM α}, (liveVals s l srcs f).run nid h K = some r → f.run nid h K = some r ∧ ∀ j, j ∈ roSs s l srcs → ∃ root, look h j = some root
  | [], _, h, f, hr => ⟨hr, fun j hj => by simp [roSs] at hj⟩
  | v :: l, [], h, f, hr => ⟨hr, fun j hj => by simp [roSs] at hj⟩
  | v :: l, a :: asv, h, f, hr => by
    simp only [liveVals] at hr
    obtain ⟨h1, h2⟩ := live1_out v a hr
    obtain ⟨h3, h4⟩ := liveVals_out l asv h1
    refine ⟨h3, fun j hj => ?_⟩
    rw [roSs] at hj
    rcases List.mem_append.1 hj with hj | hj
    · exact h2 j hj
    · exact h4 j hj
theorem avrs_at {N : Nat → Prop} : ∀ {cs : List AV} {vals : List Value} {i : Nat} {v : AV}, AVRs G w N cs vals → cs[i]? = some v → ∃ u, vals[i]? = some u ∧ AVR G w N v u
  | [], _, i, v, _, hi => by simp at hi
  | a :: cs, [], i, v, h, _ => by simp only [AVRs] at h
  | a :: cs, u :: vals, 0, v, h, hi => by
    simp only [AVRs] at h
    simp only [List.getElem?_cons_zero, Option.some.injEq] at hi
    subst hi
    exact ⟨u, by simp, h.1⟩
  | a :: cs, u :: vals, i + 1, v, h, hi => by
    simp only [AVRs] at h
    rw [List.getElem?_cons_succ] at hi
    obtain ⟨u', h1, h2⟩ := avrs_at h.2 hi
    exact ⟨u', by rw [List.getElem?_cons_succ]; exact h1, h2⟩
theorem al_out {X : Nat → Prop} (I : Inv c s.roots G w B X s.slot vs) {l : List (Nat × Nat × Nat)} (h : l.all (alOk s) = true) : ∀ p, p ∈ l → ∃ g cur ty, vs p.2.1 = .pointer (some ⟨g, 0, none⟩) ∧ w.heap[g]? = some (.cells cur ty (0, 0)) ∧ cur.toList[p.2.2]? = some (vs p.1) := by
  intro p hp
  have h1 := List.all_eq_true.1 h p hp
  unfold alOk at h1
  split at h1
  · rename_i j b hj hb
    split at h1
    · rename_i cs hcs
      split at h1
      · rename_i j' hc
        have h1 := Nat.eq_of_beq_eq_true h1
        subst h1
        have a1 := I.slots p.1
        rw [hj] at a1
        have a2 := I.slots p.2.1
        rw [hb] at a2
        simp only [AVR] at a1 a2
        obtain ⟨_, e1, _⟩ := a1
        obtain ⟨_, g, e2, e3⟩ := a2
        obtain ⟨_, hroot⟩ := I.root b _ hcs
        simp only [RootR] at hroot
        obtain ⟨g', cur, ty, g1, g2, g3, g4, g5⟩ := hroot
        rw [g1] at e2
        injection e2 with e2; injection e2 with e2; injection e2 with e2; subst e2
        obtain ⟨u, k1, k2⟩ := avrs_at g5 hc
        simp only [AVR] at k2
        exact ⟨g', cur, ty, e3, g3, by rw [k1, k2.2.1, e1]⟩
      · cases h1
    · cases h1
  · cases h1
theorem lab_read (hX : ∀ b, c.X b → b < c.w0.heap.size ∧ ¬ b ∈ c.F) {ok : Nat → Prop} {a : Act} (rs : RS c σ ok s a w) {L : Lab} {K : VKs L.D → Option ρ} (h : L.read s K = some r) : ∃ x, K x = some r ∧ LabR c σ L x a w := by
  obtain ⟨G, B, I, h1, h2⟩ := rs
  unfold Lab.read at h
  cases hal : L.al.all (alOk s) with
  | false => rw [hal] at h; cases h
  | true =>
  rw [hal, cond_true] at h
  have hals := al_out I hal
  obtain ⟨x, h', bs, ls, e1, e2, e3, e4, e5⟩ := readVals_out L.D L.src I (fun _ _ h => h) h
  obtain ⟨e6, e7⟩ := liveVals_out L.D L.src e1
  refine ⟨x, e6, ⟨⟨bs, e2.mono (fun b hb => ⟨hb.1, fun hbb => ?_, fun hx => ?_⟩), e4, fun b hb => e5.inv.lim b (.inr (e3 b hb))⟩, h2, I.os, I.tape, I.output, I.size, I.keep, hals⟩⟩
  · rcases hb.2 with hn | ⟨j, hj, hbj⟩
    · exact hn (.inr (.inl (.inr (e3 b hbb))))
    · obtain ⟨root, hroot⟩ := e7 j hj
      exact (e5.inv.own j root hroot b hbj).2.2 (.inr (e3 b hbb))
  · rcases hb.2 with hn | ⟨j, hj, hbj⟩
    · exact hn (.inr (.inr hx))
    · obtain ⟨root, hroot⟩ := e7 j hj
      obtain ⟨q1, q2⟩ := hX b hx
      exact (e5.inv.own j root hroot b hbj).2.1.elim q2 (fun h => by omega)
def slotsOf (acc : List (Nat × AV)) (t : Nat) : AV := (look acc t).getD .undef
theorem headVals_out {m : Nat} : ∀ (l : List VK) (srcs : List Src) {h : Hp} {G : Ge} {B : Nat → List Nat} {X A : Nat → Prop} {n : Nat} {x : VKs l} {bs : List Nat} {acc : List (Nat × AV)} {f : List (Nat × AV) → HM α} (I : Inv c h G w B X (slotsOf acc) vs) (F : Free' K r G n m), SRs w A vs l srcs bs x → bs.Nodup → (∀ b, b ∈ bs → X b) → (∀ b, A b → ¬ NN c h B X b ∧ b < w.heap.size) → (headVals l srcs x acc f).run n h K = some r →
    ∃ acc' h' G' B' n', (f acc').run n' h' K = some r ∧ Inv c h' G' w B' (fun b => X b ∧ ¬ b ∈ bs) (slotsOf acc') vs ∧ (∀ j, G'.D j → G.D j ∨ (n ≤ j ∧ j < n')) ∧ n ≤ n' := by
  have one : ∀ (v : VK) (src : Src) {h : Hp} {G : Ge} {B : Nat → List Nat} {X A : Nat → Prop} {n : Nat} {x : v.T} {bs : List Nat} {acc : List (Nat × AV)} {f : List (Nat × AV) → HM α} (I : Inv c h G w B X (slotsOf acc) vs) (F : Free' K r G n m), SR w A vs v src bs x → bs.Nodup → (∀ b, b ∈ bs → X b) → (∀ b, A b → ¬ NN c h B X b ∧ b < w.heap.size) → (head1 v src x acc f).run n h K = some r →
      ∃ acc' h' G' B' n', (f acc').run n' h' K = some r ∧ Inv c h' G' w B' (fun b => X b ∧ ¬ b ∈ bs) (slotsOf acc') vs ∧ (∀ j, G'.D j → G.D j ∨ (n ≤ j ∧ j < n')) ∧ n ≤ n' ∧ Pres G w (NN c h B X) G' w (NN c h' B' (fun b => X b ∧ ¬ b ∈ bs)) := by
    intro v src h G B X A n x bs acc f I F hx hn hb hA hr
    cases src with
    | cell t => cases hr
    | slot t =>
      obtain ⟨av, h', G', B', n', r1, mm, hv⟩ := expV_out v I F hx hn hb hA hr
      refine ⟨_, h', G', B', n', r1, mm.inv.congr (fun _ => rfl) (fun t' => ?_), mm.D, mm.le, mm.pres⟩
      simp only [slotsOf, look_cons]
      by_cases e : t = t'
      · subst e; simp only [if_true, Option.getD_some]; exact hv
      · rw [if_neg e]; exact mm.inv.slots t'
  intro l
  induction l with
  | nil =>
    intro srcs h G B X A n x bs acc f I F hx hn hb hA hr
    simp only [SRs] at hx
    subst hx
    have he : (fun b => X b ∧ ¬ b ∈ ([] : List Nat)) = X := by funext b; simp
    exact ⟨acc, h, G, B, n, hr, by rw [he]; exact I, fun j hj => .inl hj, Nat.le_refl _⟩
  | cons v l ih =>
    intro srcs h G B X A n x bs acc f I F hx hn hb hA hr
    cases srcs with
    | nil => cases l <;> simp only [SRs] at hx
    | cons a asv =>
      cases l with
      | nil =>
        obtain ⟨acc', h', G', B', n', r1, i1, d1, l1, _⟩ := one v a I F hx hn hb hA hr
        exact ⟨acc', h', G', B', n', r1, i1, d1, l1⟩
      | cons v' l =>
        simp only [SRs] at hx
        obtain ⟨b1, b2, rfl, x1, x2⟩ := hx
        rw [List.nodup_append] at hn
        obtain ⟨n1, n2, n3⟩ := hn
        simp only [headVals] at hr
        obtain ⟨acc1, h1, G1, B1, m1, r1, i1, d1, l1, p1⟩ := one v a I F x1 n1 (fun q hq => hb q (List.mem_append_left _ hq)) hA hr
        obtain ⟨acc2, h2, G2, B2, m2, r2, i2, d2, l2⟩ := ih asv i1 (F.step d1 l1) x2 n2 (fun q hq => ⟨hb q (List.mem_append_right _ hq), fun hq' => n3 q hq' q hq rfl⟩) (fun q hq => ⟨fun hN => (hA q hq).1 (p1.av q (hA q hq).2 hN), (hA q hq).2⟩) r1
        have he : (fun q => (X q ∧ ¬ q ∈ b1) ∧ ¬ q ∈ b2) = fun q => X q ∧ ¬ q ∈ b1 ++ b2 := by funext q; simp [and_assoc]
        rw [he] at i2
        exact ⟨acc2, h2, G2, B2, m2, r2, i2, fun j hj => (d2 j hj).elim (fun h => (d1 j h).imp id (fun h => ⟨h.1, by omega⟩)) (fun h => .inr ⟨by omega, h.2⟩), by omega⟩
theorem al_in {h : Hp} {X : Nat → Prop} : ∀ (l : List (Nat × Nat × Nat)) {acc : List (Nat × AV)}, Inv c h G w B X (slotsOf acc) vs → (∀ p, p ∈ l → ∃ g cur ty, vs p.2.1 = .pointer (some ⟨g, 0, none⟩) ∧ w.heap[g]? = some (.cells cur ty (0, 0)) ∧ cur.toList[p.2.2]? = some (vs p.1)) → Inv c h G w B X (slotsOf (alHead h l acc)) vs
  | [], acc, I, _ => I
  | (t, q, i) :: r, acc, I, hl => by
    have hr := fun p hp => hl p (List.mem_cons_of_mem _ hp)
    simp only [alHead]
    split
    · rename_i b hb
      split
      · rename_i cs hcs
        split
        · rename_i v hv
          refine al_in r ?_ hr
          refine I.congr (fun _ => rfl) (fun t' => ?_)
          by_cases ht : t = t'
          · subst ht
            have e : slotsOf ((t, v) :: acc) t = v := by
              unfold slotsOf
              rw [look_cons, if_pos rfl]; rfl
            rw [e]
            obtain ⟨g, cur, ty, e1, e2, e3⟩ := hl _ List.mem_cons_self
            simp only at e1 e2 e3
            have a2 := I.slots q
            have e4 : slotsOf acc q = .box b 0 := by unfold slotsOf; rw [hb]; rfl
            rw [e4] at a2
            simp only [AVR] at a2
            obtain ⟨_, g', f1, f2⟩ := a2
            obtain ⟨_, hroot⟩ := I.root b _ hcs
            simp only [RootR] at hroot
            obtain ⟨g'', cur', ty', g1, g2, g3, g4, g5⟩ := hroot
            rw [g1] at f1
            injection f1 with f1; injection f1 with f1; injection f1 with f1; subst f1
            rw [e1] at f2
            injection f2 with f2; injection f2 with f2; injection f2 with f2; subst f2
            rw [g3] at e2
            injection e2 with e2
            injection e2 with e2
            subst e2
            obtain ⟨u, k1, k2⟩ := avrs_at g5 hv
            rw [e3] at k1
            injection k1 with k1
            rw [k1]
            exact k2
          · have e : slotsOf ((t, v) :: acc) t' = slotsOf acc t' := by
              unfold slotsOf
              rw [look_cons, if_neg ht]
            rw [e]
            exact I.slots t'
        · exact al_in r I hr
      · exact al_in r I hr
    · exact al_in r I hr
theorem lab_head {L : Lab} {x : VKs L.D} {a : Act} {K : TS → Option ρ} (R : LabR c σ L x a w) (h : L.head x K = some r) : ∃ s, K s = some r ∧ RS c σ (fun j => j < s.next) s a w := by
  obtain ⟨⟨bs, hx, hn, hlim⟩, hok, h1, h2, h3, h4, h5, h6⟩ := R
  unfold Lab.head at h
  obtain ⟨acc, h', n', _, _, g1, g2⟩ := run_some _ [] [] h
  have g3 := go_run _ (fun acc h n => some (acc, h, n)) g1
  let G0 : Ge := ⟨fun _ => False, fun _ => undef, fun _ => .bool, fun _ _ _ => undef⟩
  have I0 : Inv c [] G0 w (fun _ => []) (fun b => b ∈ bs) (slotsOf []) (fun t => a.tmps.getD t undef) :=
    ⟨fun i r hi => (by cases hi), fun i r hi => (by cases hi), fun i j r r' _ hi => (by cases hi), fun i r hi => (by cases hi), hlim, h1, h2, h3, h4, h5, fun t => by simp only [slotsOf, look, Option.getD_none, AVR]⟩
  obtain ⟨acc', h2', G', B', n2, r1, i1, d1, _⟩ := headVals_out (m := n') L.D L.src I0 (⟨fun v h n e => by
    simp only [Option.some.injEq, Prod.mk.injEq] at e
    omega, fun j _ _ hj => hj⟩ : Free' (fun acc h n => some (acc, h, n)) (acc, h', n') G0 0 n') hx hn (fun _ h => h) (fun b hb => ⟨fun hN => by
      rcases hN with ⟨i, r, hi, _⟩ | hN | hN
      · cases hi
      · exact hb.2.1 hN
      · exact hb.2.2 hN, hb.1⟩) g3
  simp only [HM.run, Option.some.injEq, Prod.mk.injEq] at r1
  obtain ⟨rfl, rfl, rfl⟩ := r1
  obtain ⟨i2, _⟩ := i1.less Emp (fun _ h => h.elim)
  have i2 := al_in L.al i2 h6
  exact ⟨_, g2, G', B', i2, fun j hj => (d1 j hj).elim (fun h => h.elim) (fun h => h.2), hok⟩
end
end Go.TM
