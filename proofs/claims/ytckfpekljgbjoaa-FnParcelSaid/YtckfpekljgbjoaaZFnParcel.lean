/- The law FnParcel answers true for every input, and each argument reads behind the call as it read before; no condition is added to the given statement. -/
import Derived.Test.YtckfpekljgbjoaaCFnParceld
import Derived.Test.YtckfpekljgbjoaaRows
import Derived.WalkKit
import Derived.ProofKit
import Derived.OpenShut
import Derived.ShutString
import Derived.ChangeOld
import Derived.Below
import Derived.SizedLaws
import Derived.Carry
namespace Go.Proofs.Ytckfpekljgbjoaa.fnParcel
open Go.ChangeShapes Go.WideShapes Go.ChangeAt Go.RowKit
open Go.ChangeMaps (open_string shut_string)
set_option linter.unusedVariables false
theorem own : ownKnob Try.prog.godebug = none := by kernel_rfl
theorem laidOut : laidOutB Try.prog = true := by kernel_rfl
set_option maxRecDepth 100000 in
theorem lifted (os : Os) (started : os.Started) (H : Type) (enc : TypeId × Value → H) :
    ReturnsInHanded {} Try.checked os 4 .any (Rows.fnParcelSpec.pre6 enc Try.prog Try.f4 Rows.fnParcelRow.domain false) (Rows.fnParcelSpec.post enc Try.prog Try.f4 false true false false) := by
  refine returnsInHanded_of_change_sized (C := Try.checked) own started (by kernel_rfl) Try.func4
    (ChangeSpec.witness6 (enc := enc) (C := Try.checked) false ⟨#[], #[.slice none 0 0], []⟩ 16 (by kernel_rfl) (by kernel_rfl) (by kernel_rfl) (by kernel_rfl)) ?_
  intro W base args ds gs before hval0 hW hcnd hsz0 _
  have hsz : (DataW.weightsEach Try.prog (Try.f4.params.toList ++ Rows.fnParcelSpec.plain.varTypes Try.prog) (ds ++ gs)).all (· ≤ reachBytes) = true := hsz0
  have hval : ∀ (j : Nat) t v, Try.f4.params[j]? = some t → args[j]? = some v → Value.okWide Try.prog W .any base t v := hval0
  have hW' := hW
  obtain ⟨p, q, hA0, hV, rfl, hfz, hnd⟩ := hW
  have hA : DataW.TrodAll enc Try.prog W 0 (fun _ => true) true Try.f4.params.toList args.toList ds p := hA0
  rw [Try.params4] at hA hval hsz
  obtain ⟨v0, vs0, d0, ds0, p0, q0, hargs, rfl, rfl, h0, r0⟩ := trodAll_cons hA
  obtain ⟨rfl, rfl, rfl⟩ := trodAll_nil r0
  obtain rfl : args = #[v0] := by cases args; simp_all
  obtain ⟨rfl, rfl⟩ := trodVars_none hV
  have lt0 : ∀ x ∈ p0, x.block < W.heap.size := by obtain ⟨m, hm⟩ := h0; exact DataW.trod_lt m _ _ _ hm
  obtain ⟨x0, ro0, wf0⟩ : ∃ x : ((.list (.int .u8)) : TM.K).T, TM.RO (.list (.int .u8)) W (p0.map MemPlace.block) x v0.cells.toList ∧ TM.WfK (.list (.int .u8)) x := by
    obtain ⟨m, hm⟩ := h0
    exact TM.kind_open (E := TM.laws_FnParcel_env) (TM.tabOk_of (E := TM.laws_FnParcel_env) TM.tab_ok) 64 32 (.list (.int .u8)) (by kernel_rfl) m _ d0 p0 hm (fun q hq => by simpa using (List.all_eq_true.1 hsz) q (DataW.weights_mem_each (j := 0) (t := 32) (d := d0) rfl rfl q hq))
  have hv0 := hval 0 32 v0 rfl rfl
  obtain ⟨ad0, len0, cap0, rfl⟩ := okWide_slice Try.underlying32 hv0
  have hA0 : ∀ b, b ∈ p0.map MemPlace.block → b < W.heap.size := fun b hb => by obtain ⟨y, hy, rfl⟩ := List.mem_map.1 hb; exact lt0 y hy
  have hF := TM.pure_FnParcel x0 wf0
  refine (TM.law_end (con := TM.con_laws_FnParcel) (x := x0) (y := true) (vals := [.slice ad0 len0 cap0]) rfl TM.hold_laws_FnParcel hF ⟨_, rfl, (TM.ir_of_ro (k := (.list (.int .u8))) rfl hA0 ro0)⟩ (fun w A b v h => by
    obtain ⟨u, h1, h2⟩ := h
    obtain ⟨_, h3⟩ := h2
    injection h1 with h1
    injection h3 with h3
    exact h1.trans h3)).mono fun e W' ⟨he, bel⟩ => ?_
  subst he
  exact ⟨_, rfl, _, _, _, [], _, [], hW', trodAll_mk1 (shut_bool Try.underlying4 _), (trodAll_cons_mk (Below.trod laidOut (by kernel_rfl) (of_decide_eq_true (by kernel_rfl)) h0 bel lt0) trodAll_mk0), rfl, bel.frame _, fun h => by cases h⟩
theorem over : Rows.fnParcelRow.holds Try.pinned (OpenSpec.ofChange Rows.fnParcelSpec) :=
  OpenClaim.holds_of_wide 4 Try.f4 rfl rfl rfl rfl rfl rfl rfl ⟨rfl, rfl, rfl, rfl, rfl⟩ rfl rfl rfl rfl rfl (by kernel_rfl) Try.func4 (by kernel_rfl)
    (of_decide_eq_true (by kernel_rfl)) (by unfold Func.isWrapper; first | (rw [if_pos (by decide +kernel)]; kernel_rfl) | (rw [if_neg (by decide +kernel)]; exact ⟨rfl, rfl⟩))
    (fun os started H enc _ => lifted os started H enc)
end Go.Proofs.Ytckfpekljgbjoaa.fnParcel
namespace Go.Proofs.Ytckfpekljgbjoaa
theorem fnParcel_holds : Rows.FnParcelSaid := fnParcel.over
end Go.Proofs.Ytckfpekljgbjoaa
