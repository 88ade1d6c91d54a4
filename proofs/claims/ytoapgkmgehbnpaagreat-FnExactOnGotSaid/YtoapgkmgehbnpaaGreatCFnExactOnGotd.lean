/- Part 4 of the proof that the law FnExactOnGot holds of the program: words, the data machine and its soundness, the program's functions as pure functions, and the plain law; no condition is added. -/
import Derived.Test.YtoapgkmgehbnpaaGreatCFnExactOnGotc
/- Functions of the program, as pure functions, and that they are so. -/
set_option linter.unusedVariables false
set_option linter.unusedSimpArgs false
set_option maxRecDepth 100000
namespace Go.TM
open Go
noncomputable section
/-! 106 (*loop.example/g00106/impl.stepper).send -/
noncomputable def impl_stepper_send_body : Code := (Go.Proofs.Tryz.f106.body).getD .skip
noncomputable def impl_stepper_send_env : Env := { types := tab, cons := [(114, con_impl_stepper_message), (158, con_impl_termAt), (162, con_impl_copyLog)] }
abbrev impl_stepper_send_E : Lab := ⟨[(.box (.pair (.pair (.int .i64) (.pair (.int .i64) (.pair (.int .i64) (.pair (.int .i64) (.pair (.pair (.int .i64) (.pair (.int .i64) (.own (.pair (.int .i64) (.pair (.int .i64) (.pair (.int .i64) (.pair (.int .i64) (.pair (.int .i64) .str)))))))) (.pair (.own (.int .i64)) (.pair (.own (.int .i64)) (.own (.int .i64))))))))) (.pair (.pair (.int .i64) (.pair (.int .i64) (.pair (.int .i64) (.pair (.int .i64) (.pair (.pair (.int .i64) (.pair (.int .i64) (.ro (.pair (.int .i64) (.pair (.int .i64) (.pair (.int .i64) (.pair (.int .i64) (.pair (.int .i64) .str)))))))) (.pair (.ro (.int .i64)) (.pair (.ro (.int .i64)) (.ro (.int .i64))))))))) (.pair (.own (.pair (.int .i64) (.pair (.int .i64) (.pair (.int .i64) (.pair (.int .i64) (.pair (.int .i64) (.pair (.int .i64) (.pair (.int .i64) (.pair (.int .i64) (.pair (.int .i64) .str)))))))))) (.own (.pair (.int .i64) (.pair (.int .i64) (.pair (.int .i64) (.pair (.int .i64) (.pair (.int .i64) (.pair (.int .i64) (.pair (.int .i64) (.pair .bool (.pair (.int .i64) (.pair (.int .i64) (.pair .str (.pair (.pair (.int .i64) (.pair (.int .i64) (.pair (.int .i64) (.pair (.int .i64) .str)))) (.list (.pair (.int .i64) (.pair (.int .i64) (.pair (.int .i64) (.pair (.int .i64) (.pair (.int .i64) .str))))))))))))))))))))))), (.c (.int .i64) false)], [(.slot 0), (.slot 1)], []⟩
abbrev impl_stepper_send_R : Lab := ⟨[(.box (.pair (.pair (.int .i64) (.pair (.int .i64) (.pair (.int .i64) (.pair (.int .i64) (.pair (.pair (.int .i64) (.pair (.int .i64) (.own (.pair (.int .i64) (.pair (.int .i64) (.pair (.int .i64) (.pair (.int .i64) (.pair (.int .i64) .str)))))))) (.pair (.own (.int .i64)) (.pair (.own (.int .i64)) (.own (.int .i64))))))))) (.pair (.pair (.int .i64) (.pair (.int .i64) (.pair (.int .i64) (.pair (.int .i64) (.pair (.pair (.int .i64) (.pair (.int .i64) (.ro (.pair (.int .i64) (.pair (.int .i64) (.pair (.int .i64) (.pair (.int .i64) (.pair (.int .i64) .str)))))))) (.pair (.ro (.int .i64)) (.pair (.ro (.int .i64)) (.ro (.int .i64))))))))) (.pair (.own (.pair (.int .i64) (.pair (.int .i64) (.pair (.int .i64) (.pair (.int .i64) (.pair (.int .i64) (.pair (.int .i64) (.pair (.int .i64) (.pair (.int .i64) (.pair (.int .i64) .str)))))))))) (.own (.pair (.int .i64) (.pair (.int .i64) (.pair (.int .i64) (.pair (.int .i64) (.pair (.int .i64) (.pair (.int .i64) (.pair (.int .i64) (.pair .bool (.pair (.int .i64) (.pair (.int .i64) (.pair .str (.pair (.pair (.int .i64) (.pair (.int .i64) (.pair (.int .i64) (.pair (.int .i64) .str)))) (.list (.pair (.int .i64) (.pair (.int .i64) (.pair (.int .i64) (.pair (.int .i64) (.pair (.int .i64) .str)))))))))))))))))))))))], [(.slot 0)], []⟩
def impl_stepper_send_be {ρ : Type}  (r : ((RaftT) × (RaftT) × List (RecT) × List (OutT)) → Option ρ) (a0 : (RaftT) × (RaftT) × List (RecT) × List (OutT)) (a1 : Int) : Option ρ := (impl_stepper_message a0 3).bind fun t1 => bif decide (0 ≤ a1) && decide (a1 < (a0.1.2.2.2.2.2.2.1.length : Int)) then ((idx a0.1.2.2.2.2.2.2.1 a1).bind fun v2 => (impl_termAt a0.1.2.2.2.2.1.2.2 (wr .i64 (v2 - 1))).bind fun t3 => bif decide (0 ≤ (wr .i64 (v2 - 1))) && decide ((wr .i64 (v2 - 1)) ≤ (mnI (wr .i64 ((wr .i64 (v2 - 1)) + 6)) (a0.1.2.2.2.2.1.2.2.length : Int))) && decide ((mnI (wr .i64 ((wr .i64 (v2 - 1)) + 6)) (a0.1.2.2.2.2.1.2.2.length : Int)) ≤ (a0.1.2.2.2.2.1.2.2.length : Int)) then ((impl_copyLog ((a0.1.2.2.2.2.1.2.2.drop (((wr .i64 (v2 - 1)) : Int).toNat)).take (((mnI (wr .i64 ((wr .i64 (v2 - 1)) + 6)) (a0.1.2.2.2.2.1.2.2.length : Int)) - (wr .i64 (v2 - 1)) : Int).toNat))).bind fun t4 => bif decide ((a0.2.2.2.length + ([(a1, t1.1, t1.2.1, t1.2.2.1, wr .i64 (v2 - 1), t3, a0.1.2.2.2.1, t1.2.2.2.2.2.2.1, t1.2.2.2.2.2.2.2.1, t1.2.2.2.2.2.2.2.2.1, t1.2.2.2.2.2.2.2.2.2.1, t1.2.2.2.2.2.2.2.2.2.2.1, t4)] : List (OutT)).length) * 168 ≤ 140737488355328) then (r (a0.1, a0.2.1, a0.2.2.1, a0.2.2.2 ++ ([(a1, t1.1, t1.2.1, t1.2.2.1, wr .i64 (v2 - 1), t3, a0.1.2.2.2.1, t1.2.2.2.2.2.2.1, t1.2.2.2.2.2.2.2.1, t1.2.2.2.2.2.2.2.2.1, t1.2.2.2.2.2.2.2.2.2.1, t1.2.2.2.2.2.2.2.2.2.2.1, t4)] : List (OutT)))) else (none)) else (none)) else (none)
theorem impl_stepper_send_se {ρ : Type}  (r : ((RaftT) × (RaftT) × List (RecT) × List (OutT)) → Option ρ) (x : ((RaftT) × (RaftT) × List (RecT) × List (OutT)) × Int) : stretch impl_stepper_send_env [] [] ⟨impl_stepper_send_R, fun (x : (RaftT) × (RaftT) × List (RecT) × List (OutT)) => r x⟩ false [.code impl_stepper_send_body] impl_stepper_send_E x = impl_stepper_send_be  r x.1 x.2 := by kernel_rfl
abbrev impl_stepper_send_r : ((RaftT) × (RaftT) × List (RecT) × List (OutT)) → Option ((RaftT) × (RaftT) × List (RecT) × List (OutT)) := (fun (y0 : (RaftT) × (RaftT) × List (RecT) × List (OutT)) => some y0)
noncomputable def impl_stepper_send_d (a0 : (RaftT) × (RaftT) × List (RecT) × List (OutT)) (a1 : Int) : Option ((RaftT) × (RaftT) × List (RecT) × List (OutT)) := impl_stepper_send_be impl_stepper_send_r a0 a1
noncomputable def impl_stepper_send : ((RaftT) × (RaftT) × List (RecT) × List (OutT)) → Int → Option ((RaftT) × (RaftT) × List (RecT) × List (OutT)) := shut impl_stepper_send_d
theorem impl_stepper_send_def (a0 : (RaftT) × (RaftT) × List (RecT) × List (OutT)) (a1 : Int) : impl_stepper_send a0 a1 = impl_stepper_send_d a0 a1 := congrFun (congrFun (shut_eq _) a0) a1
noncomputable def con_impl_stepper_send : Con := ⟨[(.ptr (.pair (.pair (.int .i64) (.pair (.int .i64) (.pair (.int .i64) (.pair (.int .i64) (.pair (.pair (.int .i64) (.pair (.int .i64) (.own (.pair (.int .i64) (.pair (.int .i64) (.pair (.int .i64) (.pair (.int .i64) (.pair (.int .i64) .str)))))))) (.pair (.own (.int .i64)) (.pair (.own (.int .i64)) (.own (.int .i64))))))))) (.pair (.pair (.int .i64) (.pair (.int .i64) (.pair (.int .i64) (.pair (.int .i64) (.pair (.pair (.int .i64) (.pair (.int .i64) (.ro (.pair (.int .i64) (.pair (.int .i64) (.pair (.int .i64) (.pair (.int .i64) (.pair (.int .i64) .str)))))))) (.pair (.ro (.int .i64)) (.pair (.ro (.int .i64)) (.ro (.int .i64))))))))) (.pair (.own (.pair (.int .i64) (.pair (.int .i64) (.pair (.int .i64) (.pair (.int .i64) (.pair (.int .i64) (.pair (.int .i64) (.pair (.int .i64) (.pair (.int .i64) (.pair (.int .i64) .str)))))))))) (.own (.pair (.int .i64) (.pair (.int .i64) (.pair (.int .i64) (.pair (.int .i64) (.pair (.int .i64) (.pair (.int .i64) (.pair (.int .i64) (.pair .bool (.pair (.int .i64) (.pair (.int .i64) (.pair .str (.pair (.pair (.int .i64) (.pair (.int .i64) (.pair (.int .i64) (.pair (.int .i64) .str)))) (.list (.pair (.int .i64) (.pair (.int .i64) (.pair (.int .i64) (.pair (.int .i64) (.pair (.int .i64) .str)))))))))))))))))))))) (.pair (.pair (.int .i64) (.pair (.int .i64) (.pair (.int .i64) (.pair (.int .i64) (.pair (.pair (.int .i64) (.pair (.int .i64) (.own (.pair (.int .i64) (.pair (.int .i64) (.pair (.int .i64) (.pair (.int .i64) (.pair (.int .i64) .str)))))))) (.pair (.own (.int .i64)) (.pair (.own (.int .i64)) (.own (.int .i64))))))))) (.pair (.pair (.int .i64) (.pair (.int .i64) (.pair (.int .i64) (.pair (.int .i64) (.pair (.pair (.int .i64) (.pair (.int .i64) (.ro (.pair (.int .i64) (.pair (.int .i64) (.pair (.int .i64) (.pair (.int .i64) (.pair (.int .i64) .str)))))))) (.pair (.ro (.int .i64)) (.pair (.ro (.int .i64)) (.ro (.int .i64))))))))) (.pair (.own (.pair (.int .i64) (.pair (.int .i64) (.pair (.int .i64) (.pair (.int .i64) (.pair (.int .i64) (.pair (.int .i64) (.pair (.int .i64) (.pair (.int .i64) (.pair (.int .i64) .str)))))))))) (.own (.pair (.int .i64) (.pair (.int .i64) (.pair (.int .i64) (.pair (.int .i64) (.pair (.int .i64) (.pair (.int .i64) (.pair (.int .i64) (.pair .bool (.pair (.int .i64) (.pair (.int .i64) (.pair .str (.pair (.pair (.int .i64) (.pair (.int .i64) (.pair (.int .i64) (.pair (.int .i64) .str)))) (.list (.pair (.int .i64) (.pair (.int .i64) (.pair (.int .i64) (.pair (.int .i64) (.pair (.int .i64) .str))))))))))))))))))))))), (.val (.c (.int .i64) false))], [], fun (x : ((RaftT) × (RaftT) × List (RecT) × List (OutT)) × Int) => impl_stepper_send x.1 x.2⟩
abbrev impl_stepper_send_fs (n : Nat) : List (Nat × LabK (VKs (con_impl_stepper_send.rs ++ outs con_impl_stepper_send.ps))) := []
theorem ent_impl_stepper_send : Enters Go.Proofs.Tryz.prog 106 := enters_of Go.Proofs.Tryz.func106 (c := impl_stepper_send_body) (by kernel_rfl) (by kernel_rfl)
theorem hold_impl_stepper_send : Holds Go.Proofs.Tryz.prog 106 con_impl_stepper_send :=
  holds_of (E := impl_stepper_send_env) (con := con_impl_stepper_send) (fn := Go.Proofs.Tryz.f106) (body := impl_stepper_send_body) (ids := []) (Rsrc := []) (fs := impl_stepper_send_fs) prog_mixed (cs_of (E := impl_stepper_send_env) ⟨⟨ent_impl_stepper_message, hold_impl_stepper_message⟩, ⟨ent_impl_termAt, hold_impl_termAt⟩, ⟨ent_impl_copyLog, hold_impl_copyLog⟩, trivial⟩) (tabOk_of (E := impl_stepper_send_env) tab_ok) Go.Proofs.Tryz.func106 (by kernel_rfl) (by kernel_rfl) (by kernel_rfl)
    trivial (fun n => trivial)
    (fun x y h => ⟨0, (impl_stepper_send_se impl_stepper_send_r x).trans ((impl_stepper_send_def x.1 x.2).symm.trans h)⟩)
/-! 107 (*loop.example/g00106/impl.stepper).commit -/
noncomputable def impl_stepper_commit_body : Code := (Go.Proofs.Tryz.f107.body).getD .skip
noncomputable def impl_stepper_commit_env : Env := { types := tab, cons := [(158, con_impl_termAt)] }
abbrev impl_stepper_commit_L2 : Lab := ⟨[(.box (.pair (.pair (.int .i64) (.pair (.int .i64) (.pair (.int .i64) (.pair (.int .i64) (.pair (.pair (.int .i64) (.pair (.int .i64) (.own (.pair (.int .i64) (.pair (.int .i64) (.pair (.int .i64) (.pair (.int .i64) (.pair (.int .i64) .str)))))))) (.pair (.own (.int .i64)) (.pair (.own (.int .i64)) (.own (.int .i64))))))))) (.pair (.pair (.int .i64) (.pair (.int .i64) (.pair (.int .i64) (.pair (.int .i64) (.pair (.pair (.int .i64) (.pair (.int .i64) (.ro (.pair (.int .i64) (.pair (.int .i64) (.pair (.int .i64) (.pair (.int .i64) (.pair (.int .i64) .str)))))))) (.pair (.ro (.int .i64)) (.pair (.ro (.int .i64)) (.ro (.int .i64))))))))) (.pair (.own (.pair (.int .i64) (.pair (.int .i64) (.pair (.int .i64) (.pair (.int .i64) (.pair (.int .i64) (.pair (.int .i64) (.pair (.int .i64) (.pair (.int .i64) (.pair (.int .i64) .str)))))))))) (.own (.pair (.int .i64) (.pair (.int .i64) (.pair (.int .i64) (.pair (.int .i64) (.pair (.int .i64) (.pair (.int .i64) (.pair (.int .i64) (.pair .bool (.pair (.int .i64) (.pair (.int .i64) (.pair .str (.pair (.pair (.int .i64) (.pair (.int .i64) (.pair (.int .i64) (.pair (.int .i64) .str)))) (.list (.pair (.int .i64) (.pair (.int .i64) (.pair (.int .i64) (.pair (.int .i64) (.pair (.int .i64) .str))))))))))))))))))))))), (.c (.int .i64) false)], [(.slot 0), (.slot 3)], [(2, 0, 6)]⟩
abbrev impl_stepper_commit_L6 : Lab := ⟨[(.box (.pair (.pair (.int .i64) (.pair (.int .i64) (.pair (.int .i64) (.pair (.int .i64) (.pair (.pair (.int .i64) (.pair (.int .i64) (.own (.pair (.int .i64) (.pair (.int .i64) (.pair (.int .i64) (.pair (.int .i64) (.pair (.int .i64) .str)))))))) (.pair (.own (.int .i64)) (.pair (.own (.int .i64)) (.own (.int .i64))))))))) (.pair (.pair (.int .i64) (.pair (.int .i64) (.pair (.int .i64) (.pair (.int .i64) (.pair (.pair (.int .i64) (.pair (.int .i64) (.ro (.pair (.int .i64) (.pair (.int .i64) (.pair (.int .i64) (.pair (.int .i64) (.pair (.int .i64) .str)))))))) (.pair (.ro (.int .i64)) (.pair (.ro (.int .i64)) (.ro (.int .i64))))))))) (.pair (.own (.pair (.int .i64) (.pair (.int .i64) (.pair (.int .i64) (.pair (.int .i64) (.pair (.int .i64) (.pair (.int .i64) (.pair (.int .i64) (.pair (.int .i64) (.pair (.int .i64) .str)))))))))) (.own (.pair (.int .i64) (.pair (.int .i64) (.pair (.int .i64) (.pair (.int .i64) (.pair (.int .i64) (.pair (.int .i64) (.pair (.int .i64) (.pair .bool (.pair (.int .i64) (.pair (.int .i64) (.pair .str (.pair (.pair (.int .i64) (.pair (.int .i64) (.pair (.int .i64) (.pair (.int .i64) .str)))) (.list (.pair (.int .i64) (.pair (.int .i64) (.pair (.int .i64) (.pair (.int .i64) (.pair (.int .i64) .str))))))))))))))))))))))), (.c (.int .i64) false), (.c (.int .i64) false), (.c (.int .i64) false), (.c (.int .i64) false)], [(.slot 0), (.slot 3), (.slot 4), (.slot 29), (.slot 30)], [(2, 0, 6), (28, 0, 9)]⟩
abbrev impl_stepper_commit_E : Lab := ⟨[(.box (.pair (.pair (.int .i64) (.pair (.int .i64) (.pair (.int .i64) (.pair (.int .i64) (.pair (.pair (.int .i64) (.pair (.int .i64) (.own (.pair (.int .i64) (.pair (.int .i64) (.pair (.int .i64) (.pair (.int .i64) (.pair (.int .i64) .str)))))))) (.pair (.own (.int .i64)) (.pair (.own (.int .i64)) (.own (.int .i64))))))))) (.pair (.pair (.int .i64) (.pair (.int .i64) (.pair (.int .i64) (.pair (.int .i64) (.pair (.pair (.int .i64) (.pair (.int .i64) (.ro (.pair (.int .i64) (.pair (.int .i64) (.pair (.int .i64) (.pair (.int .i64) (.pair (.int .i64) .str)))))))) (.pair (.ro (.int .i64)) (.pair (.ro (.int .i64)) (.ro (.int .i64))))))))) (.pair (.own (.pair (.int .i64) (.pair (.int .i64) (.pair (.int .i64) (.pair (.int .i64) (.pair (.int .i64) (.pair (.int .i64) (.pair (.int .i64) (.pair (.int .i64) (.pair (.int .i64) .str)))))))))) (.own (.pair (.int .i64) (.pair (.int .i64) (.pair (.int .i64) (.pair (.int .i64) (.pair (.int .i64) (.pair (.int .i64) (.pair (.int .i64) (.pair .bool (.pair (.int .i64) (.pair (.int .i64) (.pair .str (.pair (.pair (.int .i64) (.pair (.int .i64) (.pair (.int .i64) (.pair (.int .i64) .str)))) (.list (.pair (.int .i64) (.pair (.int .i64) (.pair (.int .i64) (.pair (.int .i64) (.pair (.int .i64) .str)))))))))))))))))))))))], [(.slot 0)], []⟩
abbrev impl_stepper_commit_R : Lab := ⟨[(.box (.pair (.pair (.int .i64) (.pair (.int .i64) (.pair (.int .i64) (.pair (.int .i64) (.pair (.pair (.int .i64) (.pair (.int .i64) (.own (.pair (.int .i64) (.pair (.int .i64) (.pair (.int .i64) (.pair (.int .i64) (.pair (.int .i64) .str)))))))) (.pair (.own (.int .i64)) (.pair (.own (.int .i64)) (.own (.int .i64))))))))) (.pair (.pair (.int .i64) (.pair (.int .i64) (.pair (.int .i64) (.pair (.int .i64) (.pair (.pair (.int .i64) (.pair (.int .i64) (.ro (.pair (.int .i64) (.pair (.int .i64) (.pair (.int .i64) (.pair (.int .i64) (.pair (.int .i64) .str)))))))) (.pair (.ro (.int .i64)) (.pair (.ro (.int .i64)) (.ro (.int .i64))))))))) (.pair (.own (.pair (.int .i64) (.pair (.int .i64) (.pair (.int .i64) (.pair (.int .i64) (.pair (.int .i64) (.pair (.int .i64) (.pair (.int .i64) (.pair (.int .i64) (.pair (.int .i64) .str)))))))))) (.own (.pair (.int .i64) (.pair (.int .i64) (.pair (.int .i64) (.pair (.int .i64) (.pair (.int .i64) (.pair (.int .i64) (.pair (.int .i64) (.pair .bool (.pair (.int .i64) (.pair (.int .i64) (.pair .str (.pair (.pair (.int .i64) (.pair (.int .i64) (.pair (.int .i64) (.pair (.int .i64) .str)))) (.list (.pair (.int .i64) (.pair (.int .i64) (.pair (.int .i64) (.pair (.int .i64) (.pair (.int .i64) .str)))))))))))))))))))))))], [(.slot 0)], []⟩
def impl_stepper_commit_b2 {ρ : Type} (l2 : ((RaftT) × (RaftT) × List (RecT) × List (OutT)) → Int → Option ρ) (l6 : ((RaftT) × (RaftT) × List (RecT) × List (OutT)) → Int → Int → Int → Int → Option ρ) (r : ((RaftT) × (RaftT) × List (RecT) × List (OutT)) → Option ρ) (x0 : (RaftT) × (RaftT) × List (RecT) × List (OutT)) (x3 : Int) : Option ρ := bif decide (x3 > x0.1.2.2.2.1) then (l6 x0 x3 0 (x0.1.2.2.2.2.2.2.2.length : Int) 0) else (r x0)
def impl_stepper_commit_b6 {ρ : Type} (l2 : ((RaftT) × (RaftT) × List (RecT) × List (OutT)) → Int → Option ρ) (l6 : ((RaftT) × (RaftT) × List (RecT) × List (OutT)) → Int → Int → Int → Int → Option ρ) (r : ((RaftT) × (RaftT) × List (RecT) × List (OutT)) → Option ρ) (x0 : (RaftT) × (RaftT) × List (RecT) × List (OutT)) (x3 : Int) (x4 : Int) (x29 : Int) (x30 : Int) : Option ρ := bif decide (x30 < x29) then (bif decide (0 ≤ x30) && decide (x30 < (x0.1.2.2.2.2.2.2.2.length : Int)) then ((idx x0.1.2.2.2.2.2.2.2 x30).bind fun v1 => bif decide (v1 ≥ x3) then (l6 x0 x3 (wr .i64 (x4 + 1)) x29 (wr .i64 (x30 + 1))) else (l6 x0 x3 x4 x29 (wr .i64 (x30 + 1)))) else (none)) else ((impl_termAt x0.1.2.2.2.2.1.2.2 x3).bind fun t2 => bif decide (t2 = x0.1.2.2.2.2.1.1) then (bif decide ((wr .i64 (2 * x4)) > x0.1.2.1) then (l2 ((x0.1.1, x0.1.2.1, x0.1.2.2.1, x3, x0.1.2.2.2.2), x0.2) (wr .i64 (x3 - 1))) else (l2 x0 (wr .i64 (x3 - 1)))) else (l2 x0 (wr .i64 (x3 - 1))))
def impl_stepper_commit_be {ρ : Type} (l2 : ((RaftT) × (RaftT) × List (RecT) × List (OutT)) → Int → Option ρ) (l6 : ((RaftT) × (RaftT) × List (RecT) × List (OutT)) → Int → Int → Int → Int → Option ρ) (r : ((RaftT) × (RaftT) × List (RecT) × List (OutT)) → Option ρ) (a0 : (RaftT) × (RaftT) × List (RecT) × List (OutT)) : Option ρ := l2 a0 (a0.1.2.2.2.2.1.2.2.length : Int)
theorem impl_stepper_commit_s2 {ρ : Type} (l2 : ((RaftT) × (RaftT) × List (RecT) × List (OutT)) → Int → Option ρ) (l6 : ((RaftT) × (RaftT) × List (RecT) × List (OutT)) → Int → Int → Int → Int → Option ρ) (r : ((RaftT) × (RaftT) × List (RecT) × List (OutT)) → Option ρ) (x : ((RaftT) × (RaftT) × List (RecT) × List (OutT)) × Int) : stretch impl_stepper_commit_env [2, 6] [(2, ⟨impl_stepper_commit_L2, fun (x : ((RaftT) × (RaftT) × List (RecT) × List (OutT)) × Int) => l2 x.1 x.2⟩), (6, ⟨impl_stepper_commit_L6, fun (x : ((RaftT) × (RaftT) × List (RecT) × List (OutT)) × Int × Int × Int × Int) => l6 x.1 x.2.1 x.2.2.1 x.2.2.2.1 x.2.2.2.2⟩)] ⟨impl_stepper_commit_R, fun (x : (RaftT) × (RaftT) × List (RecT) × List (OutT)) => r x⟩ true ((seek 2 impl_stepper_commit_body []).getD []) impl_stepper_commit_L2 x = impl_stepper_commit_b2 l2 l6 r x.1 x.2 := by kernel_rfl
theorem impl_stepper_commit_s6 {ρ : Type} (l2 : ((RaftT) × (RaftT) × List (RecT) × List (OutT)) → Int → Option ρ) (l6 : ((RaftT) × (RaftT) × List (RecT) × List (OutT)) → Int → Int → Int → Int → Option ρ) (r : ((RaftT) × (RaftT) × List (RecT) × List (OutT)) → Option ρ) (x : ((RaftT) × (RaftT) × List (RecT) × List (OutT)) × Int × Int × Int × Int) : stretch impl_stepper_commit_env [2, 6] [(2, ⟨impl_stepper_commit_L2, fun (x : ((RaftT) × (RaftT) × List (RecT) × List (OutT)) × Int) => l2 x.1 x.2⟩), (6, ⟨impl_stepper_commit_L6, fun (x : ((RaftT) × (RaftT) × List (RecT) × List (OutT)) × Int × Int × Int × Int) => l6 x.1 x.2.1 x.2.2.1 x.2.2.2.1 x.2.2.2.2⟩)] ⟨impl_stepper_commit_R, fun (x : (RaftT) × (RaftT) × List (RecT) × List (OutT)) => r x⟩ true ((seek 6 impl_stepper_commit_body []).getD []) impl_stepper_commit_L6 x = impl_stepper_commit_b6 l2 l6 r x.1 x.2.1 x.2.2.1 x.2.2.2.1 x.2.2.2.2 := by kernel_rfl
theorem impl_stepper_commit_se {ρ : Type} (l2 : ((RaftT) × (RaftT) × List (RecT) × List (OutT)) → Int → Option ρ) (l6 : ((RaftT) × (RaftT) × List (RecT) × List (OutT)) → Int → Int → Int → Int → Option ρ) (r : ((RaftT) × (RaftT) × List (RecT) × List (OutT)) → Option ρ) (x : (RaftT) × (RaftT) × List (RecT) × List (OutT)) : stretch impl_stepper_commit_env [2, 6] [(2, ⟨impl_stepper_commit_L2, fun (x : ((RaftT) × (RaftT) × List (RecT) × List (OutT)) × Int) => l2 x.1 x.2⟩), (6, ⟨impl_stepper_commit_L6, fun (x : ((RaftT) × (RaftT) × List (RecT) × List (OutT)) × Int × Int × Int × Int) => l6 x.1 x.2.1 x.2.2.1 x.2.2.2.1 x.2.2.2.2⟩)] ⟨impl_stepper_commit_R, fun (x : (RaftT) × (RaftT) × List (RecT) × List (OutT)) => r x⟩ false [.code impl_stepper_commit_body] impl_stepper_commit_E x = impl_stepper_commit_be l2 l6 r x := by kernel_rfl
abbrev impl_stepper_commit_r : ((RaftT) × (RaftT) × List (RecT) × List (OutT)) → Option ((RaftT) × (RaftT) × List (RecT) × List (OutT)) := (fun (y0 : (RaftT) × (RaftT) × List (RecT) × List (OutT)) => some y0)
def impl_stepper_commit_ls : Nat → (((RaftT) × (RaftT) × List (RecT) × List (OutT)) → Int → Option ((RaftT) × (RaftT) × List (RecT) × List (OutT))) × (((RaftT) × (RaftT) × List (RecT) × List (OutT)) → Int → Int → Int → Int → Option ((RaftT) × (RaftT) × List (RecT) × List (OutT)))
  | 0 => ((fun _ _ => none), (fun _ _ _ _ _ => none))
  | n + 1 => (impl_stepper_commit_b2 ((impl_stepper_commit_ls n).1) ((impl_stepper_commit_ls n).2) impl_stepper_commit_r, impl_stepper_commit_b6 ((impl_stepper_commit_ls n).1) ((impl_stepper_commit_ls n).2) impl_stepper_commit_r)
abbrev impl_stepper_commit_l2 (n : Nat) : ((RaftT) × (RaftT) × List (RecT) × List (OutT)) → Int → Option ((RaftT) × (RaftT) × List (RecT) × List (OutT)) := (impl_stepper_commit_ls n).1
abbrev impl_stepper_commit_l6 (n : Nat) : ((RaftT) × (RaftT) × List (RecT) × List (OutT)) → Int → Int → Int → Int → Option ((RaftT) × (RaftT) × List (RecT) × List (OutT)) := (impl_stepper_commit_ls n).2
noncomputable def impl_stepper_commit_d (a0 : (RaftT) × (RaftT) × List (RecT) × List (OutT)) : Option ((RaftT) × (RaftT) × List (RecT) × List (OutT)) := lim fun n => impl_stepper_commit_be (impl_stepper_commit_l2 n) (impl_stepper_commit_l6 n) impl_stepper_commit_r a0
noncomputable def impl_stepper_commit : ((RaftT) × (RaftT) × List (RecT) × List (OutT)) → Option ((RaftT) × (RaftT) × List (RecT) × List (OutT)) := shut impl_stepper_commit_d
theorem impl_stepper_commit_def (a0 : (RaftT) × (RaftT) × List (RecT) × List (OutT)) : impl_stepper_commit a0 = impl_stepper_commit_d a0 := congrFun (shut_eq _) a0
theorem impl_stepper_commit_ok' : ∀ (a0 : (RaftT) × (RaftT) × List (RecT) × List (OutT)) (y : (RaftT) × (RaftT) × List (RecT) × List (OutT)), impl_stepper_commit a0 = some y → ∃ n, impl_stepper_commit_be (impl_stepper_commit_l2 n) (impl_stepper_commit_l6 n) impl_stepper_commit_r a0 = some y := fun a0 y h => lim_some ((impl_stepper_commit_def a0).symm.trans h)
noncomputable def con_impl_stepper_commit : Con := ⟨[(.ptr (.pair (.pair (.int .i64) (.pair (.int .i64) (.pair (.int .i64) (.pair (.int .i64) (.pair (.pair (.int .i64) (.pair (.int .i64) (.own (.pair (.int .i64) (.pair (.int .i64) (.pair (.int .i64) (.pair (.int .i64) (.pair (.int .i64) .str)))))))) (.pair (.own (.int .i64)) (.pair (.own (.int .i64)) (.own (.int .i64))))))))) (.pair (.pair (.int .i64) (.pair (.int .i64) (.pair (.int .i64) (.pair (.int .i64) (.pair (.pair (.int .i64) (.pair (.int .i64) (.ro (.pair (.int .i64) (.pair (.int .i64) (.pair (.int .i64) (.pair (.int .i64) (.pair (.int .i64) .str)))))))) (.pair (.ro (.int .i64)) (.pair (.ro (.int .i64)) (.ro (.int .i64))))))))) (.pair (.own (.pair (.int .i64) (.pair (.int .i64) (.pair (.int .i64) (.pair (.int .i64) (.pair (.int .i64) (.pair (.int .i64) (.pair (.int .i64) (.pair (.int .i64) (.pair (.int .i64) .str)))))))))) (.own (.pair (.int .i64) (.pair (.int .i64) (.pair (.int .i64) (.pair (.int .i64) (.pair (.int .i64) (.pair (.int .i64) (.pair (.int .i64) (.pair .bool (.pair (.int .i64) (.pair (.int .i64) (.pair .str (.pair (.pair (.int .i64) (.pair (.int .i64) (.pair (.int .i64) (.pair (.int .i64) .str)))) (.list (.pair (.int .i64) (.pair (.int .i64) (.pair (.int .i64) (.pair (.int .i64) (.pair (.int .i64) .str)))))))))))))))))))))) (.pair (.pair (.int .i64) (.pair (.int .i64) (.pair (.int .i64) (.pair (.int .i64) (.pair (.pair (.int .i64) (.pair (.int .i64) (.own (.pair (.int .i64) (.pair (.int .i64) (.pair (.int .i64) (.pair (.int .i64) (.pair (.int .i64) .str)))))))) (.pair (.own (.int .i64)) (.pair (.own (.int .i64)) (.own (.int .i64))))))))) (.pair (.pair (.int .i64) (.pair (.int .i64) (.pair (.int .i64) (.pair (.int .i64) (.pair (.pair (.int .i64) (.pair (.int .i64) (.ro (.pair (.int .i64) (.pair (.int .i64) (.pair (.int .i64) (.pair (.int .i64) (.pair (.int .i64) .str)))))))) (.pair (.ro (.int .i64)) (.pair (.ro (.int .i64)) (.ro (.int .i64))))))))) (.pair (.own (.pair (.int .i64) (.pair (.int .i64) (.pair (.int .i64) (.pair (.int .i64) (.pair (.int .i64) (.pair (.int .i64) (.pair (.int .i64) (.pair (.int .i64) (.pair (.int .i64) .str)))))))))) (.own (.pair (.int .i64) (.pair (.int .i64) (.pair (.int .i64) (.pair (.int .i64) (.pair (.int .i64) (.pair (.int .i64) (.pair (.int .i64) (.pair .bool (.pair (.int .i64) (.pair (.int .i64) (.pair .str (.pair (.pair (.int .i64) (.pair (.int .i64) (.pair (.int .i64) (.pair (.int .i64) .str)))) (.list (.pair (.int .i64) (.pair (.int .i64) (.pair (.int .i64) (.pair (.int .i64) (.pair (.int .i64) .str)))))))))))))))))))))))], [], fun (x : (RaftT) × (RaftT) × List (RecT) × List (OutT)) => impl_stepper_commit x⟩
abbrev impl_stepper_commit_fs (n : Nat) : List (Nat × LabK (VKs (con_impl_stepper_commit.rs ++ outs con_impl_stepper_commit.ps))) := [(2, ⟨impl_stepper_commit_L2, fun (x : ((RaftT) × (RaftT) × List (RecT) × List (OutT)) × Int) => impl_stepper_commit_l2 n x.1 x.2⟩), (6, ⟨impl_stepper_commit_L6, fun (x : ((RaftT) × (RaftT) × List (RecT) × List (OutT)) × Int × Int × Int × Int) => impl_stepper_commit_l6 n x.1 x.2.1 x.2.2.1 x.2.2.2.1 x.2.2.2.2⟩)]
theorem ent_impl_stepper_commit : Enters Go.Proofs.Tryz.prog 107 := enters_of Go.Proofs.Tryz.func107 (c := impl_stepper_commit_body) (by kernel_rfl) (by kernel_rfl)
theorem hold_impl_stepper_commit : Holds Go.Proofs.Tryz.prog 107 con_impl_stepper_commit :=
  holds_of (E := impl_stepper_commit_env) (con := con_impl_stepper_commit) (fn := Go.Proofs.Tryz.f107) (body := impl_stepper_commit_body) (ids := [2, 6]) (Rsrc := []) (fs := impl_stepper_commit_fs) prog_mixed (cs_of (E := impl_stepper_commit_env) ⟨⟨ent_impl_termAt, hold_impl_termAt⟩, trivial⟩) (tabOk_of (E := impl_stepper_commit_env) tab_ok) Go.Proofs.Tryz.func107 (by kernel_rfl) (by kernel_rfl) (by kernel_rfl)
    ⟨(fun _ => rfl), (fun _ => rfl), trivial⟩ (fun n => ⟨(fun x => (impl_stepper_commit_s2 (impl_stepper_commit_l2 n) (impl_stepper_commit_l6 n) impl_stepper_commit_r x).symm), (fun x => (impl_stepper_commit_s6 (impl_stepper_commit_l2 n) (impl_stepper_commit_l6 n) impl_stepper_commit_r x).symm), trivial⟩)
    (fun x y h => by
      obtain ⟨n, hn⟩ := impl_stepper_commit_ok' x y h
      exact ⟨n, (impl_stepper_commit_se (impl_stepper_commit_l2 n) (impl_stepper_commit_l6 n) impl_stepper_commit_r x).trans hn⟩)
/-! 34 loop.example/g00106/impl.OnGot -/
noncomputable def impl_OnGot_body : Code := (Go.Proofs.Tryz.f34.body).getD .skip
noncomputable def impl_OnGot_env : Env := { types := tab, cons := [(80, con_impl_stepOf), (85, con_impl_stepper_mayHear), (88, con_impl_stepper_none), (90, con_impl_stepper_end), (91, con_impl_stepper_followTerm), (106, con_impl_stepper_send), (107, con_impl_stepper_commit)] }
abbrev impl_OnGot_E : Lab := ⟨[(.c (.pair (.int .i64) (.pair (.int .i64) (.pair (.int .i64) (.pair (.int .i64) (.pair (.pair (.int .i64) (.pair (.int .i64) (.ro (.pair (.int .i64) (.pair (.int .i64) (.pair (.int .i64) (.pair (.int .i64) (.pair (.int .i64) .str)))))))) (.pair (.ro (.int .i64)) (.pair (.ro (.int .i64)) (.ro (.int .i64))))))))) true), (.c (.pair (.int .i64) (.pair (.int .i64) (.pair (.int .i64) (.pair (.int .i64) (.pair (.int .i64) (.pair (.int .i64) (.pair .bool (.pair (.int .i64) (.pair (.int .i64) (.pair .str (.pair (.pair (.int .i64) (.pair (.int .i64) (.pair (.int .i64) (.pair (.int .i64) .str)))) (.ro (.pair (.int .i64) (.pair (.int .i64) (.pair (.int .i64) (.pair (.int .i64) (.pair (.int .i64) .str))))))))))))))))) true)], [(.slot 0), (.slot 1)], []⟩
abbrev impl_OnGot_R : Lab := ⟨[(.c (.pair (.int .i64) (.pair (.int .i64) (.pair (.int .i64) (.pair (.int .i64) (.pair (.pair (.int .i64) (.pair (.int .i64) (.own (.pair (.int .i64) (.pair (.int .i64) (.pair (.int .i64) (.pair (.int .i64) (.pair (.int .i64) .str)))))))) (.pair (.own (.int .i64)) (.pair (.own (.int .i64)) (.own (.int .i64))))))))) true), (.c (.own (.pair (.int .i64) (.pair (.int .i64) (.pair (.int .i64) (.pair (.int .i64) (.pair (.int .i64) (.pair (.int .i64) (.pair (.int .i64) (.pair (.int .i64) (.pair (.int .i64) .str)))))))))) false), (.c (.own (.pair (.int .i64) (.pair (.int .i64) (.pair (.int .i64) (.pair (.int .i64) (.pair (.int .i64) (.pair (.int .i64) (.pair (.int .i64) (.pair .bool (.pair (.int .i64) (.pair (.int .i64) (.pair .str (.pair (.pair (.int .i64) (.pair (.int .i64) (.pair (.int .i64) (.pair (.int .i64) .str)))) (.list (.pair (.int .i64) (.pair (.int .i64) (.pair (.int .i64) (.pair (.int .i64) (.pair (.int .i64) .str))))))))))))))))))) false)], [(.cell 4), (.slot 5), (.slot 6)], []⟩
def impl_OnGot_be {ρ : Type}  (r : (RaftT) → (List (RecT)) → (List (OutT)) → Option ρ) (a0 : RaftT) (a1 : MsgT) : Option ρ := (impl_stepOf a0).bind fun t1 => (impl_stepper_mayHear t1 a1 4).bind fun t2 => bif !t2.1 then ((impl_stepper_none t2.2).bind fun t3 => r t3.1 t3.2.1 t3.2.2.1) else ((impl_stepper_followTerm t2.2 a1.2.2.1).bind fun t4 => bif t4.1 then ((impl_stepper_end t4.2).bind fun t5 => r t5.1 t5.2.1 t5.2.2) else (bif !(decide (a0.2.2.1 = 3)) then ((impl_stepper_end t4.2).bind fun t6 => r t6.1 t6.2.1 t6.2.2) else (bif !(decide (a1.2.2.1 = a0.2.2.2.2.1.1)) then ((impl_stepper_end t4.2).bind fun t7 => r t7.1 t7.2.1 t7.2.2) else (bif !a1.2.2.2.2.2.2.1 then ((idx a0.2.2.2.2.2.2.1 a1.2.1).bind fun v8 => bif decide (0 ≤ a1.2.1) && decide (a1.2.1 < (t4.2.1.2.2.2.2.2.2.1.length : Int)) then ((idx t4.2.1.2.2.2.2.2.2.1 a1.2.1).bind fun v9 => (impl_stepper_send ((t4.2.1.1, t4.2.1.2.1, t4.2.1.2.2.1, t4.2.1.2.2.2.1, t4.2.1.2.2.2.2.1, t4.2.1.2.2.2.2.2.1, t4.2.1.2.2.2.2.2.2.1.set (a1.2.1 : Int).toNat (mxI 1 (mnI (wr .i64 (v8 - 1)) (wr .i64 (a1.2.2.2.1 + 1)))), t4.2.1.2.2.2.2.2.2.2), t4.2.2) a1.2.1).bind fun t10 => (impl_stepper_end t10).bind fun t11 => r t11.1 t11.2.1 t11.2.2) else (none)) else (bif decide (a1.2.2.2.1 ≤ (a0.2.2.2.2.1.2.2.length : Int)) then ((idx a0.2.2.2.2.2.2.2 a1.2.1).bind fun v12 => bif decide (0 ≤ a1.2.1) && decide (a1.2.1 < (t4.2.1.2.2.2.2.2.2.2.length : Int)) then ((idx t4.2.1.2.2.2.2.2.2.2 a1.2.1).bind fun v13 => bif decide (0 ≤ a1.2.1) && decide (a1.2.1 < ((t4.2.1.2.2.2.2.2.2.2.set (a1.2.1 : Int).toNat (mxI v12 a1.2.2.2.1)).length : Int)) then ((idx (t4.2.1.2.2.2.2.2.2.2.set (a1.2.1 : Int).toNat (mxI v12 a1.2.2.2.1)) a1.2.1).bind fun v14 => bif decide (0 ≤ a1.2.1) && decide (a1.2.1 < (t4.2.1.2.2.2.2.2.2.1.length : Int)) then ((idx t4.2.1.2.2.2.2.2.2.1 a1.2.1).bind fun v15 => (impl_stepper_commit ((t4.2.1.1, t4.2.1.2.1, t4.2.1.2.2.1, t4.2.1.2.2.2.1, t4.2.1.2.2.2.2.1, t4.2.1.2.2.2.2.2.1, t4.2.1.2.2.2.2.2.2.1.set (a1.2.1 : Int).toNat (wr .i64 (v14 + 1)), t4.2.1.2.2.2.2.2.2.2.set (a1.2.1 : Int).toNat (mxI v12 a1.2.2.2.1)), t4.2.2)).bind fun t16 => (impl_stepper_end t16).bind fun t17 => r t17.1 t17.2.1 t17.2.2) else (none)) else (none)) else (none)) else ((impl_stepper_end t4.2).bind fun t18 => r t18.1 t18.2.1 t18.2.2))))))
theorem impl_OnGot_se {ρ : Type}  (r : (RaftT) → (List (RecT)) → (List (OutT)) → Option ρ) (x : (RaftT) × MsgT) : stretch impl_OnGot_env [] [] ⟨impl_OnGot_R, fun (x : (RaftT) × (List (RecT)) × List (OutT)) => r x.1 x.2.1 x.2.2⟩ false [.code impl_OnGot_body] impl_OnGot_E x = impl_OnGot_be  r x.1 x.2 := by kernel_rfl
abbrev impl_OnGot_r : (RaftT) → (List (RecT)) → (List (OutT)) → Option ((RaftT) × (List (RecT)) × List (OutT)) := (fun (y0 : RaftT) (y1 : List (RecT)) (y2 : List (OutT)) => some (y0, y1, y2))
noncomputable def impl_OnGot_d (a0 : RaftT) (a1 : MsgT) : Option ((RaftT) × (List (RecT)) × List (OutT)) := impl_OnGot_be impl_OnGot_r a0 a1
noncomputable def impl_OnGot : (RaftT) → (MsgT) → Option ((RaftT) × (List (RecT)) × List (OutT)) := shut impl_OnGot_d
theorem impl_OnGot_def (a0 : RaftT) (a1 : MsgT) : impl_OnGot a0 a1 = impl_OnGot_d a0 a1 := congrFun (congrFun (shut_eq _) a0) a1
noncomputable def con_impl_OnGot : Con := ⟨[(.val (.c (.pair (.int .i64) (.pair (.int .i64) (.pair (.int .i64) (.pair (.int .i64) (.pair (.pair (.int .i64) (.pair (.int .i64) (.ro (.pair (.int .i64) (.pair (.int .i64) (.pair (.int .i64) (.pair (.int .i64) (.pair (.int .i64) .str)))))))) (.pair (.ro (.int .i64)) (.pair (.ro (.int .i64)) (.ro (.int .i64))))))))) true)), (.val (.c (.pair (.int .i64) (.pair (.int .i64) (.pair (.int .i64) (.pair (.int .i64) (.pair (.int .i64) (.pair (.int .i64) (.pair .bool (.pair (.int .i64) (.pair (.int .i64) (.pair .str (.pair (.pair (.int .i64) (.pair (.int .i64) (.pair (.int .i64) (.pair (.int .i64) .str)))) (.ro (.pair (.int .i64) (.pair (.int .i64) (.pair (.int .i64) (.pair (.int .i64) (.pair (.int .i64) .str))))))))))))))))) true))], [(.c (.pair (.int .i64) (.pair (.int .i64) (.pair (.int .i64) (.pair (.int .i64) (.pair (.pair (.int .i64) (.pair (.int .i64) (.own (.pair (.int .i64) (.pair (.int .i64) (.pair (.int .i64) (.pair (.int .i64) (.pair (.int .i64) .str)))))))) (.pair (.own (.int .i64)) (.pair (.own (.int .i64)) (.own (.int .i64))))))))) true), (.c (.own (.pair (.int .i64) (.pair (.int .i64) (.pair (.int .i64) (.pair (.int .i64) (.pair (.int .i64) (.pair (.int .i64) (.pair (.int .i64) (.pair (.int .i64) (.pair (.int .i64) .str)))))))))) false), (.c (.own (.pair (.int .i64) (.pair (.int .i64) (.pair (.int .i64) (.pair (.int .i64) (.pair (.int .i64) (.pair (.int .i64) (.pair (.int .i64) (.pair .bool (.pair (.int .i64) (.pair (.int .i64) (.pair .str (.pair (.pair (.int .i64) (.pair (.int .i64) (.pair (.int .i64) (.pair (.int .i64) .str)))) (.list (.pair (.int .i64) (.pair (.int .i64) (.pair (.int .i64) (.pair (.int .i64) (.pair (.int .i64) .str))))))))))))))))))) false)], fun (x : (RaftT) × MsgT) => impl_OnGot x.1 x.2⟩
abbrev impl_OnGot_fs (n : Nat) : List (Nat × LabK (VKs (con_impl_OnGot.rs ++ outs con_impl_OnGot.ps))) := []
theorem ent_impl_OnGot : Enters Go.Proofs.Tryz.prog 34 := enters_of Go.Proofs.Tryz.func34 (c := impl_OnGot_body) (by kernel_rfl) (by kernel_rfl)
theorem hold_impl_OnGot : Holds Go.Proofs.Tryz.prog 34 con_impl_OnGot :=
  holds_of (E := impl_OnGot_env) (con := con_impl_OnGot) (fn := Go.Proofs.Tryz.f34) (body := impl_OnGot_body) (ids := []) (Rsrc := [(.cell 4), (.slot 5), (.slot 6)]) (fs := impl_OnGot_fs) prog_mixed (cs_of (E := impl_OnGot_env) ⟨⟨ent_impl_stepOf, hold_impl_stepOf⟩, ⟨ent_impl_stepper_mayHear, hold_impl_stepper_mayHear⟩, ⟨ent_impl_stepper_none, hold_impl_stepper_none⟩, ⟨ent_impl_stepper_end, hold_impl_stepper_end⟩, ⟨ent_impl_stepper_followTerm, hold_impl_stepper_followTerm⟩, ⟨ent_impl_stepper_send, hold_impl_stepper_send⟩, ⟨ent_impl_stepper_commit, hold_impl_stepper_commit⟩, trivial⟩) (tabOk_of (E := impl_OnGot_env) tab_ok) Go.Proofs.Tryz.func34 (by kernel_rfl) (by kernel_rfl) (by kernel_rfl)
    trivial (fun n => trivial)
    (fun x y h => ⟨0, (impl_OnGot_se impl_OnGot_r x).trans ((impl_OnGot_def x.1 x.2).symm.trans h)⟩)
/-! 59 loop.example/g00106/spec.l1Max -/
noncomputable def spec_l1Max_body : Code := (Go.Proofs.Tryz.f59.body).getD .skip
noncomputable def spec_l1Max_env : Env := { types := tab, cons := [] }
abbrev spec_l1Max_E : Lab := ⟨[(.c (.int .i64) false), (.c (.int .i64) false)], [(.slot 0), (.slot 1)], []⟩
abbrev spec_l1Max_R : Lab := ⟨[(.c (.int .i64) false)], [(.slot 4)], []⟩
def spec_l1Max_be {ρ : Type}  (r : Int → Option ρ) (a0 : Int) (a1 : Int) : Option ρ := bif decide (a0 > a1) then (r a0) else (r a1)
theorem spec_l1Max_se {ρ : Type}  (r : Int → Option ρ) (x : Int × Int) : stretch spec_l1Max_env [] [] ⟨spec_l1Max_R, fun (x : Int) => r x⟩ false [.code spec_l1Max_body] spec_l1Max_E x = spec_l1Max_be  r x.1 x.2 := by kernel_rfl
abbrev spec_l1Max_r : Int → Option Int := (fun (y0 : Int) => some y0)
noncomputable def spec_l1Max_d (a0 : Int) (a1 : Int) : Option Int := spec_l1Max_be spec_l1Max_r a0 a1
noncomputable def spec_l1Max : Int → Int → Option Int := shut spec_l1Max_d
theorem spec_l1Max_def (a0 : Int) (a1 : Int) : spec_l1Max a0 a1 = spec_l1Max_d a0 a1 := congrFun (congrFun (shut_eq _) a0) a1
noncomputable def con_spec_l1Max : Con := ⟨[(.val (.c (.int .i64) false)), (.val (.c (.int .i64) false))], [(.c (.int .i64) false)], fun (x : Int × Int) => spec_l1Max x.1 x.2⟩
abbrev spec_l1Max_fs (n : Nat) : List (Nat × LabK (VKs (con_spec_l1Max.rs ++ outs con_spec_l1Max.ps))) := []
theorem ent_spec_l1Max : Enters Go.Proofs.Tryz.prog 59 := enters_of Go.Proofs.Tryz.func59 (c := spec_l1Max_body) (by kernel_rfl) (by kernel_rfl)
theorem hold_spec_l1Max : Holds Go.Proofs.Tryz.prog 59 con_spec_l1Max :=
  holds_of (E := spec_l1Max_env) (con := con_spec_l1Max) (fn := Go.Proofs.Tryz.f59) (body := spec_l1Max_body) (ids := []) (Rsrc := [(.slot 4)]) (fs := spec_l1Max_fs) prog_mixed (cs_of (E := spec_l1Max_env) trivial) (tabOk_of (E := spec_l1Max_env) tab_ok) Go.Proofs.Tryz.func59 (by kernel_rfl) (by kernel_rfl) (by kernel_rfl)
    trivial (fun n => trivial)
    (fun x y h => ⟨0, (spec_l1Max_se spec_l1Max_r x).trans ((spec_l1Max_def x.1 x.2).symm.trans h)⟩)
/-! 65 loop.example/g00106/spec.l10End -/
noncomputable def spec_l10End_body : Code := (Go.Proofs.Tryz.f65.body).getD .skip
noncomputable def spec_l10End_env : Env := { types := tab, cons := [] }
abbrev spec_l10End_E : Lab := ⟨[(.c (.pair (.int .i64) (.pair (.int .i64) (.pair (.int .i64) (.pair (.int .i64) (.pair (.pair (.int .i64) (.pair (.int .i64) (.ro (.pair (.int .i64) (.pair (.int .i64) (.pair (.int .i64) (.pair (.int .i64) (.pair (.int .i64) .str)))))))) (.pair (.ro (.int .i64)) (.pair (.ro (.int .i64)) (.ro (.int .i64))))))))) true)], [(.slot 0)], []⟩
abbrev spec_l10End_R : Lab := ⟨[(.c (.int .i64) false)], [(.slot 2)], []⟩
def spec_l10End_be {ρ : Type}  (r : Int → Option ρ) (a0 : RaftT) : Option ρ := r (a0.2.2.2.2.1.2.2.length : Int)
theorem spec_l10End_se {ρ : Type}  (r : Int → Option ρ) (x : RaftT) : stretch spec_l10End_env [] [] ⟨spec_l10End_R, fun (x : Int) => r x⟩ false [.code spec_l10End_body] spec_l10End_E x = spec_l10End_be  r x := by kernel_rfl
abbrev spec_l10End_r : Int → Option Int := (fun (y0 : Int) => some y0)
noncomputable def spec_l10End_d (a0 : RaftT) : Option Int := spec_l10End_be spec_l10End_r a0
noncomputable def spec_l10End : (RaftT) → Option Int := shut spec_l10End_d
theorem spec_l10End_def (a0 : RaftT) : spec_l10End a0 = spec_l10End_d a0 := congrFun (shut_eq _) a0
noncomputable def con_spec_l10End : Con := ⟨[(.val (.c (.pair (.int .i64) (.pair (.int .i64) (.pair (.int .i64) (.pair (.int .i64) (.pair (.pair (.int .i64) (.pair (.int .i64) (.ro (.pair (.int .i64) (.pair (.int .i64) (.pair (.int .i64) (.pair (.int .i64) (.pair (.int .i64) .str)))))))) (.pair (.ro (.int .i64)) (.pair (.ro (.int .i64)) (.ro (.int .i64))))))))) true))], [(.c (.int .i64) false)], fun (x : RaftT) => spec_l10End x⟩
abbrev spec_l10End_fs (n : Nat) : List (Nat × LabK (VKs (con_spec_l10End.rs ++ outs con_spec_l10End.ps))) := []
theorem ent_spec_l10End : Enters Go.Proofs.Tryz.prog 65 := enters_of Go.Proofs.Tryz.func65 (c := spec_l10End_body) (by kernel_rfl) (by kernel_rfl)
theorem hold_spec_l10End : Holds Go.Proofs.Tryz.prog 65 con_spec_l10End :=
  holds_of (E := spec_l10End_env) (con := con_spec_l10End) (fn := Go.Proofs.Tryz.f65) (body := spec_l10End_body) (ids := []) (Rsrc := [(.slot 2)]) (fs := spec_l10End_fs) prog_mixed (cs_of (E := spec_l10End_env) trivial) (tabOk_of (E := spec_l10End_env) tab_ok) Go.Proofs.Tryz.func65 (by kernel_rfl) (by kernel_rfl) (by kernel_rfl)
    trivial (fun n => trivial)
    (fun x y h => ⟨0, (spec_l10End_se spec_l10End_r x).trans ((spec_l10End_def x).symm.trans h)⟩)
/-! 62 loop.example/g00106/spec.l7Of -/
noncomputable def spec_l7Of_body : Code := (Go.Proofs.Tryz.f62.body).getD .skip
noncomputable def spec_l7Of_env : Env := { types := tab, cons := [] }
abbrev spec_l7Of_E : Lab := ⟨[(.c (.int .i64) false)], [(.slot 0)], []⟩
abbrev spec_l7Of_R : Lab := ⟨[(.c .bool false)], [(.slot 2)], []⟩
def spec_l7Of_be {ρ : Type}  (r : Bool → Option ρ) (a0 : Int) : Option ρ := bif decide (a0 = 1) then (r true) else (bif decide (a0 = 3) then (r true) else (r (decide (a0 = 5))))
theorem spec_l7Of_se {ρ : Type}  (r : Bool → Option ρ) (x : Int) : stretch spec_l7Of_env [] [] ⟨spec_l7Of_R, fun (x : Bool) => r x⟩ false [.code spec_l7Of_body] spec_l7Of_E x = spec_l7Of_be  r x := by kernel_rfl
abbrev spec_l7Of_r : Bool → Option Bool := (fun (y0 : Bool) => some y0)
noncomputable def spec_l7Of_d (a0 : Int) : Option Bool := spec_l7Of_be spec_l7Of_r a0
noncomputable def spec_l7Of : Int → Option Bool := shut spec_l7Of_d
theorem spec_l7Of_def (a0 : Int) : spec_l7Of a0 = spec_l7Of_d a0 := congrFun (shut_eq _) a0
noncomputable def con_spec_l7Of : Con := ⟨[(.val (.c (.int .i64) false))], [(.c .bool false)], fun (x : Int) => spec_l7Of x⟩
abbrev spec_l7Of_fs (n : Nat) : List (Nat × LabK (VKs (con_spec_l7Of.rs ++ outs con_spec_l7Of.ps))) := []
theorem ent_spec_l7Of : Enters Go.Proofs.Tryz.prog 62 := enters_of Go.Proofs.Tryz.func62 (c := spec_l7Of_body) (by kernel_rfl) (by kernel_rfl)
theorem hold_spec_l7Of : Holds Go.Proofs.Tryz.prog 62 con_spec_l7Of :=
  holds_of (E := spec_l7Of_env) (con := con_spec_l7Of) (fn := Go.Proofs.Tryz.f62) (body := spec_l7Of_body) (ids := []) (Rsrc := [(.slot 2)]) (fs := spec_l7Of_fs) prog_mixed (cs_of (E := spec_l7Of_env) trivial) (tabOk_of (E := spec_l7Of_env) tab_ok) Go.Proofs.Tryz.func62 (by kernel_rfl) (by kernel_rfl) (by kernel_rfl)
    trivial (fun n => trivial)
    (fun x y h => ⟨0, (spec_l7Of_se spec_l7Of_r x).trans ((spec_l7Of_def x).symm.trans h)⟩)
/-! 63 loop.example/g00106/spec.l1In -/
noncomputable def spec_l1In_body : Code := (Go.Proofs.Tryz.f63.body).getD .skip
noncomputable def spec_l1In_env : Env := { types := tab, cons := [] }
abbrev spec_l1In_E : Lab := ⟨[(.c (.int .i64) false), (.c (.int .i64) false), (.c (.int .i64) false)], [(.slot 0), (.slot 1), (.slot 2)], []⟩
abbrev spec_l1In_R : Lab := ⟨[(.c .bool false)], [(.slot 6)], []⟩
def spec_l1In_be {ρ : Type}  (r : Bool → Option ρ) (a0 : Int) (a1 : Int) (a2 : Int) : Option ρ := bif decide (a0 ≥ a1) then (r (decide (a0 ≤ a2))) else (r false)
theorem spec_l1In_se {ρ : Type}  (r : Bool → Option ρ) (x : Int × Int × Int) : stretch spec_l1In_env [] [] ⟨spec_l1In_R, fun (x : Bool) => r x⟩ false [.code spec_l1In_body] spec_l1In_E x = spec_l1In_be  r x.1 x.2.1 x.2.2 := by kernel_rfl
abbrev spec_l1In_r : Bool → Option Bool := (fun (y0 : Bool) => some y0)
noncomputable def spec_l1In_d (a0 : Int) (a1 : Int) (a2 : Int) : Option Bool := spec_l1In_be spec_l1In_r a0 a1 a2
noncomputable def spec_l1In : Int → Int → Int → Option Bool := shut spec_l1In_d
theorem spec_l1In_def (a0 : Int) (a1 : Int) (a2 : Int) : spec_l1In a0 a1 a2 = spec_l1In_d a0 a1 a2 := congrFun (congrFun (congrFun (shut_eq _) a0) a1) a2
noncomputable def con_spec_l1In : Con := ⟨[(.val (.c (.int .i64) false)), (.val (.c (.int .i64) false)), (.val (.c (.int .i64) false))], [(.c .bool false)], fun (x : Int × Int × Int) => spec_l1In x.1 x.2.1 x.2.2⟩
abbrev spec_l1In_fs (n : Nat) : List (Nat × LabK (VKs (con_spec_l1In.rs ++ outs con_spec_l1In.ps))) := []
theorem ent_spec_l1In : Enters Go.Proofs.Tryz.prog 63 := enters_of Go.Proofs.Tryz.func63 (c := spec_l1In_body) (by kernel_rfl) (by kernel_rfl)
theorem hold_spec_l1In : Holds Go.Proofs.Tryz.prog 63 con_spec_l1In :=
  holds_of (E := spec_l1In_env) (con := con_spec_l1In) (fn := Go.Proofs.Tryz.f63) (body := spec_l1In_body) (ids := []) (Rsrc := [(.slot 6)]) (fs := spec_l1In_fs) prog_mixed (cs_of (E := spec_l1In_env) trivial) (tabOk_of (E := spec_l1In_env) tab_ok) Go.Proofs.Tryz.func63 (by kernel_rfl) (by kernel_rfl) (by kernel_rfl)
    trivial (fun n => trivial)
    (fun x y h => ⟨0, (spec_l1In_se spec_l1In_r x).trans ((spec_l1In_def x.1 x.2.1 x.2.2).symm.trans h)⟩)
/-! 148 loop.example/g00106/spec.l1Whole -/
noncomputable def spec_l1Whole_body : Code := (Go.Proofs.Tryz.f148.body).getD .skip
noncomputable def spec_l1Whole_env : Env := { types := tab, cons := [(63, con_spec_l1In)] }
abbrev spec_l1Whole_E : Lab := ⟨[(.c (.int .i64) false)], [(.slot 0)], []⟩
abbrev spec_l1Whole_R : Lab := ⟨[(.c .bool false)], [(.slot 2)], []⟩
def spec_l1Whole_be {ρ : Type}  (r : Bool → Option ρ) (a0 : Int) : Option ρ := (spec_l1In a0 0 1000000000).bind fun t1 => r t1
theorem spec_l1Whole_se {ρ : Type}  (r : Bool → Option ρ) (x : Int) : stretch spec_l1Whole_env [] [] ⟨spec_l1Whole_R, fun (x : Bool) => r x⟩ false [.code spec_l1Whole_body] spec_l1Whole_E x = spec_l1Whole_be  r x := by kernel_rfl
abbrev spec_l1Whole_r : Bool → Option Bool := (fun (y0 : Bool) => some y0)
noncomputable def spec_l1Whole_d (a0 : Int) : Option Bool := spec_l1Whole_be spec_l1Whole_r a0
noncomputable def spec_l1Whole : Int → Option Bool := shut spec_l1Whole_d
theorem spec_l1Whole_def (a0 : Int) : spec_l1Whole a0 = spec_l1Whole_d a0 := congrFun (shut_eq _) a0
noncomputable def con_spec_l1Whole : Con := ⟨[(.val (.c (.int .i64) false))], [(.c .bool false)], fun (x : Int) => spec_l1Whole x⟩
abbrev spec_l1Whole_fs (n : Nat) : List (Nat × LabK (VKs (con_spec_l1Whole.rs ++ outs con_spec_l1Whole.ps))) := []
theorem ent_spec_l1Whole : Enters Go.Proofs.Tryz.prog 148 := enters_of Go.Proofs.Tryz.func148 (c := spec_l1Whole_body) (by kernel_rfl) (by kernel_rfl)
theorem hold_spec_l1Whole : Holds Go.Proofs.Tryz.prog 148 con_spec_l1Whole :=
  holds_of (E := spec_l1Whole_env) (con := con_spec_l1Whole) (fn := Go.Proofs.Tryz.f148) (body := spec_l1Whole_body) (ids := []) (Rsrc := [(.slot 2)]) (fs := spec_l1Whole_fs) prog_mixed (cs_of (E := spec_l1Whole_env) ⟨⟨ent_spec_l1In, hold_spec_l1In⟩, trivial⟩) (tabOk_of (E := spec_l1Whole_env) tab_ok) Go.Proofs.Tryz.func148 (by kernel_rfl) (by kernel_rfl) (by kernel_rfl)
    trivial (fun n => trivial)
    (fun x y h => ⟨0, (spec_l1Whole_se spec_l1Whole_r x).trans ((spec_l1Whole_def x).symm.trans h)⟩)
/-! 104 loop.example/g00106/spec.CmdOk -/
noncomputable def spec_CmdOk_body : Code := (Go.Proofs.Tryz.f104.body).getD .skip
noncomputable def spec_CmdOk_env : Env := { types := tab, cons := [(63, con_spec_l1In)] }
abbrev spec_CmdOk_E : Lab := ⟨[(.c (.pair (.int .i64) (.pair (.int .i64) (.pair (.int .i64) (.pair (.int .i64) .str)))) true)], [(.slot 0)], []⟩
abbrev spec_CmdOk_R : Lab := ⟨[(.c .bool false)], [(.slot 2)], []⟩
def spec_CmdOk_be {ρ : Type}  (r : Bool → Option ρ) (a0 : CmdT) : Option ρ := bif decide (a0.1 = 1) then (r (decide (a0.1 = a0.1) && (decide (a0.2.1 = 0) && (decide (a0.2.2.1 = 0) && (decide (a0.2.2.2.1 = 0) && (strEq a0.2.2.2.2 ⟨#[]⟩ && true)))))) else ((spec_l1In a0.1 2 5).bind fun t1 => bif !t1 then (r false) else ((spec_l1In a0.2.1 1 1000).bind fun t2 => bif !t2 then (r false) else (bif decide (a0.1 = 2) then ((spec_l1In a0.2.2.2.1 0 1000).bind fun t3 => bif t3 then (bif decide ((a0.2.2.2.2.size : Int) = 32) then (r (decide (a0.2.2.1 = 0))) else (r false)) else (r false)) else (bif decide (a0.1 = 3) then ((spec_l1In a0.2.2.1 0 4).bind fun t4 => bif t4 then (r (decide (a0.1 = a0.1) && (decide (a0.2.1 = a0.2.1) && (decide (a0.2.2.1 = a0.2.2.1) && (decide (a0.2.2.2.1 = 0) && (strEq a0.2.2.2.2 ⟨#[]⟩ && true)))))) else (r false)) else (r (decide (a0.1 = a0.1) && (decide (a0.2.1 = a0.2.1) && (decide (a0.2.2.1 = 0) && (decide (a0.2.2.2.1 = 0) && (strEq a0.2.2.2.2 ⟨#[]⟩ && true))))))))))
theorem spec_CmdOk_se {ρ : Type}  (r : Bool → Option ρ) (x : CmdT) : stretch spec_CmdOk_env [] [] ⟨spec_CmdOk_R, fun (x : Bool) => r x⟩ false [.code spec_CmdOk_body] spec_CmdOk_E x = spec_CmdOk_be  r x := by kernel_rfl
abbrev spec_CmdOk_r : Bool → Option Bool := (fun (y0 : Bool) => some y0)
noncomputable def spec_CmdOk_d (a0 : CmdT) : Option Bool := spec_CmdOk_be spec_CmdOk_r a0
noncomputable def spec_CmdOk : (CmdT) → Option Bool := shut spec_CmdOk_d
theorem spec_CmdOk_def (a0 : CmdT) : spec_CmdOk a0 = spec_CmdOk_d a0 := congrFun (shut_eq _) a0
noncomputable def con_spec_CmdOk : Con := ⟨[(.val (.c (.pair (.int .i64) (.pair (.int .i64) (.pair (.int .i64) (.pair (.int .i64) .str)))) true))], [(.c .bool false)], fun (x : CmdT) => spec_CmdOk x⟩
abbrev spec_CmdOk_fs (n : Nat) : List (Nat × LabK (VKs (con_spec_CmdOk.rs ++ outs con_spec_CmdOk.ps))) := []
theorem ent_spec_CmdOk : Enters Go.Proofs.Tryz.prog 104 := enters_of Go.Proofs.Tryz.func104 (c := spec_CmdOk_body) (by kernel_rfl) (by kernel_rfl)
theorem hold_spec_CmdOk : Holds Go.Proofs.Tryz.prog 104 con_spec_CmdOk :=
  holds_of (E := spec_CmdOk_env) (con := con_spec_CmdOk) (fn := Go.Proofs.Tryz.f104) (body := spec_CmdOk_body) (ids := []) (Rsrc := [(.slot 2)]) (fs := spec_CmdOk_fs) prog_mixed (cs_of (E := spec_CmdOk_env) ⟨⟨ent_spec_l1In, hold_spec_l1In⟩, trivial⟩) (tabOk_of (E := spec_CmdOk_env) tab_ok) Go.Proofs.Tryz.func104 (by kernel_rfl) (by kernel_rfl) (by kernel_rfl)
    trivial (fun n => trivial)
    (fun x y h => ⟨0, (spec_CmdOk_se spec_CmdOk_r x).trans ((spec_CmdOk_def x).symm.trans h)⟩)
/-! 149 loop.example/g00106/spec.l6Entry -/
noncomputable def spec_l6Entry_body : Code := (Go.Proofs.Tryz.f149.body).getD .skip
noncomputable def spec_l6Entry_env : Env := { types := tab, cons := [(63, con_spec_l1In), (104, con_spec_CmdOk)] }
abbrev spec_l6Entry_E : Lab := ⟨[(.c (.pair (.int .i64) (.pair (.int .i64) (.pair (.int .i64) (.pair (.int .i64) (.pair (.int .i64) .str))))) true)], [(.slot 0)], []⟩
abbrev spec_l6Entry_R : Lab := ⟨[(.c .bool false)], [(.slot 2)], []⟩
def spec_l6Entry_be {ρ : Type}  (r : Bool → Option ρ) (a0 : EntT) : Option ρ := (spec_l1In a0.1 1 1000000000).bind fun t1 => bif t1 then ((spec_CmdOk a0.2).bind fun t2 => r t2) else (r false)
theorem spec_l6Entry_se {ρ : Type}  (r : Bool → Option ρ) (x : EntT) : stretch spec_l6Entry_env [] [] ⟨spec_l6Entry_R, fun (x : Bool) => r x⟩ false [.code spec_l6Entry_body] spec_l6Entry_E x = spec_l6Entry_be  r x := by kernel_rfl
abbrev spec_l6Entry_r : Bool → Option Bool := (fun (y0 : Bool) => some y0)
noncomputable def spec_l6Entry_d (a0 : EntT) : Option Bool := spec_l6Entry_be spec_l6Entry_r a0
noncomputable def spec_l6Entry : (EntT) → Option Bool := shut spec_l6Entry_d
theorem spec_l6Entry_def (a0 : EntT) : spec_l6Entry a0 = spec_l6Entry_d a0 := congrFun (shut_eq _) a0
noncomputable def con_spec_l6Entry : Con := ⟨[(.val (.c (.pair (.int .i64) (.pair (.int .i64) (.pair (.int .i64) (.pair (.int .i64) (.pair (.int .i64) .str))))) true))], [(.c .bool false)], fun (x : EntT) => spec_l6Entry x⟩
abbrev spec_l6Entry_fs (n : Nat) : List (Nat × LabK (VKs (con_spec_l6Entry.rs ++ outs con_spec_l6Entry.ps))) := []
theorem ent_spec_l6Entry : Enters Go.Proofs.Tryz.prog 149 := enters_of Go.Proofs.Tryz.func149 (c := spec_l6Entry_body) (by kernel_rfl) (by kernel_rfl)
theorem hold_spec_l6Entry : Holds Go.Proofs.Tryz.prog 149 con_spec_l6Entry :=
  holds_of (E := spec_l6Entry_env) (con := con_spec_l6Entry) (fn := Go.Proofs.Tryz.f149) (body := spec_l6Entry_body) (ids := []) (Rsrc := [(.slot 2)]) (fs := spec_l6Entry_fs) prog_mixed (cs_of (E := spec_l6Entry_env) ⟨⟨ent_spec_l1In, hold_spec_l1In⟩, ⟨ent_spec_CmdOk, hold_spec_CmdOk⟩, trivial⟩) (tabOk_of (E := spec_l6Entry_env) tab_ok) Go.Proofs.Tryz.func149 (by kernel_rfl) (by kernel_rfl) (by kernel_rfl)
    trivial (fun n => trivial)
    (fun x y h => ⟨0, (spec_l6Entry_se spec_l6Entry_r x).trans ((spec_l6Entry_def x).symm.trans h)⟩)
/-! 64 loop.example/g00106/spec.HardOk -/
noncomputable def spec_HardOk_body : Code := (Go.Proofs.Tryz.f64.body).getD .skip
noncomputable def spec_HardOk_env : Env := { types := tab, cons := [(63, con_spec_l1In), (148, con_spec_l1Whole), (149, con_spec_l6Entry)] }
abbrev spec_HardOk_L4 : Lab := ⟨[(.box (.pair (.int .i64) (.pair (.int .i64) (.ro (.pair (.int .i64) (.pair (.int .i64) (.pair (.int .i64) (.pair (.int .i64) (.pair (.int .i64) .str))))))))), (.c (.int .i64) false)], [(.slot 1), (.slot 3)], []⟩
abbrev spec_HardOk_E : Lab := ⟨[(.c (.pair (.int .i64) (.pair (.int .i64) (.ro (.pair (.int .i64) (.pair (.int .i64) (.pair (.int .i64) (.pair (.int .i64) (.pair (.int .i64) .str)))))))) true)], [(.slot 0)], []⟩
abbrev spec_HardOk_R : Lab := ⟨[(.c .bool false)], [(.slot 2)], []⟩
def spec_HardOk_b4 {ρ : Type} (l4 : (HardT) → Int → Option ρ) (r : Bool → Option ρ) (x1 : HardT) (x3 : Int) : Option ρ := bif decide (x3 < (x1.2.2.length : Int)) then ((idx x1.2.2 x3).bind fun v3 => (spec_l6Entry v3).bind fun t4 => bif !t4 then (r false) else ((idx x1.2.2 x3).bind fun v5 => bif decide (v5.1 > x1.1) then (r false) else (bif decide (x3 > 0) then ((idx x1.2.2 x3).bind fun v6 => (idx x1.2.2 (wr .i64 (x3 - 1))).bind fun v7 => bif decide (v6.1 < v7.1) then (r false) else (l4 x1 (wr .i64 (x3 + 1)))) else (l4 x1 (wr .i64 (x3 + 1)))))) else (r true)
def spec_HardOk_be {ρ : Type} (l4 : (HardT) → Int → Option ρ) (r : Bool → Option ρ) (a0 : HardT) : Option ρ := (spec_l1Whole a0.1).bind fun t1 => bif !t1 then (r false) else ((spec_l1In a0.2.1 0 5).bind fun t2 => bif !t2 then (r false) else (bif decide ((a0.2.2.length : Int) > 80) then (r false) else (l4 a0 0)))
theorem spec_HardOk_s4 {ρ : Type} (l4 : (HardT) → Int → Option ρ) (r : Bool → Option ρ) (x : (HardT) × Int) : stretch spec_HardOk_env [4] [(4, ⟨spec_HardOk_L4, fun (x : (HardT) × Int) => l4 x.1 x.2⟩)] ⟨spec_HardOk_R, fun (x : Bool) => r x⟩ true ((seek 4 spec_HardOk_body []).getD []) spec_HardOk_L4 x = spec_HardOk_b4 l4 r x.1 x.2 := by kernel_rfl
theorem spec_HardOk_se {ρ : Type} (l4 : (HardT) → Int → Option ρ) (r : Bool → Option ρ) (x : HardT) : stretch spec_HardOk_env [4] [(4, ⟨spec_HardOk_L4, fun (x : (HardT) × Int) => l4 x.1 x.2⟩)] ⟨spec_HardOk_R, fun (x : Bool) => r x⟩ false [.code spec_HardOk_body] spec_HardOk_E x = spec_HardOk_be l4 r x := by kernel_rfl
abbrev spec_HardOk_r : Bool → Option Bool := (fun (y0 : Bool) => some y0)
def spec_HardOk_ls : Nat → ((HardT) → Int → Option Bool)
  | 0 => (fun _ _ => none)
  | n + 1 => spec_HardOk_b4 (spec_HardOk_ls n) spec_HardOk_r
abbrev spec_HardOk_l4 (n : Nat) : (HardT) → Int → Option Bool := (spec_HardOk_ls n)
noncomputable def spec_HardOk_d (a0 : HardT) : Option Bool := lim fun n => spec_HardOk_be (spec_HardOk_l4 n) spec_HardOk_r a0
noncomputable def spec_HardOk : (HardT) → Option Bool := shut spec_HardOk_d
theorem spec_HardOk_def (a0 : HardT) : spec_HardOk a0 = spec_HardOk_d a0 := congrFun (shut_eq _) a0
theorem spec_HardOk_ok' : ∀ (a0 : HardT) (y : Bool), spec_HardOk a0 = some y → ∃ n, spec_HardOk_be (spec_HardOk_l4 n) spec_HardOk_r a0 = some y := fun a0 y h => lim_some ((spec_HardOk_def a0).symm.trans h)
noncomputable def con_spec_HardOk : Con := ⟨[(.val (.c (.pair (.int .i64) (.pair (.int .i64) (.ro (.pair (.int .i64) (.pair (.int .i64) (.pair (.int .i64) (.pair (.int .i64) (.pair (.int .i64) .str)))))))) true))], [(.c .bool false)], fun (x : HardT) => spec_HardOk x⟩
abbrev spec_HardOk_fs (n : Nat) : List (Nat × LabK (VKs (con_spec_HardOk.rs ++ outs con_spec_HardOk.ps))) := [(4, ⟨spec_HardOk_L4, fun (x : (HardT) × Int) => spec_HardOk_l4 n x.1 x.2⟩)]
theorem ent_spec_HardOk : Enters Go.Proofs.Tryz.prog 64 := enters_of Go.Proofs.Tryz.func64 (c := spec_HardOk_body) (by kernel_rfl) (by kernel_rfl)
theorem hold_spec_HardOk : Holds Go.Proofs.Tryz.prog 64 con_spec_HardOk :=
  holds_of (E := spec_HardOk_env) (con := con_spec_HardOk) (fn := Go.Proofs.Tryz.f64) (body := spec_HardOk_body) (ids := [4]) (Rsrc := [(.slot 2)]) (fs := spec_HardOk_fs) prog_mixed (cs_of (E := spec_HardOk_env) ⟨⟨ent_spec_l1In, hold_spec_l1In⟩, ⟨ent_spec_l1Whole, hold_spec_l1Whole⟩, ⟨ent_spec_l6Entry, hold_spec_l6Entry⟩, trivial⟩) (tabOk_of (E := spec_HardOk_env) tab_ok) Go.Proofs.Tryz.func64 (by kernel_rfl) (by kernel_rfl) (by kernel_rfl)
    ⟨(fun _ => rfl), trivial⟩ (fun n => ⟨(fun x => (spec_HardOk_s4 (spec_HardOk_l4 n) spec_HardOk_r x).symm), trivial⟩)
    (fun x y h => by
      obtain ⟨n, hn⟩ := spec_HardOk_ok' x y h
      exact ⟨n, (spec_HardOk_se (spec_HardOk_l4 n) spec_HardOk_r x).trans hn⟩)
/-! 66 loop.example/g00106/spec.l7Nodes -/
noncomputable def spec_l7Nodes_body : Code := (Go.Proofs.Tryz.f66.body).getD .skip
noncomputable def spec_l7Nodes_env : Env := { types := tab, cons := [(63, con_spec_l1In)] }
abbrev spec_l7Nodes_L2 : Lab := ⟨[(.c (.ro (.int .i64)) false), (.c (.int .i64) false), (.c (.int .i64) false)], [(.slot 0), (.slot 1), (.slot 5)], []⟩
abbrev spec_l7Nodes_E : Lab := ⟨[(.c (.ro (.int .i64)) false), (.c (.int .i64) false)], [(.slot 0), (.slot 1)], []⟩
abbrev spec_l7Nodes_R : Lab := ⟨[(.c .bool false)], [(.slot 4)], []⟩
def spec_l7Nodes_b2 {ρ : Type} (l2 : List Int → Int → Int → Option ρ) (r : Bool → Option ρ) (x0 : List Int) (x1 : Int) (x5 : Int) : Option ρ := bif decide (x5 < (x0.length : Int)) then ((idx x0 x5).bind fun v1 => (spec_l1In v1 0 (wr .i64 (x1 - 1))).bind fun t2 => bif !t2 then (r false) else (bif decide (x5 > 0) then ((idx x0 (wr .i64 (x5 - 1))).bind fun v3 => (idx x0 x5).bind fun v4 => bif decide (v3 ≥ v4) then (r false) else (l2 x0 x1 (wr .i64 (x5 + 1)))) else (l2 x0 x1 (wr .i64 (x5 + 1))))) else (r true)
def spec_l7Nodes_be {ρ : Type} (l2 : List Int → Int → Int → Option ρ) (r : Bool → Option ρ) (a0 : List Int) (a1 : Int) : Option ρ := l2 a0 a1 0
theorem spec_l7Nodes_s2 {ρ : Type} (l2 : List Int → Int → Int → Option ρ) (r : Bool → Option ρ) (x : List Int × Int × Int) : stretch spec_l7Nodes_env [2] [(2, ⟨spec_l7Nodes_L2, fun (x : List Int × Int × Int) => l2 x.1 x.2.1 x.2.2⟩)] ⟨spec_l7Nodes_R, fun (x : Bool) => r x⟩ true ((seek 2 spec_l7Nodes_body []).getD []) spec_l7Nodes_L2 x = spec_l7Nodes_b2 l2 r x.1 x.2.1 x.2.2 := by kernel_rfl
theorem spec_l7Nodes_se {ρ : Type} (l2 : List Int → Int → Int → Option ρ) (r : Bool → Option ρ) (x : List Int × Int) : stretch spec_l7Nodes_env [2] [(2, ⟨spec_l7Nodes_L2, fun (x : List Int × Int × Int) => l2 x.1 x.2.1 x.2.2⟩)] ⟨spec_l7Nodes_R, fun (x : Bool) => r x⟩ false [.code spec_l7Nodes_body] spec_l7Nodes_E x = spec_l7Nodes_be l2 r x.1 x.2 := by kernel_rfl
abbrev spec_l7Nodes_r : Bool → Option Bool := (fun (y0 : Bool) => some y0)
def spec_l7Nodes_ls : Nat → (List Int → Int → Int → Option Bool)
  | 0 => (fun _ _ _ => none)
  | n + 1 => spec_l7Nodes_b2 (spec_l7Nodes_ls n) spec_l7Nodes_r
abbrev spec_l7Nodes_l2 (n : Nat) : List Int → Int → Int → Option Bool := (spec_l7Nodes_ls n)
noncomputable def spec_l7Nodes_d (a0 : List Int) (a1 : Int) : Option Bool := lim fun n => spec_l7Nodes_be (spec_l7Nodes_l2 n) spec_l7Nodes_r a0 a1
noncomputable def spec_l7Nodes : List Int → Int → Option Bool := shut spec_l7Nodes_d
theorem spec_l7Nodes_def (a0 : List Int) (a1 : Int) : spec_l7Nodes a0 a1 = spec_l7Nodes_d a0 a1 := congrFun (congrFun (shut_eq _) a0) a1
theorem spec_l7Nodes_ok' : ∀ (a0 : List Int) (a1 : Int) (y : Bool), spec_l7Nodes a0 a1 = some y → ∃ n, spec_l7Nodes_be (spec_l7Nodes_l2 n) spec_l7Nodes_r a0 a1 = some y := fun a0 a1 y h => lim_some ((spec_l7Nodes_def a0 a1).symm.trans h)
noncomputable def con_spec_l7Nodes : Con := ⟨[(.val (.c (.ro (.int .i64)) false)), (.val (.c (.int .i64) false))], [(.c .bool false)], fun (x : List Int × Int) => spec_l7Nodes x.1 x.2⟩
abbrev spec_l7Nodes_fs (n : Nat) : List (Nat × LabK (VKs (con_spec_l7Nodes.rs ++ outs con_spec_l7Nodes.ps))) := [(2, ⟨spec_l7Nodes_L2, fun (x : List Int × Int × Int) => spec_l7Nodes_l2 n x.1 x.2.1 x.2.2⟩)]
theorem ent_spec_l7Nodes : Enters Go.Proofs.Tryz.prog 66 := enters_of Go.Proofs.Tryz.func66 (c := spec_l7Nodes_body) (by kernel_rfl) (by kernel_rfl)
theorem hold_spec_l7Nodes : Holds Go.Proofs.Tryz.prog 66 con_spec_l7Nodes :=
  holds_of (E := spec_l7Nodes_env) (con := con_spec_l7Nodes) (fn := Go.Proofs.Tryz.f66) (body := spec_l7Nodes_body) (ids := [2]) (Rsrc := [(.slot 4)]) (fs := spec_l7Nodes_fs) prog_mixed (cs_of (E := spec_l7Nodes_env) ⟨⟨ent_spec_l1In, hold_spec_l1In⟩, trivial⟩) (tabOk_of (E := spec_l7Nodes_env) tab_ok) Go.Proofs.Tryz.func66 (by kernel_rfl) (by kernel_rfl) (by kernel_rfl)
    ⟨(fun _ => rfl), trivial⟩ (fun n => ⟨(fun x => (spec_l7Nodes_s2 (spec_l7Nodes_l2 n) spec_l7Nodes_r x).symm), trivial⟩)
    (fun x y h => by
      obtain ⟨n, hn⟩ := spec_l7Nodes_ok' x.1 x.2 y h
      exact ⟨n, (spec_l7Nodes_se (spec_l7Nodes_l2 n) spec_l7Nodes_r x).trans hn⟩)
/-! 67 loop.example/g00106/spec.l7Has -/
noncomputable def spec_l7Has_body : Code := (Go.Proofs.Tryz.f67.body).getD .skip
noncomputable def spec_l7Has_env : Env := { types := tab, cons := [] }
abbrev spec_l7Has_L2 : Lab := ⟨[(.c (.ro (.int .i64)) false), (.c (.int .i64) false), (.c (.int .i64) false)], [(.slot 0), (.slot 1), (.slot 5)], []⟩
abbrev spec_l7Has_E : Lab := ⟨[(.c (.ro (.int .i64)) false), (.c (.int .i64) false)], [(.slot 0), (.slot 1)], []⟩
abbrev spec_l7Has_R : Lab := ⟨[(.c .bool false)], [(.slot 4)], []⟩
def spec_l7Has_b2 {ρ : Type} (l2 : List Int → Int → Int → Option ρ) (r : Bool → Option ρ) (x0 : List Int) (x1 : Int) (x5 : Int) : Option ρ := bif decide (x5 < (x0.length : Int)) then ((idx x0 x5).bind fun v1 => bif decide (v1 = x1) then (r true) else (l2 x0 x1 (wr .i64 (x5 + 1)))) else (r false)
def spec_l7Has_be {ρ : Type} (l2 : List Int → Int → Int → Option ρ) (r : Bool → Option ρ) (a0 : List Int) (a1 : Int) : Option ρ := l2 a0 a1 0
theorem spec_l7Has_s2 {ρ : Type} (l2 : List Int → Int → Int → Option ρ) (r : Bool → Option ρ) (x : List Int × Int × Int) : stretch spec_l7Has_env [2] [(2, ⟨spec_l7Has_L2, fun (x : List Int × Int × Int) => l2 x.1 x.2.1 x.2.2⟩)] ⟨spec_l7Has_R, fun (x : Bool) => r x⟩ true ((seek 2 spec_l7Has_body []).getD []) spec_l7Has_L2 x = spec_l7Has_b2 l2 r x.1 x.2.1 x.2.2 := by kernel_rfl
theorem spec_l7Has_se {ρ : Type} (l2 : List Int → Int → Int → Option ρ) (r : Bool → Option ρ) (x : List Int × Int) : stretch spec_l7Has_env [2] [(2, ⟨spec_l7Has_L2, fun (x : List Int × Int × Int) => l2 x.1 x.2.1 x.2.2⟩)] ⟨spec_l7Has_R, fun (x : Bool) => r x⟩ false [.code spec_l7Has_body] spec_l7Has_E x = spec_l7Has_be l2 r x.1 x.2 := by kernel_rfl
abbrev spec_l7Has_r : Bool → Option Bool := (fun (y0 : Bool) => some y0)
def spec_l7Has_ls : Nat → (List Int → Int → Int → Option Bool)
  | 0 => (fun _ _ _ => none)
  | n + 1 => spec_l7Has_b2 (spec_l7Has_ls n) spec_l7Has_r
abbrev spec_l7Has_l2 (n : Nat) : List Int → Int → Int → Option Bool := (spec_l7Has_ls n)
def spec_l7Has_G (x1 : Int) (v1 : Int)  : Option (Unit ⊕ Bool) := bif decide (v1 = x1) then (some (.inr true)) else (some (.inl ()))
def spec_l7Has_fin  : Option Bool := some false
def spec_l7Has_c (x0 : List Int) (x1 : Int) (x5 : Int) : Option Bool := bif lok x0 && decide (x5 = 0) then foldE (fun v (s : Unit) => spec_l7Has_G x1 v ) (fun (s : Unit) => spec_l7Has_fin  ) x0 () else none
theorem spec_l7Has_c_ok (x0 : List Int) (x1 : Int) (x5 : Int) (y : Bool) (h : spec_l7Has_c x0 x1 x5 = some y) : ∃ n, spec_l7Has_l2 n x0 x1 x5 = some y := by
  obtain ⟨hg, h2⟩ := cond_some h
  simp only [Bool.and_eq_true, lok_iff, decide_eq_true_eq] at hg
  obtain ⟨hl, rfl⟩ := hg
  exact foldE_ok x0 hl (fun n i (s : Unit) => spec_l7Has_l2 n x0 x1 i) (fun v (s : Unit) => spec_l7Has_G x1 v ) (fun (s : Unit) => spec_l7Has_fin  )
    (fun n s => by simp only [spec_l7Has_ls, spec_l7Has_b2, spec_l7Has_r, spec_l7Has_fin, Int.lt_irrefl, decide_false, cond_false, cond_bind, bind_bind', some_bind', none_bind'])
    (fun n i v s h1 hi hw => by simp only [spec_l7Has_ls, spec_l7Has_b2, spec_l7Has_r, spec_l7Has_G, h1, hi, hw, decide_true, cond_true, cond_bind, bind_bind', some_bind', none_bind', sm_inl, sm_inr]) _ y h2
def spec_l7Has_d (a0 : List Int) (a1 : Int) : Option Bool := spec_l7Has_be spec_l7Has_c spec_l7Has_r a0 a1
theorem spec_l7Has_ok (a0 : List Int) (a1 : Int) (y : Bool) (h : spec_l7Has_d a0 a1 = some y) : ∃ n, spec_l7Has_be (spec_l7Has_l2 n) spec_l7Has_r a0 a1 = some y := by
  have e : ∀ l, spec_l7Has_be l spec_l7Has_r a0 a1 = (spec_l7Has_be (ρ := (List Int × Int × Int) ⊕ Bool) (fun x0 x1 x5 => some (.inl (x0, x1, x5))) (fun y0 => some (.inr y0)) a0 a1).bind (sm fun a => l a.1 a.2.1 a.2.2) := by
    intro l
    simp only [spec_l7Has_be, spec_l7Has_r, cond_bind, bind_bind', some_bind', none_bind', sm_inl, sm_inr]
  unfold spec_l7Has_d at h
  rw [e] at h
  obtain ⟨n, hn⟩ := be_ok _ (fun (a : List Int × Int × Int) => spec_l7Has_c a.1 a.2.1 a.2.2) (fun n (a : List Int × Int × Int) => spec_l7Has_l2 n a.1 a.2.1 a.2.2) (fun a y h => spec_l7Has_c_ok a.1 a.2.1 a.2.2 y h) y h
  exact ⟨n, by rw [e]; exact hn⟩
noncomputable def spec_l7Has : List Int → Int → Option Bool := shut spec_l7Has_d
theorem spec_l7Has_def (a0 : List Int) (a1 : Int) : spec_l7Has a0 a1 = spec_l7Has_d a0 a1 := congrFun (congrFun (shut_eq _) a0) a1
theorem spec_l7Has_ok' : ∀ (a0 : List Int) (a1 : Int) (y : Bool), spec_l7Has a0 a1 = some y → ∃ n, spec_l7Has_be (spec_l7Has_l2 n) spec_l7Has_r a0 a1 = some y := fun a0 a1 y h => spec_l7Has_ok a0 a1 y ((spec_l7Has_def a0 a1).symm.trans h)
noncomputable def con_spec_l7Has : Con := ⟨[(.val (.c (.ro (.int .i64)) false)), (.val (.c (.int .i64) false))], [(.c .bool false)], fun (x : List Int × Int) => spec_l7Has x.1 x.2⟩
abbrev spec_l7Has_fs (n : Nat) : List (Nat × LabK (VKs (con_spec_l7Has.rs ++ outs con_spec_l7Has.ps))) := [(2, ⟨spec_l7Has_L2, fun (x : List Int × Int × Int) => spec_l7Has_l2 n x.1 x.2.1 x.2.2⟩)]
theorem ent_spec_l7Has : Enters Go.Proofs.Tryz.prog 67 := enters_of Go.Proofs.Tryz.func67 (c := spec_l7Has_body) (by kernel_rfl) (by kernel_rfl)
theorem hold_spec_l7Has : Holds Go.Proofs.Tryz.prog 67 con_spec_l7Has :=
  holds_of (E := spec_l7Has_env) (con := con_spec_l7Has) (fn := Go.Proofs.Tryz.f67) (body := spec_l7Has_body) (ids := [2]) (Rsrc := [(.slot 4)]) (fs := spec_l7Has_fs) prog_mixed (cs_of (E := spec_l7Has_env) trivial) (tabOk_of (E := spec_l7Has_env) tab_ok) Go.Proofs.Tryz.func67 (by kernel_rfl) (by kernel_rfl) (by kernel_rfl)
    ⟨(fun _ => rfl), trivial⟩ (fun n => ⟨(fun x => (spec_l7Has_s2 (spec_l7Has_l2 n) spec_l7Has_r x).symm), trivial⟩)
    (fun x y h => by
      obtain ⟨n, hn⟩ := spec_l7Has_ok' x.1 x.2 y h
      exact ⟨n, (spec_l7Has_se (spec_l7Has_l2 n) spec_l7Has_r x).trans hn⟩)
/-! 18 loop.example/g00106/spec.RaftOk -/
noncomputable def spec_RaftOk_body : Code := (Go.Proofs.Tryz.f18.body).getD .skip
noncomputable def spec_RaftOk_env : Env := { types := tab, cons := [(62, con_spec_l7Of), (63, con_spec_l1In), (64, con_spec_HardOk), (65, con_spec_l10End), (66, con_spec_l7Nodes), (67, con_spec_l7Has)] }
abbrev spec_RaftOk_L10 : Lab := ⟨[(.box (.pair (.int .i64) (.pair (.int .i64) (.pair (.int .i64) (.pair (.int .i64) (.pair (.pair (.int .i64) (.pair (.int .i64) (.ro (.pair (.int .i64) (.pair (.int .i64) (.pair (.int .i64) (.pair (.int .i64) (.pair (.int .i64) .str)))))))) (.pair (.ro (.int .i64)) (.pair (.ro (.int .i64)) (.ro (.int .i64)))))))))), (.c (.int .i64) false)], [(.slot 1), (.slot 3)], []⟩
abbrev spec_RaftOk_E : Lab := ⟨[(.c (.pair (.int .i64) (.pair (.int .i64) (.pair (.int .i64) (.pair (.int .i64) (.pair (.pair (.int .i64) (.pair (.int .i64) (.ro (.pair (.int .i64) (.pair (.int .i64) (.pair (.int .i64) (.pair (.int .i64) (.pair (.int .i64) .str)))))))) (.pair (.ro (.int .i64)) (.pair (.ro (.int .i64)) (.ro (.int .i64))))))))) true)], [(.slot 0)], []⟩
abbrev spec_RaftOk_R : Lab := ⟨[(.c .bool false)], [(.slot 2)], []⟩
def spec_RaftOk_b10 {ρ : Type} (l10 : (RaftT) → Int → Option ρ) (r : Bool → Option ρ) (x1 : RaftT) (x3 : Int) : Option ρ := bif decide (x3 < x1.2.1) then ((idx x1.2.2.2.2.2.2.1 x3).bind fun v9 => (spec_l10End x1).bind fun t10 => (spec_l1In v9 1 (wr .i64 (t10 + 1))).bind fun t11 => bif !t11 then (r false) else ((idx x1.2.2.2.2.2.2.2 x3).bind fun v12 => (spec_l10End x1).bind fun t13 => (spec_l1In v12 0 t13).bind fun t14 => bif !t14 then (r false) else (l10 x1 (wr .i64 (x3 + 1))))) else (r true)
def spec_RaftOk_be {ρ : Type} (l10 : (RaftT) → Int → Option ρ) (r : Bool → Option ρ) (a0 : RaftT) : Option ρ := (spec_l7Of a0.2.1).bind fun t1 => bif !t1 then (r false) else ((spec_l1In a0.1 0 (wr .i64 (a0.2.1 - 1))).bind fun t2 => bif !t2 then (r false) else ((spec_l1In a0.2.2.1 1 3).bind fun t3 => bif !t3 then (r false) else ((spec_HardOk a0.2.2.2.2.1).bind fun t4 => bif !t4 then (r false) else ((spec_l10End a0).bind fun t5 => (spec_l1In a0.2.2.2.1 0 t5).bind fun t6 => bif !t6 then (r false) else (bif decide ((a0.2.2.2.2.2.1.length : Int) > a0.2.1) then (r false) else ((spec_l7Nodes a0.2.2.2.2.2.1 a0.2.1).bind fun t7 => bif !t7 then (r false) else ((spec_l7Has a0.2.2.2.2.2.1 a0.1).bind fun t8 => bif t8 then (r false) else (bif !(decide (a0.2.2.1 = 2)) then (bif decide ((a0.2.2.2.2.2.1.length : Int) > 0) then (r false) else (bif !(decide (a0.2.2.1 = 1)) then (bif decide (a0.2.2.2.2.1.1 < 1) then (r false) else (bif !(decide (a0.2.2.2.2.1.2.1 = (wr .i64 (a0.1 + 1)))) then (r false) else (bif !(decide (a0.2.2.1 = 3)) then (bif decide ((a0.2.2.2.2.2.2.1.length : Int) = 0) then (r (decide ((a0.2.2.2.2.2.2.2.length : Int) = 0))) else (r false)) else (bif !(decide ((a0.2.2.2.2.2.2.1.length : Int) = a0.2.1)) then (r false) else (bif !(decide ((a0.2.2.2.2.2.2.2.length : Int) = a0.2.1)) then (r false) else (l10 a0 0)))))) else (bif !(decide (a0.2.2.1 = 3)) then (bif decide ((a0.2.2.2.2.2.2.1.length : Int) = 0) then (r (decide ((a0.2.2.2.2.2.2.2.length : Int) = 0))) else (r false)) else (bif !(decide ((a0.2.2.2.2.2.2.1.length : Int) = a0.2.1)) then (r false) else (bif !(decide ((a0.2.2.2.2.2.2.2.length : Int) = a0.2.1)) then (r false) else (l10 a0 0)))))) else (bif !(decide (a0.2.2.1 = 1)) then (bif decide (a0.2.2.2.2.1.1 < 1) then (r false) else (bif !(decide (a0.2.2.2.2.1.2.1 = (wr .i64 (a0.1 + 1)))) then (r false) else (bif !(decide (a0.2.2.1 = 3)) then (bif decide ((a0.2.2.2.2.2.2.1.length : Int) = 0) then (r (decide ((a0.2.2.2.2.2.2.2.length : Int) = 0))) else (r false)) else (bif !(decide ((a0.2.2.2.2.2.2.1.length : Int) = a0.2.1)) then (r false) else (bif !(decide ((a0.2.2.2.2.2.2.2.length : Int) = a0.2.1)) then (r false) else (l10 a0 0)))))) else (bif !(decide (a0.2.2.1 = 3)) then (bif decide ((a0.2.2.2.2.2.2.1.length : Int) = 0) then (r (decide ((a0.2.2.2.2.2.2.2.length : Int) = 0))) else (r false)) else (bif !(decide ((a0.2.2.2.2.2.2.1.length : Int) = a0.2.1)) then (r false) else (bif !(decide ((a0.2.2.2.2.2.2.2.length : Int) = a0.2.1)) then (r false) else (l10 a0 0)))))))))))))
theorem spec_RaftOk_s10 {ρ : Type} (l10 : (RaftT) → Int → Option ρ) (r : Bool → Option ρ) (x : (RaftT) × Int) : stretch spec_RaftOk_env [10] [(10, ⟨spec_RaftOk_L10, fun (x : (RaftT) × Int) => l10 x.1 x.2⟩)] ⟨spec_RaftOk_R, fun (x : Bool) => r x⟩ true ((seek 10 spec_RaftOk_body []).getD []) spec_RaftOk_L10 x = spec_RaftOk_b10 l10 r x.1 x.2 := by kernel_rfl
theorem spec_RaftOk_se {ρ : Type} (l10 : (RaftT) → Int → Option ρ) (r : Bool → Option ρ) (x : RaftT) : stretch spec_RaftOk_env [10] [(10, ⟨spec_RaftOk_L10, fun (x : (RaftT) × Int) => l10 x.1 x.2⟩)] ⟨spec_RaftOk_R, fun (x : Bool) => r x⟩ false [.code spec_RaftOk_body] spec_RaftOk_E x = spec_RaftOk_be l10 r x := by kernel_rfl
abbrev spec_RaftOk_r : Bool → Option Bool := (fun (y0 : Bool) => some y0)
def spec_RaftOk_ls : Nat → ((RaftT) → Int → Option Bool)
  | 0 => (fun _ _ => none)
  | n + 1 => spec_RaftOk_b10 (spec_RaftOk_ls n) spec_RaftOk_r
abbrev spec_RaftOk_l10 (n : Nat) : (RaftT) → Int → Option Bool := (spec_RaftOk_ls n)
noncomputable def spec_RaftOk_d (a0 : RaftT) : Option Bool := lim fun n => spec_RaftOk_be (spec_RaftOk_l10 n) spec_RaftOk_r a0
noncomputable def spec_RaftOk : (RaftT) → Option Bool := shut spec_RaftOk_d
theorem spec_RaftOk_def (a0 : RaftT) : spec_RaftOk a0 = spec_RaftOk_d a0 := congrFun (shut_eq _) a0
theorem spec_RaftOk_ok' : ∀ (a0 : RaftT) (y : Bool), spec_RaftOk a0 = some y → ∃ n, spec_RaftOk_be (spec_RaftOk_l10 n) spec_RaftOk_r a0 = some y := fun a0 y h => lim_some ((spec_RaftOk_def a0).symm.trans h)
noncomputable def con_spec_RaftOk : Con := ⟨[(.val (.c (.pair (.int .i64) (.pair (.int .i64) (.pair (.int .i64) (.pair (.int .i64) (.pair (.pair (.int .i64) (.pair (.int .i64) (.ro (.pair (.int .i64) (.pair (.int .i64) (.pair (.int .i64) (.pair (.int .i64) (.pair (.int .i64) .str)))))))) (.pair (.ro (.int .i64)) (.pair (.ro (.int .i64)) (.ro (.int .i64))))))))) true))], [(.c .bool false)], fun (x : RaftT) => spec_RaftOk x⟩
abbrev spec_RaftOk_fs (n : Nat) : List (Nat × LabK (VKs (con_spec_RaftOk.rs ++ outs con_spec_RaftOk.ps))) := [(10, ⟨spec_RaftOk_L10, fun (x : (RaftT) × Int) => spec_RaftOk_l10 n x.1 x.2⟩)]
theorem ent_spec_RaftOk : Enters Go.Proofs.Tryz.prog 18 := enters_of Go.Proofs.Tryz.func18 (c := spec_RaftOk_body) (by kernel_rfl) (by kernel_rfl)
theorem hold_spec_RaftOk : Holds Go.Proofs.Tryz.prog 18 con_spec_RaftOk :=
  holds_of (E := spec_RaftOk_env) (con := con_spec_RaftOk) (fn := Go.Proofs.Tryz.f18) (body := spec_RaftOk_body) (ids := [10]) (Rsrc := [(.slot 2)]) (fs := spec_RaftOk_fs) prog_mixed (cs_of (E := spec_RaftOk_env) ⟨⟨ent_spec_l7Of, hold_spec_l7Of⟩, ⟨ent_spec_l1In, hold_spec_l1In⟩, ⟨ent_spec_HardOk, hold_spec_HardOk⟩, ⟨ent_spec_l10End, hold_spec_l10End⟩, ⟨ent_spec_l7Nodes, hold_spec_l7Nodes⟩, ⟨ent_spec_l7Has, hold_spec_l7Has⟩, trivial⟩) (tabOk_of (E := spec_RaftOk_env) tab_ok) Go.Proofs.Tryz.func18 (by kernel_rfl) (by kernel_rfl) (by kernel_rfl)
    ⟨(fun _ => rfl), trivial⟩ (fun n => ⟨(fun x => (spec_RaftOk_s10 (spec_RaftOk_l10 n) spec_RaftOk_r x).symm), trivial⟩)
    (fun x y h => by
      obtain ⟨n, hn⟩ := spec_RaftOk_ok' x y h
      exact ⟨n, (spec_RaftOk_se (spec_RaftOk_l10 n) spec_RaftOk_r x).trans hn⟩)
end
end Go.TM


/- Functions of the program, as pure functions, and that they are so. -/
set_option linter.unusedVariables false
set_option linter.unusedSimpArgs false
set_option maxRecDepth 100000
namespace Go.TM
open Go
noncomputable section
/-! 74 loop.example/g00106/spec.l6Copy -/
noncomputable def spec_l6Copy_body : Code := (Go.Proofs.Tryz.f74.body).getD .skip
noncomputable def spec_l6Copy_env : Env := { types := tab, cons := [] }
abbrev spec_l6Copy_E : Lab := ⟨[(.c (.pair (.int .i64) (.pair (.int .i64) (.ro (.pair (.int .i64) (.pair (.int .i64) (.pair (.int .i64) (.pair (.int .i64) (.pair (.int .i64) .str)))))))) true)], [(.slot 0)], []⟩
abbrev spec_l6Copy_R : Lab := ⟨[(.c (.pair (.int .i64) (.pair (.int .i64) (.own (.pair (.int .i64) (.pair (.int .i64) (.pair (.int .i64) (.pair (.int .i64) (.pair (.int .i64) .str)))))))) true)], [(.cell 2)], []⟩
def spec_l6Copy_be {ρ : Type}  (r : (HardT) → Option ρ) (a0 : HardT) : Option ρ := bif decide ((([] : List (EntT)).length + a0.2.2.length) * 56 ≤ 140737488355328) then (r (a0.1, a0.2.1, ([] : List (EntT)) ++ a0.2.2)) else (none)
theorem spec_l6Copy_se {ρ : Type}  (r : (HardT) → Option ρ) (x : HardT) : stretch spec_l6Copy_env [] [] ⟨spec_l6Copy_R, fun (x : HardT) => r x⟩ false [.code spec_l6Copy_body] spec_l6Copy_E x = spec_l6Copy_be  r x := by kernel_rfl
abbrev spec_l6Copy_r : (HardT) → Option (HardT) := (fun (y0 : HardT) => some y0)
noncomputable def spec_l6Copy_d (a0 : HardT) : Option (HardT) := spec_l6Copy_be spec_l6Copy_r a0
noncomputable def spec_l6Copy : (HardT) → Option (HardT) := shut spec_l6Copy_d
theorem spec_l6Copy_def (a0 : HardT) : spec_l6Copy a0 = spec_l6Copy_d a0 := congrFun (shut_eq _) a0
noncomputable def con_spec_l6Copy : Con := ⟨[(.val (.c (.pair (.int .i64) (.pair (.int .i64) (.ro (.pair (.int .i64) (.pair (.int .i64) (.pair (.int .i64) (.pair (.int .i64) (.pair (.int .i64) .str)))))))) true))], [(.c (.pair (.int .i64) (.pair (.int .i64) (.own (.pair (.int .i64) (.pair (.int .i64) (.pair (.int .i64) (.pair (.int .i64) (.pair (.int .i64) .str)))))))) true)], fun (x : HardT) => spec_l6Copy x⟩
abbrev spec_l6Copy_fs (n : Nat) : List (Nat × LabK (VKs (con_spec_l6Copy.rs ++ outs con_spec_l6Copy.ps))) := []
theorem ent_spec_l6Copy : Enters Go.Proofs.Tryz.prog 74 := enters_of Go.Proofs.Tryz.func74 (c := spec_l6Copy_body) (by kernel_rfl) (by kernel_rfl)
theorem hold_spec_l6Copy : Holds Go.Proofs.Tryz.prog 74 con_spec_l6Copy :=
  holds_of (E := spec_l6Copy_env) (con := con_spec_l6Copy) (fn := Go.Proofs.Tryz.f74) (body := spec_l6Copy_body) (ids := []) (Rsrc := [(.cell 2)]) (fs := spec_l6Copy_fs) prog_mixed (cs_of (E := spec_l6Copy_env) trivial) (tabOk_of (E := spec_l6Copy_env) tab_ok) Go.Proofs.Tryz.func74 (by kernel_rfl) (by kernel_rfl) (by kernel_rfl)
    trivial (fun n => trivial)
    (fun x y h => ⟨0, (spec_l6Copy_se spec_l6Copy_r x).trans ((spec_l6Copy_def x).symm.trans h)⟩)
/-! 160 loop.example/g00106/spec.l10Copy -/
noncomputable def spec_l10Copy_body : Code := (Go.Proofs.Tryz.f160.body).getD .skip
noncomputable def spec_l10Copy_env : Env := { types := tab, cons := [(74, con_spec_l6Copy)] }
abbrev spec_l10Copy_E : Lab := ⟨[(.c (.pair (.int .i64) (.pair (.int .i64) (.pair (.int .i64) (.pair (.int .i64) (.pair (.pair (.int .i64) (.pair (.int .i64) (.ro (.pair (.int .i64) (.pair (.int .i64) (.pair (.int .i64) (.pair (.int .i64) (.pair (.int .i64) .str)))))))) (.pair (.ro (.int .i64)) (.pair (.ro (.int .i64)) (.ro (.int .i64))))))))) true)], [(.slot 0)], []⟩
abbrev spec_l10Copy_R : Lab := ⟨[(.c (.pair (.int .i64) (.pair (.int .i64) (.pair (.int .i64) (.pair (.int .i64) (.pair (.pair (.int .i64) (.pair (.int .i64) (.own (.pair (.int .i64) (.pair (.int .i64) (.pair (.int .i64) (.pair (.int .i64) (.pair (.int .i64) .str)))))))) (.pair (.own (.int .i64)) (.pair (.own (.int .i64)) (.own (.int .i64))))))))) true)], [(.cell 2)], []⟩
def spec_l10Copy_be {ρ : Type}  (r : (RaftT) → Option ρ) (a0 : RaftT) : Option ρ := (spec_l6Copy a0.2.2.2.2.1).bind fun t1 => bif decide ((([] : List Int).length + a0.2.2.2.2.2.1.length) * 8 ≤ 140737488355328) then (bif decide ((([] : List Int).length + a0.2.2.2.2.2.2.1.length) * 8 ≤ 140737488355328) then (bif decide ((([] : List Int).length + a0.2.2.2.2.2.2.2.length) * 8 ≤ 140737488355328) then (r (a0.1, a0.2.1, a0.2.2.1, a0.2.2.2.1, t1, (([] : List Int) ++ a0.2.2.2.2.2.1, (([] : List Int) ++ a0.2.2.2.2.2.2.1, ([] : List Int) ++ a0.2.2.2.2.2.2.2)))) else (none)) else (none)) else (none)
theorem spec_l10Copy_se {ρ : Type}  (r : (RaftT) → Option ρ) (x : RaftT) : stretch spec_l10Copy_env [] [] ⟨spec_l10Copy_R, fun (x : RaftT) => r x⟩ false [.code spec_l10Copy_body] spec_l10Copy_E x = spec_l10Copy_be  r x := by kernel_rfl
abbrev spec_l10Copy_r : (RaftT) → Option (RaftT) := (fun (y0 : RaftT) => some y0)
noncomputable def spec_l10Copy_d (a0 : RaftT) : Option (RaftT) := spec_l10Copy_be spec_l10Copy_r a0
noncomputable def spec_l10Copy : (RaftT) → Option (RaftT) := shut spec_l10Copy_d
theorem spec_l10Copy_def (a0 : RaftT) : spec_l10Copy a0 = spec_l10Copy_d a0 := congrFun (shut_eq _) a0
noncomputable def con_spec_l10Copy : Con := ⟨[(.val (.c (.pair (.int .i64) (.pair (.int .i64) (.pair (.int .i64) (.pair (.int .i64) (.pair (.pair (.int .i64) (.pair (.int .i64) (.ro (.pair (.int .i64) (.pair (.int .i64) (.pair (.int .i64) (.pair (.int .i64) (.pair (.int .i64) .str)))))))) (.pair (.ro (.int .i64)) (.pair (.ro (.int .i64)) (.ro (.int .i64))))))))) true))], [(.c (.pair (.int .i64) (.pair (.int .i64) (.pair (.int .i64) (.pair (.int .i64) (.pair (.pair (.int .i64) (.pair (.int .i64) (.own (.pair (.int .i64) (.pair (.int .i64) (.pair (.int .i64) (.pair (.int .i64) (.pair (.int .i64) .str)))))))) (.pair (.own (.int .i64)) (.pair (.own (.int .i64)) (.own (.int .i64))))))))) true)], fun (x : RaftT) => spec_l10Copy x⟩
abbrev spec_l10Copy_fs (n : Nat) : List (Nat × LabK (VKs (con_spec_l10Copy.rs ++ outs con_spec_l10Copy.ps))) := []
theorem ent_spec_l10Copy : Enters Go.Proofs.Tryz.prog 160 := enters_of Go.Proofs.Tryz.func160 (c := spec_l10Copy_body) (by kernel_rfl) (by kernel_rfl)
theorem hold_spec_l10Copy : Holds Go.Proofs.Tryz.prog 160 con_spec_l10Copy :=
  holds_of (E := spec_l10Copy_env) (con := con_spec_l10Copy) (fn := Go.Proofs.Tryz.f160) (body := spec_l10Copy_body) (ids := []) (Rsrc := [(.cell 2)]) (fs := spec_l10Copy_fs) prog_mixed (cs_of (E := spec_l10Copy_env) ⟨⟨ent_spec_l6Copy, hold_spec_l6Copy⟩, trivial⟩) (tabOk_of (E := spec_l10Copy_env) tab_ok) Go.Proofs.Tryz.func160 (by kernel_rfl) (by kernel_rfl) (by kernel_rfl)
    trivial (fun n => trivial)
    (fun x y h => ⟨0, (spec_l10Copy_se spec_l10Copy_r x).trans ((spec_l10Copy_def x).symm.trans h)⟩)
/-! 97 loop.example/g00106/spec.l10Same -/
noncomputable def spec_l10Same_body : Code := (Go.Proofs.Tryz.f97.body).getD .skip
noncomputable def spec_l10Same_env : Env := { types := tab, cons := [(18, con_spec_RaftOk), (160, con_spec_l10Copy)] }
abbrev spec_l10Same_E : Lab := ⟨[(.c (.pair (.int .i64) (.pair (.int .i64) (.pair (.int .i64) (.pair (.int .i64) (.pair (.pair (.int .i64) (.pair (.int .i64) (.ro (.pair (.int .i64) (.pair (.int .i64) (.pair (.int .i64) (.pair (.int .i64) (.pair (.int .i64) .str)))))))) (.pair (.ro (.int .i64)) (.pair (.ro (.int .i64)) (.ro (.int .i64))))))))) true)], [(.slot 0)], []⟩
abbrev spec_l10Same_R : Lab := ⟨[(.c (.pair (.int .i64) (.pair (.int .i64) (.pair (.int .i64) (.pair (.int .i64) (.pair (.pair (.int .i64) (.pair (.int .i64) (.own (.pair (.int .i64) (.pair (.int .i64) (.pair (.int .i64) (.pair (.int .i64) (.pair (.int .i64) .str)))))))) (.pair (.own (.int .i64)) (.pair (.own (.int .i64)) (.own (.int .i64))))))))) true)], [(.cell 2)], []⟩
def spec_l10Same_be {ρ : Type}  (r : (RaftT) → Option ρ) (a0 : RaftT) : Option ρ := (spec_RaftOk a0).bind fun t1 => bif !t1 then (r (0, 0, 0, 0, ((0, 0, ([] : List (EntT))), (([] : List Int), (([] : List Int), ([] : List Int)))))) else ((spec_l10Copy a0).bind fun t2 => r t2)
theorem spec_l10Same_se {ρ : Type}  (r : (RaftT) → Option ρ) (x : RaftT) : stretch spec_l10Same_env [] [] ⟨spec_l10Same_R, fun (x : RaftT) => r x⟩ false [.code spec_l10Same_body] spec_l10Same_E x = spec_l10Same_be  r x := by kernel_rfl
abbrev spec_l10Same_r : (RaftT) → Option (RaftT) := (fun (y0 : RaftT) => some y0)
noncomputable def spec_l10Same_d (a0 : RaftT) : Option (RaftT) := spec_l10Same_be spec_l10Same_r a0
noncomputable def spec_l10Same : (RaftT) → Option (RaftT) := shut spec_l10Same_d
theorem spec_l10Same_def (a0 : RaftT) : spec_l10Same a0 = spec_l10Same_d a0 := congrFun (shut_eq _) a0
noncomputable def con_spec_l10Same : Con := ⟨[(.val (.c (.pair (.int .i64) (.pair (.int .i64) (.pair (.int .i64) (.pair (.int .i64) (.pair (.pair (.int .i64) (.pair (.int .i64) (.ro (.pair (.int .i64) (.pair (.int .i64) (.pair (.int .i64) (.pair (.int .i64) (.pair (.int .i64) .str)))))))) (.pair (.ro (.int .i64)) (.pair (.ro (.int .i64)) (.ro (.int .i64))))))))) true))], [(.c (.pair (.int .i64) (.pair (.int .i64) (.pair (.int .i64) (.pair (.int .i64) (.pair (.pair (.int .i64) (.pair (.int .i64) (.own (.pair (.int .i64) (.pair (.int .i64) (.pair (.int .i64) (.pair (.int .i64) (.pair (.int .i64) .str)))))))) (.pair (.own (.int .i64)) (.pair (.own (.int .i64)) (.own (.int .i64))))))))) true)], fun (x : RaftT) => spec_l10Same x⟩
abbrev spec_l10Same_fs (n : Nat) : List (Nat × LabK (VKs (con_spec_l10Same.rs ++ outs con_spec_l10Same.ps))) := []
theorem ent_spec_l10Same : Enters Go.Proofs.Tryz.prog 97 := enters_of Go.Proofs.Tryz.func97 (c := spec_l10Same_body) (by kernel_rfl) (by kernel_rfl)
theorem hold_spec_l10Same : Holds Go.Proofs.Tryz.prog 97 con_spec_l10Same :=
  holds_of (E := spec_l10Same_env) (con := con_spec_l10Same) (fn := Go.Proofs.Tryz.f97) (body := spec_l10Same_body) (ids := []) (Rsrc := [(.cell 2)]) (fs := spec_l10Same_fs) prog_mixed (cs_of (E := spec_l10Same_env) ⟨⟨ent_spec_RaftOk, hold_spec_RaftOk⟩, ⟨ent_spec_l10Copy, hold_spec_l10Copy⟩, trivial⟩) (tabOk_of (E := spec_l10Same_env) tab_ok) Go.Proofs.Tryz.func97 (by kernel_rfl) (by kernel_rfl) (by kernel_rfl)
    trivial (fun n => trivial)
    (fun x y h => ⟨0, (spec_l10Same_se spec_l10Same_r x).trans ((spec_l10Same_def x).symm.trans h)⟩)
/-! 98 loop.example/g00106/spec.l10Vote -/
noncomputable def spec_l10Vote_body : Code := (Go.Proofs.Tryz.f98.body).getD .skip
noncomputable def spec_l10Vote_env : Env := { types := tab, cons := [] }
abbrev spec_l10Vote_E : Lab := ⟨[(.c (.pair (.int .i64) (.pair (.int .i64) (.pair (.int .i64) (.pair (.int .i64) (.pair (.pair (.int .i64) (.pair (.int .i64) (.ro (.pair (.int .i64) (.pair (.int .i64) (.pair (.int .i64) (.pair (.int .i64) (.pair (.int .i64) .str)))))))) (.pair (.ro (.int .i64)) (.pair (.ro (.int .i64)) (.ro (.int .i64))))))))) true)], [(.slot 0)], []⟩
abbrev spec_l10Vote_R : Lab := ⟨[(.c (.pair (.int .i64) (.pair (.int .i64) (.pair (.int .i64) (.pair (.int .i64) (.pair (.int .i64) (.pair (.int .i64) (.pair (.int .i64) (.pair (.int .i64) (.pair (.int .i64) .str))))))))) true)], [(.cell 2)], []⟩
def spec_l10Vote_be {ρ : Type}  (r : (RecT) → Option ρ) (a0 : RaftT) : Option ρ := r (1, a0.2.2.2.2.1.1, a0.2.2.2.2.1.2.1, 0, 0, 0, 0, 0, 0, ⟨#[]⟩)
theorem spec_l10Vote_se {ρ : Type}  (r : (RecT) → Option ρ) (x : RaftT) : stretch spec_l10Vote_env [] [] ⟨spec_l10Vote_R, fun (x : RecT) => r x⟩ false [.code spec_l10Vote_body] spec_l10Vote_E x = spec_l10Vote_be  r x := by kernel_rfl
abbrev spec_l10Vote_r : (RecT) → Option (RecT) := (fun (y0 : RecT) => some y0)
noncomputable def spec_l10Vote_d (a0 : RaftT) : Option (RecT) := spec_l10Vote_be spec_l10Vote_r a0
noncomputable def spec_l10Vote : (RaftT) → Option (RecT) := shut spec_l10Vote_d
theorem spec_l10Vote_def (a0 : RaftT) : spec_l10Vote a0 = spec_l10Vote_d a0 := congrFun (shut_eq _) a0
noncomputable def con_spec_l10Vote : Con := ⟨[(.val (.c (.pair (.int .i64) (.pair (.int .i64) (.pair (.int .i64) (.pair (.int .i64) (.pair (.pair (.int .i64) (.pair (.int .i64) (.ro (.pair (.int .i64) (.pair (.int .i64) (.pair (.int .i64) (.pair (.int .i64) (.pair (.int .i64) .str)))))))) (.pair (.ro (.int .i64)) (.pair (.ro (.int .i64)) (.ro (.int .i64))))))))) true))], [(.c (.pair (.int .i64) (.pair (.int .i64) (.pair (.int .i64) (.pair (.int .i64) (.pair (.int .i64) (.pair (.int .i64) (.pair (.int .i64) (.pair (.int .i64) (.pair (.int .i64) .str))))))))) true)], fun (x : RaftT) => spec_l10Vote x⟩
abbrev spec_l10Vote_fs (n : Nat) : List (Nat × LabK (VKs (con_spec_l10Vote.rs ++ outs con_spec_l10Vote.ps))) := []
theorem ent_spec_l10Vote : Enters Go.Proofs.Tryz.prog 98 := enters_of Go.Proofs.Tryz.func98 (c := spec_l10Vote_body) (by kernel_rfl) (by kernel_rfl)
theorem hold_spec_l10Vote : Holds Go.Proofs.Tryz.prog 98 con_spec_l10Vote :=
  holds_of (E := spec_l10Vote_env) (con := con_spec_l10Vote) (fn := Go.Proofs.Tryz.f98) (body := spec_l10Vote_body) (ids := []) (Rsrc := [(.cell 2)]) (fs := spec_l10Vote_fs) prog_mixed (cs_of (E := spec_l10Vote_env) trivial) (tabOk_of (E := spec_l10Vote_env) tab_ok) Go.Proofs.Tryz.func98 (by kernel_rfl) (by kernel_rfl) (by kernel_rfl)
    trivial (fun n => trivial)
    (fun x y h => ⟨0, (spec_l10Vote_se spec_l10Vote_r x).trans ((spec_l10Vote_def x).symm.trans h)⟩)
/-! 171 loop.example/g00106/spec.l8Has -/
noncomputable def spec_l8Has_body : Code := (Go.Proofs.Tryz.f171.body).getD .skip
noncomputable def spec_l8Has_env : Env := { types := tab, cons := [(63, con_spec_l1In)] }
abbrev spec_l8Has_E : Lab := ⟨[(.c (.int .i64) false)], [(.slot 0)], []⟩
abbrev spec_l8Has_R : Lab := ⟨[(.c .str false)], [(.slot 2)], []⟩
def spec_l8Has_be {ρ : Type}  (r : ByteArray → Option ρ) (a0 : Int) : Option ρ := (spec_l1In a0 1 7).bind fun t1 => bif !t1 then (r ⟨#[]⟩) else (bif decide (0 ≤ a0) && decide (a0 < (([⟨#[]⟩, ⟨#[102, 116, 97, 115]⟩, ⟨#[102, 116, 121]⟩, ⟨#[102, 116, 97, 115, 99, 101]⟩, ⟨#[102, 116, 121, 97]⟩, ⟨#[102, 114, 112]⟩, ⟨#[102, 114, 112, 98]⟩, ⟨#[102, 100]⟩] : List ByteArray).length : Int)) then ((idx ([⟨#[]⟩, ⟨#[102, 116, 97, 115]⟩, ⟨#[102, 116, 121]⟩, ⟨#[102, 116, 97, 115, 99, 101]⟩, ⟨#[102, 116, 121, 97]⟩, ⟨#[102, 114, 112]⟩, ⟨#[102, 114, 112, 98]⟩, ⟨#[102, 100]⟩] : List ByteArray) a0).bind fun v2 => r v2) else (none))
theorem spec_l8Has_se {ρ : Type}  (r : ByteArray → Option ρ) (x : Int) : stretch spec_l8Has_env [] [] ⟨spec_l8Has_R, fun (x : ByteArray) => r x⟩ false [.code spec_l8Has_body] spec_l8Has_E x = spec_l8Has_be  r x := by kernel_rfl
abbrev spec_l8Has_r : ByteArray → Option ByteArray := (fun (y0 : ByteArray) => some y0)
noncomputable def spec_l8Has_d (a0 : Int) : Option ByteArray := spec_l8Has_be spec_l8Has_r a0
noncomputable def spec_l8Has : Int → Option ByteArray := shut spec_l8Has_d
theorem spec_l8Has_def (a0 : Int) : spec_l8Has a0 = spec_l8Has_d a0 := congrFun (shut_eq _) a0
noncomputable def con_spec_l8Has : Con := ⟨[(.val (.c (.int .i64) false))], [(.c .str false)], fun (x : Int) => spec_l8Has x⟩
abbrev spec_l8Has_fs (n : Nat) : List (Nat × LabK (VKs (con_spec_l8Has.rs ++ outs con_spec_l8Has.ps))) := []
theorem ent_spec_l8Has : Enters Go.Proofs.Tryz.prog 171 := enters_of Go.Proofs.Tryz.func171 (c := spec_l8Has_body) (by kernel_rfl) (by kernel_rfl)
theorem hold_spec_l8Has : Holds Go.Proofs.Tryz.prog 171 con_spec_l8Has :=
  holds_of (E := spec_l8Has_env) (con := con_spec_l8Has) (fn := Go.Proofs.Tryz.f171) (body := spec_l8Has_body) (ids := []) (Rsrc := [(.slot 2)]) (fs := spec_l8Has_fs) prog_mixed (cs_of (E := spec_l8Has_env) ⟨⟨ent_spec_l1In, hold_spec_l1In⟩, trivial⟩) (tabOk_of (E := spec_l8Has_env) tab_ok) Go.Proofs.Tryz.func171 (by kernel_rfl) (by kernel_rfl) (by kernel_rfl)
    trivial (fun n => trivial)
    (fun x y h => ⟨0, (spec_l8Has_se spec_l8Has_r x).trans ((spec_l8Has_def x).symm.trans h)⟩)
/-! 178 loop.example/g00106/spec.l8Num -/
noncomputable def spec_l8Num_body : Code := (Go.Proofs.Tryz.f178.body).getD .skip
noncomputable def spec_l8Num_env : Env := { types := tab, cons := [(63, con_spec_l1In)] }
abbrev spec_l8Num_E : Lab := ⟨[(.c .bool false), (.c (.int .i64) false), (.c (.int .i64) false), (.c (.int .i64) false)], [(.slot 0), (.slot 1), (.slot 2), (.slot 3)], []⟩
abbrev spec_l8Num_R : Lab := ⟨[(.c .bool false)], [(.slot 8)], []⟩
def spec_l8Num_be {ρ : Type}  (r : Bool → Option ρ) (a0 : Bool) (a1 : Int) (a2 : Int) (a3 : Int) : Option ρ := bif a0 then ((spec_l1In a1 a2 a3).bind fun t1 => bif t1 then (r true) else (bif !a0 then (r (decide (a1 = 0))) else (r false))) else (bif !a0 then (r (decide (a1 = 0))) else (r false))
theorem spec_l8Num_se {ρ : Type}  (r : Bool → Option ρ) (x : Bool × Int × Int × Int) : stretch spec_l8Num_env [] [] ⟨spec_l8Num_R, fun (x : Bool) => r x⟩ false [.code spec_l8Num_body] spec_l8Num_E x = spec_l8Num_be  r x.1 x.2.1 x.2.2.1 x.2.2.2 := by kernel_rfl
abbrev spec_l8Num_r : Bool → Option Bool := (fun (y0 : Bool) => some y0)
noncomputable def spec_l8Num_d (a0 : Bool) (a1 : Int) (a2 : Int) (a3 : Int) : Option Bool := spec_l8Num_be spec_l8Num_r a0 a1 a2 a3
noncomputable def spec_l8Num : Bool → Int → Int → Int → Option Bool := shut spec_l8Num_d
theorem spec_l8Num_def (a0 : Bool) (a1 : Int) (a2 : Int) (a3 : Int) : spec_l8Num a0 a1 a2 a3 = spec_l8Num_d a0 a1 a2 a3 := congrFun (congrFun (congrFun (congrFun (shut_eq _) a0) a1) a2) a3
noncomputable def con_spec_l8Num : Con := ⟨[(.val (.c .bool false)), (.val (.c (.int .i64) false)), (.val (.c (.int .i64) false)), (.val (.c (.int .i64) false))], [(.c .bool false)], fun (x : Bool × Int × Int × Int) => spec_l8Num x.1 x.2.1 x.2.2.1 x.2.2.2⟩
abbrev spec_l8Num_fs (n : Nat) : List (Nat × LabK (VKs (con_spec_l8Num.rs ++ outs con_spec_l8Num.ps))) := []
theorem ent_spec_l8Num : Enters Go.Proofs.Tryz.prog 178 := enters_of Go.Proofs.Tryz.func178 (c := spec_l8Num_body) (by kernel_rfl) (by kernel_rfl)
theorem hold_spec_l8Num : Holds Go.Proofs.Tryz.prog 178 con_spec_l8Num :=
  holds_of (E := spec_l8Num_env) (con := con_spec_l8Num) (fn := Go.Proofs.Tryz.f178) (body := spec_l8Num_body) (ids := []) (Rsrc := [(.slot 8)]) (fs := spec_l8Num_fs) prog_mixed (cs_of (E := spec_l8Num_env) ⟨⟨ent_spec_l1In, hold_spec_l1In⟩, trivial⟩) (tabOk_of (E := spec_l8Num_env) tab_ok) Go.Proofs.Tryz.func178 (by kernel_rfl) (by kernel_rfl) (by kernel_rfl)
    trivial (fun n => trivial)
    (fun x y h => ⟨0, (spec_l8Num_se spec_l8Num_r x).trans ((spec_l8Num_def x.1 x.2.1 x.2.2.1 x.2.2.2).symm.trans h)⟩)
/-! 179 loop.example/g00106/spec.l8In -/
noncomputable def spec_l8In_body : Code := (Go.Proofs.Tryz.f179.body).getD .skip
noncomputable def spec_l8In_env : Env := { types := tab, cons := [] }
abbrev spec_l8In_L2 : Lab := ⟨[(.c .str false), (.c (.int .u8) false), (.c (.int .i64) false)], [(.slot 0), (.slot 1), (.slot 5)], []⟩
abbrev spec_l8In_E : Lab := ⟨[(.c .str false), (.c (.int .u8) false)], [(.slot 0), (.slot 1)], []⟩
abbrev spec_l8In_R : Lab := ⟨[(.c .bool false)], [(.slot 4)], []⟩
def spec_l8In_b2 {ρ : Type} (l2 : ByteArray → Int → Int → Option ρ) (r : Bool → Option ρ) (x0 : ByteArray) (x1 : Int) (x5 : Int) : Option ρ := bif decide (x5 < (x0.size : Int)) then ((byteAt x0 x5).bind fun v1 => bif decide (v1 = x1) then (r true) else (l2 x0 x1 (wr .i64 (x5 + 1)))) else (r false)
def spec_l8In_be {ρ : Type} (l2 : ByteArray → Int → Int → Option ρ) (r : Bool → Option ρ) (a0 : ByteArray) (a1 : Int) : Option ρ := l2 a0 a1 0
theorem spec_l8In_s2 {ρ : Type} (l2 : ByteArray → Int → Int → Option ρ) (r : Bool → Option ρ) (x : ByteArray × Int × Int) : stretch spec_l8In_env [2] [(2, ⟨spec_l8In_L2, fun (x : ByteArray × Int × Int) => l2 x.1 x.2.1 x.2.2⟩)] ⟨spec_l8In_R, fun (x : Bool) => r x⟩ true ((seek 2 spec_l8In_body []).getD []) spec_l8In_L2 x = spec_l8In_b2 l2 r x.1 x.2.1 x.2.2 := by kernel_rfl
theorem spec_l8In_se {ρ : Type} (l2 : ByteArray → Int → Int → Option ρ) (r : Bool → Option ρ) (x : ByteArray × Int) : stretch spec_l8In_env [2] [(2, ⟨spec_l8In_L2, fun (x : ByteArray × Int × Int) => l2 x.1 x.2.1 x.2.2⟩)] ⟨spec_l8In_R, fun (x : Bool) => r x⟩ false [.code spec_l8In_body] spec_l8In_E x = spec_l8In_be l2 r x.1 x.2 := by kernel_rfl
abbrev spec_l8In_r : Bool → Option Bool := (fun (y0 : Bool) => some y0)
def spec_l8In_ls : Nat → (ByteArray → Int → Int → Option Bool)
  | 0 => (fun _ _ _ => none)
  | n + 1 => spec_l8In_b2 (spec_l8In_ls n) spec_l8In_r
abbrev spec_l8In_l2 (n : Nat) : ByteArray → Int → Int → Option Bool := (spec_l8In_ls n)
def spec_l8In_G (x1 : Int) (v1 : Int)  : Option (Unit ⊕ Bool) := bif decide (v1 = x1) then (some (.inr true)) else (some (.inl ()))
def spec_l8In_fin  : Option Bool := some false
def spec_l8In_c (x0 : ByteArray) (x1 : Int) (x5 : Int) : Option Bool := bif lok (toBytes x0) && decide (x5 = 0) then foldE (fun v (s : Unit) => spec_l8In_G x1 v ) (fun (s : Unit) => spec_l8In_fin  ) (toBytes x0) () else none
theorem spec_l8In_c_ok (x0 : ByteArray) (x1 : Int) (x5 : Int) (y : Bool) (h : spec_l8In_c x0 x1 x5 = some y) : ∃ n, spec_l8In_l2 n x0 x1 x5 = some y := by
  obtain ⟨hg, h2⟩ := cond_some h
  simp only [Bool.and_eq_true, lok_iff, decide_eq_true_eq] at hg
  obtain ⟨hl, rfl⟩ := hg
  exact foldE_ok (toBytes x0) hl (fun n i (s : Unit) => spec_l8In_l2 n x0 x1 i) (fun v (s : Unit) => spec_l8In_G x1 v ) (fun (s : Unit) => spec_l8In_fin  )
    (fun n s => by rw [toBytes_length]; simp only [spec_l8In_ls, spec_l8In_b2, spec_l8In_r, spec_l8In_fin, Int.lt_irrefl, decide_false, cond_false, cond_bind, bind_bind', some_bind', none_bind'])
    (fun n i v s h1 hi hw => by rw [toBytes_length] at h1; rw [← byteAt_idx] at hi; simp only [spec_l8In_ls, spec_l8In_b2, spec_l8In_r, spec_l8In_G, h1, hi, hw, decide_true, cond_true, cond_bind, bind_bind', some_bind', none_bind', sm_inl, sm_inr]) _ y h2
def spec_l8In_d (a0 : ByteArray) (a1 : Int) : Option Bool := spec_l8In_be spec_l8In_c spec_l8In_r a0 a1
theorem spec_l8In_ok (a0 : ByteArray) (a1 : Int) (y : Bool) (h : spec_l8In_d a0 a1 = some y) : ∃ n, spec_l8In_be (spec_l8In_l2 n) spec_l8In_r a0 a1 = some y := by
  have e : ∀ l, spec_l8In_be l spec_l8In_r a0 a1 = (spec_l8In_be (ρ := (ByteArray × Int × Int) ⊕ Bool) (fun x0 x1 x5 => some (.inl (x0, x1, x5))) (fun y0 => some (.inr y0)) a0 a1).bind (sm fun a => l a.1 a.2.1 a.2.2) := by
    intro l
    simp only [spec_l8In_be, spec_l8In_r, cond_bind, bind_bind', some_bind', none_bind', sm_inl, sm_inr]
  unfold spec_l8In_d at h
  rw [e] at h
  obtain ⟨n, hn⟩ := be_ok _ (fun (a : ByteArray × Int × Int) => spec_l8In_c a.1 a.2.1 a.2.2) (fun n (a : ByteArray × Int × Int) => spec_l8In_l2 n a.1 a.2.1 a.2.2) (fun a y h => spec_l8In_c_ok a.1 a.2.1 a.2.2 y h) y h
  exact ⟨n, by rw [e]; exact hn⟩
noncomputable def spec_l8In : ByteArray → Int → Option Bool := shut spec_l8In_d
theorem spec_l8In_def (a0 : ByteArray) (a1 : Int) : spec_l8In a0 a1 = spec_l8In_d a0 a1 := congrFun (congrFun (shut_eq _) a0) a1
theorem spec_l8In_ok' : ∀ (a0 : ByteArray) (a1 : Int) (y : Bool), spec_l8In a0 a1 = some y → ∃ n, spec_l8In_be (spec_l8In_l2 n) spec_l8In_r a0 a1 = some y := fun a0 a1 y h => spec_l8In_ok a0 a1 y ((spec_l8In_def a0 a1).symm.trans h)
noncomputable def con_spec_l8In : Con := ⟨[(.val (.c .str false)), (.val (.c (.int .u8) false))], [(.c .bool false)], fun (x : ByteArray × Int) => spec_l8In x.1 x.2⟩
abbrev spec_l8In_fs (n : Nat) : List (Nat × LabK (VKs (con_spec_l8In.rs ++ outs con_spec_l8In.ps))) := [(2, ⟨spec_l8In_L2, fun (x : ByteArray × Int × Int) => spec_l8In_l2 n x.1 x.2.1 x.2.2⟩)]
theorem ent_spec_l8In : Enters Go.Proofs.Tryz.prog 179 := enters_of Go.Proofs.Tryz.func179 (c := spec_l8In_body) (by kernel_rfl) (by kernel_rfl)
theorem hold_spec_l8In : Holds Go.Proofs.Tryz.prog 179 con_spec_l8In :=
  holds_of (E := spec_l8In_env) (con := con_spec_l8In) (fn := Go.Proofs.Tryz.f179) (body := spec_l8In_body) (ids := [2]) (Rsrc := [(.slot 4)]) (fs := spec_l8In_fs) prog_mixed (cs_of (E := spec_l8In_env) trivial) (tabOk_of (E := spec_l8In_env) tab_ok) Go.Proofs.Tryz.func179 (by kernel_rfl) (by kernel_rfl) (by kernel_rfl)
    ⟨(fun _ => rfl), trivial⟩ (fun n => ⟨(fun x => (spec_l8In_s2 (spec_l8In_l2 n) spec_l8In_r x).symm), trivial⟩)
    (fun x y h => by
      obtain ⟨n, hn⟩ := spec_l8In_ok' x.1 x.2 y h
      exact ⟨n, (spec_l8In_se (spec_l8In_l2 n) spec_l8In_r x).trans hn⟩)
/-! 163 loop.example/g00106/spec.MsgFits -/
noncomputable def spec_MsgFits_body : Code := (Go.Proofs.Tryz.f163.body).getD .skip
noncomputable def spec_MsgFits_env : Env := { types := tab, cons := [(104, con_spec_CmdOk), (149, con_spec_l6Entry), (171, con_spec_l8Has), (178, con_spec_l8Num), (179, con_spec_l8In)] }
abbrev spec_MsgFits_L10 : Lab := ⟨[(.box (.pair (.int .i64) (.pair (.int .i64) (.pair (.int .i64) (.pair (.int .i64) (.pair (.int .i64) (.pair (.int .i64) (.pair .bool (.pair (.int .i64) (.pair (.int .i64) (.pair .str (.pair (.pair (.int .i64) (.pair (.int .i64) (.pair (.int .i64) (.pair (.int .i64) .str)))) (.ro (.pair (.int .i64) (.pair (.int .i64) (.pair (.int .i64) (.pair (.int .i64) (.pair (.int .i64) .str)))))))))))))))))), (.c (.int .i64) false)], [(.slot 1), (.slot 5)], []⟩
abbrev spec_MsgFits_E : Lab := ⟨[(.c (.pair (.int .i64) (.pair (.int .i64) (.pair (.int .i64) (.pair (.int .i64) (.pair (.int .i64) (.pair (.int .i64) (.pair .bool (.pair (.int .i64) (.pair (.int .i64) (.pair .str (.pair (.pair (.int .i64) (.pair (.int .i64) (.pair (.int .i64) (.pair (.int .i64) .str)))) (.ro (.pair (.int .i64) (.pair (.int .i64) (.pair (.int .i64) (.pair (.int .i64) (.pair (.int .i64) .str))))))))))))))))) true)], [(.slot 0)], []⟩
abbrev spec_MsgFits_R : Lab := ⟨[(.c .bool false)], [(.slot 2)], []⟩
def spec_MsgFits_b10 {ρ : Type} (l10 : (MsgT) → Int → Option ρ) (r : Bool → Option ρ) (x1 : MsgT) (x5 : Int) : Option ρ := bif decide (x5 < (x1.2.2.2.2.2.2.2.2.2.2.2.length : Int)) then ((idx x1.2.2.2.2.2.2.2.2.2.2.2 x5).bind fun v43 => (spec_l6Entry v43).bind fun t44 => bif !t44 then (r false) else (l10 x1 (wr .i64 (x5 + 1)))) else (r true)
def spec_MsgFits_be {ρ : Type} (l10 : (MsgT) → Int → Option ρ) (r : Bool → Option ρ) (a0 : MsgT) : Option ρ := (spec_l8Has a0.1).bind fun t1 => bif strEq t1 ⟨#[]⟩ then (r false) else ((spec_l8In t1 102).bind fun t2 => (spec_l8Num t2 a0.2.1 0 4).bind fun t3 => bif !t3 then (r false) else ((spec_l8In t1 116).bind fun t4 => (spec_l8Num t4 a0.2.2.1 0 1000000000).bind fun t5 => bif !t5 then (r false) else ((spec_l8In t1 97).bind fun t6 => (spec_l8Num t6 a0.2.2.2.1 0 80).bind fun t7 => bif !t7 then (r false) else ((spec_l8In t1 115).bind fun t8 => (spec_l8Num t8 a0.2.2.2.2.1 0 1000000000).bind fun t9 => bif !t9 then (r false) else ((spec_l8In t1 99).bind fun t10 => (spec_l8Num t10 a0.2.2.2.2.2.1 0 80).bind fun t11 => bif !t11 then (r false) else ((spec_l8In t1 114).bind fun t12 => (spec_l8Num t12 a0.2.2.2.2.2.2.2.1 1 1000).bind fun t13 => bif !t13 then (r false) else ((spec_l8In t1 112).bind fun t14 => (spec_l8Num t14 a0.2.2.2.2.2.2.2.2.1 0 1000).bind fun t15 => bif !t15 then (r false) else (bif a0.2.2.2.2.2.2.1 then ((spec_l8In t1 121).bind fun t16 => bif !t16 then (r false) else ((spec_l8In t1 98).bind fun t17 => (spec_l8Num t17 (a0.2.2.2.2.2.2.2.2.2.1.size : Int) 1 16).bind fun t18 => bif !t18 then (r false) else ((spec_l8In t1 101).bind fun t19 => bif t19 then ((spec_l8Num true (a0.2.2.2.2.2.2.2.2.2.2.2.length : Int) 0 6).bind fun t20 => bif !t20 then (r false) else ((spec_l8In t1 100).bind fun t21 => bif t21 then ((spec_CmdOk a0.2.2.2.2.2.2.2.2.2.2.1).bind fun t22 => bif !t22 then (r false) else ((spec_l8In t1 100).bind fun t23 => bif !t23 then (bif !(decide (a0.2.2.2.2.2.2.2.2.2.2.1.1 = 0) && (decide (a0.2.2.2.2.2.2.2.2.2.2.1.2.1 = 0) && (decide (a0.2.2.2.2.2.2.2.2.2.2.1.2.2.1 = 0) && (decide (a0.2.2.2.2.2.2.2.2.2.2.1.2.2.2.1 = 0) && (strEq a0.2.2.2.2.2.2.2.2.2.2.1.2.2.2.2 ⟨#[]⟩ && true))))) then (r false) else (l10 a0 0)) else (l10 a0 0))) else ((spec_l8In t1 100).bind fun t24 => bif !t24 then (bif !(decide (a0.2.2.2.2.2.2.2.2.2.2.1.1 = 0) && (decide (a0.2.2.2.2.2.2.2.2.2.2.1.2.1 = 0) && (decide (a0.2.2.2.2.2.2.2.2.2.2.1.2.2.1 = 0) && (decide (a0.2.2.2.2.2.2.2.2.2.2.1.2.2.2.1 = 0) && (strEq a0.2.2.2.2.2.2.2.2.2.2.1.2.2.2.2 ⟨#[]⟩ && true))))) then (r false) else (l10 a0 0)) else (l10 a0 0)))) else ((spec_l8Num (decide ((a0.2.2.2.2.2.2.2.2.2.2.2.length : Int) = 0)) (a0.2.2.2.2.2.2.2.2.2.2.2.length : Int) 0 6).bind fun t25 => bif !t25 then (r false) else ((spec_l8In t1 100).bind fun t26 => bif t26 then ((spec_CmdOk a0.2.2.2.2.2.2.2.2.2.2.1).bind fun t27 => bif !t27 then (r false) else ((spec_l8In t1 100).bind fun t28 => bif !t28 then (bif !(decide (a0.2.2.2.2.2.2.2.2.2.2.1.1 = 0) && (decide (a0.2.2.2.2.2.2.2.2.2.2.1.2.1 = 0) && (decide (a0.2.2.2.2.2.2.2.2.2.2.1.2.2.1 = 0) && (decide (a0.2.2.2.2.2.2.2.2.2.2.1.2.2.2.1 = 0) && (strEq a0.2.2.2.2.2.2.2.2.2.2.1.2.2.2.2 ⟨#[]⟩ && true))))) then (r false) else (l10 a0 0)) else (l10 a0 0))) else ((spec_l8In t1 100).bind fun t29 => bif !t29 then (bif !(decide (a0.2.2.2.2.2.2.2.2.2.2.1.1 = 0) && (decide (a0.2.2.2.2.2.2.2.2.2.2.1.2.1 = 0) && (decide (a0.2.2.2.2.2.2.2.2.2.2.1.2.2.1 = 0) && (decide (a0.2.2.2.2.2.2.2.2.2.2.1.2.2.2.1 = 0) && (strEq a0.2.2.2.2.2.2.2.2.2.2.1.2.2.2.2 ⟨#[]⟩ && true))))) then (r false) else (l10 a0 0)) else (l10 a0 0))))))) else ((spec_l8In t1 98).bind fun t30 => (spec_l8Num t30 (a0.2.2.2.2.2.2.2.2.2.1.size : Int) 1 16).bind fun t31 => bif !t31 then (r false) else ((spec_l8In t1 101).bind fun t32 => bif t32 then ((spec_l8Num true (a0.2.2.2.2.2.2.2.2.2.2.2.length : Int) 0 6).bind fun t33 => bif !t33 then (r false) else ((spec_l8In t1 100).bind fun t34 => bif t34 then ((spec_CmdOk a0.2.2.2.2.2.2.2.2.2.2.1).bind fun t35 => bif !t35 then (r false) else ((spec_l8In t1 100).bind fun t36 => bif !t36 then (bif !(decide (a0.2.2.2.2.2.2.2.2.2.2.1.1 = 0) && (decide (a0.2.2.2.2.2.2.2.2.2.2.1.2.1 = 0) && (decide (a0.2.2.2.2.2.2.2.2.2.2.1.2.2.1 = 0) && (decide (a0.2.2.2.2.2.2.2.2.2.2.1.2.2.2.1 = 0) && (strEq a0.2.2.2.2.2.2.2.2.2.2.1.2.2.2.2 ⟨#[]⟩ && true))))) then (r false) else (l10 a0 0)) else (l10 a0 0))) else ((spec_l8In t1 100).bind fun t37 => bif !t37 then (bif !(decide (a0.2.2.2.2.2.2.2.2.2.2.1.1 = 0) && (decide (a0.2.2.2.2.2.2.2.2.2.2.1.2.1 = 0) && (decide (a0.2.2.2.2.2.2.2.2.2.2.1.2.2.1 = 0) && (decide (a0.2.2.2.2.2.2.2.2.2.2.1.2.2.2.1 = 0) && (strEq a0.2.2.2.2.2.2.2.2.2.2.1.2.2.2.2 ⟨#[]⟩ && true))))) then (r false) else (l10 a0 0)) else (l10 a0 0)))) else ((spec_l8Num (decide ((a0.2.2.2.2.2.2.2.2.2.2.2.length : Int) = 0)) (a0.2.2.2.2.2.2.2.2.2.2.2.length : Int) 0 6).bind fun t38 => bif !t38 then (r false) else ((spec_l8In t1 100).bind fun t39 => bif t39 then ((spec_CmdOk a0.2.2.2.2.2.2.2.2.2.2.1).bind fun t40 => bif !t40 then (r false) else ((spec_l8In t1 100).bind fun t41 => bif !t41 then (bif !(decide (a0.2.2.2.2.2.2.2.2.2.2.1.1 = 0) && (decide (a0.2.2.2.2.2.2.2.2.2.2.1.2.1 = 0) && (decide (a0.2.2.2.2.2.2.2.2.2.2.1.2.2.1 = 0) && (decide (a0.2.2.2.2.2.2.2.2.2.2.1.2.2.2.1 = 0) && (strEq a0.2.2.2.2.2.2.2.2.2.2.1.2.2.2.2 ⟨#[]⟩ && true))))) then (r false) else (l10 a0 0)) else (l10 a0 0))) else ((spec_l8In t1 100).bind fun t42 => bif !t42 then (bif !(decide (a0.2.2.2.2.2.2.2.2.2.2.1.1 = 0) && (decide (a0.2.2.2.2.2.2.2.2.2.2.1.2.1 = 0) && (decide (a0.2.2.2.2.2.2.2.2.2.2.1.2.2.1 = 0) && (decide (a0.2.2.2.2.2.2.2.2.2.2.1.2.2.2.1 = 0) && (strEq a0.2.2.2.2.2.2.2.2.2.2.1.2.2.2.2 ⟨#[]⟩ && true))))) then (r false) else (l10 a0 0)) else (l10 a0 0))))))))))))))
theorem spec_MsgFits_s10 {ρ : Type} (l10 : (MsgT) → Int → Option ρ) (r : Bool → Option ρ) (x : (MsgT) × Int) : stretch spec_MsgFits_env [10] [(10, ⟨spec_MsgFits_L10, fun (x : (MsgT) × Int) => l10 x.1 x.2⟩)] ⟨spec_MsgFits_R, fun (x : Bool) => r x⟩ true ((seek 10 spec_MsgFits_body []).getD []) spec_MsgFits_L10 x = spec_MsgFits_b10 l10 r x.1 x.2 := by kernel_rfl
theorem spec_MsgFits_se {ρ : Type} (l10 : (MsgT) → Int → Option ρ) (r : Bool → Option ρ) (x : MsgT) : stretch spec_MsgFits_env [10] [(10, ⟨spec_MsgFits_L10, fun (x : (MsgT) × Int) => l10 x.1 x.2⟩)] ⟨spec_MsgFits_R, fun (x : Bool) => r x⟩ false [.code spec_MsgFits_body] spec_MsgFits_E x = spec_MsgFits_be l10 r x := by kernel_rfl
abbrev spec_MsgFits_r : Bool → Option Bool := (fun (y0 : Bool) => some y0)
def spec_MsgFits_ls : Nat → ((MsgT) → Int → Option Bool)
  | 0 => (fun _ _ => none)
  | n + 1 => spec_MsgFits_b10 (spec_MsgFits_ls n) spec_MsgFits_r
abbrev spec_MsgFits_l10 (n : Nat) : (MsgT) → Int → Option Bool := (spec_MsgFits_ls n)
def spec_MsgFits_G  (v43 : EntT)  : Option (Unit ⊕ Bool) := (spec_l6Entry v43).bind fun t44 => bif !t44 then (some (.inr false)) else (some (.inl ()))
def spec_MsgFits_fin  : Option Bool := some true
def spec_MsgFits_c (x1 : MsgT) (x5 : Int) : Option Bool := bif lok x1.2.2.2.2.2.2.2.2.2.2.2 && decide (x5 = 0) then foldE (fun v (s : Unit) => spec_MsgFits_G  v ) (fun (s : Unit) => spec_MsgFits_fin  ) x1.2.2.2.2.2.2.2.2.2.2.2 () else none
theorem spec_MsgFits_c_ok (x1 : MsgT) (x5 : Int) (y : Bool) (h : spec_MsgFits_c x1 x5 = some y) : ∃ n, spec_MsgFits_l10 n x1 x5 = some y := by
  obtain ⟨hg, h2⟩ := cond_some h
  simp only [Bool.and_eq_true, lok_iff, decide_eq_true_eq] at hg
  obtain ⟨hl, rfl⟩ := hg
  exact foldE_ok x1.2.2.2.2.2.2.2.2.2.2.2 hl (fun n i (s : Unit) => spec_MsgFits_l10 n x1 i) (fun v (s : Unit) => spec_MsgFits_G  v ) (fun (s : Unit) => spec_MsgFits_fin  )
    (fun n s => by simp only [spec_MsgFits_ls, spec_MsgFits_b10, spec_MsgFits_r, spec_MsgFits_fin, Int.lt_irrefl, decide_false, cond_false, cond_bind, bind_bind', some_bind', none_bind'])
    (fun n i v s h1 hi hw => by simp only [spec_MsgFits_ls, spec_MsgFits_b10, spec_MsgFits_r, spec_MsgFits_G, h1, hi, hw, decide_true, cond_true, cond_bind, bind_bind', some_bind', none_bind', sm_inl, sm_inr]) _ y h2
def spec_MsgFits_d (a0 : MsgT) : Option Bool := spec_MsgFits_be spec_MsgFits_c spec_MsgFits_r a0
theorem spec_MsgFits_ok (a0 : MsgT) (y : Bool) (h : spec_MsgFits_d a0 = some y) : ∃ n, spec_MsgFits_be (spec_MsgFits_l10 n) spec_MsgFits_r a0 = some y := by
  have e : ∀ l, spec_MsgFits_be l spec_MsgFits_r a0 = (spec_MsgFits_be (ρ := ((MsgT) × Int) ⊕ Bool) (fun x1 x5 => some (.inl (x1, x5))) (fun y0 => some (.inr y0)) a0).bind (sm fun a => l a.1 a.2) := by
    intro l
    simp only [spec_MsgFits_be, spec_MsgFits_r, cond_bind, bind_bind', some_bind', none_bind', sm_inl, sm_inr]
  unfold spec_MsgFits_d at h
  rw [e] at h
  obtain ⟨n, hn⟩ := be_ok _ (fun (a : (MsgT) × Int) => spec_MsgFits_c a.1 a.2) (fun n (a : (MsgT) × Int) => spec_MsgFits_l10 n a.1 a.2) (fun a y h => spec_MsgFits_c_ok a.1 a.2 y h) y h
  exact ⟨n, by rw [e]; exact hn⟩
noncomputable def spec_MsgFits : (MsgT) → Option Bool := shut spec_MsgFits_d
theorem spec_MsgFits_def (a0 : MsgT) : spec_MsgFits a0 = spec_MsgFits_d a0 := congrFun (shut_eq _) a0
theorem spec_MsgFits_ok' : ∀ (a0 : MsgT) (y : Bool), spec_MsgFits a0 = some y → ∃ n, spec_MsgFits_be (spec_MsgFits_l10 n) spec_MsgFits_r a0 = some y := fun a0 y h => spec_MsgFits_ok a0 y ((spec_MsgFits_def a0).symm.trans h)
noncomputable def con_spec_MsgFits : Con := ⟨[(.val (.c (.pair (.int .i64) (.pair (.int .i64) (.pair (.int .i64) (.pair (.int .i64) (.pair (.int .i64) (.pair (.int .i64) (.pair .bool (.pair (.int .i64) (.pair (.int .i64) (.pair .str (.pair (.pair (.int .i64) (.pair (.int .i64) (.pair (.int .i64) (.pair (.int .i64) .str)))) (.ro (.pair (.int .i64) (.pair (.int .i64) (.pair (.int .i64) (.pair (.int .i64) (.pair (.int .i64) .str))))))))))))))))) true))], [(.c .bool false)], fun (x : MsgT) => spec_MsgFits x⟩
abbrev spec_MsgFits_fs (n : Nat) : List (Nat × LabK (VKs (con_spec_MsgFits.rs ++ outs con_spec_MsgFits.ps))) := [(10, ⟨spec_MsgFits_L10, fun (x : (MsgT) × Int) => spec_MsgFits_l10 n x.1 x.2⟩)]
theorem ent_spec_MsgFits : Enters Go.Proofs.Tryz.prog 163 := enters_of Go.Proofs.Tryz.func163 (c := spec_MsgFits_body) (by kernel_rfl) (by kernel_rfl)
theorem hold_spec_MsgFits : Holds Go.Proofs.Tryz.prog 163 con_spec_MsgFits :=
  holds_of (E := spec_MsgFits_env) (con := con_spec_MsgFits) (fn := Go.Proofs.Tryz.f163) (body := spec_MsgFits_body) (ids := [10]) (Rsrc := [(.slot 2)]) (fs := spec_MsgFits_fs) prog_mixed (cs_of (E := spec_MsgFits_env) ⟨⟨ent_spec_CmdOk, hold_spec_CmdOk⟩, ⟨ent_spec_l6Entry, hold_spec_l6Entry⟩, ⟨ent_spec_l8Has, hold_spec_l8Has⟩, ⟨ent_spec_l8Num, hold_spec_l8Num⟩, ⟨ent_spec_l8In, hold_spec_l8In⟩, trivial⟩) (tabOk_of (E := spec_MsgFits_env) tab_ok) Go.Proofs.Tryz.func163 (by kernel_rfl) (by kernel_rfl) (by kernel_rfl)
    ⟨(fun _ => rfl), trivial⟩ (fun n => ⟨(fun x => (spec_MsgFits_s10 (spec_MsgFits_l10 n) spec_MsgFits_r x).symm), trivial⟩)
    (fun x y h => by
      obtain ⟨n, hn⟩ := spec_MsgFits_ok' x y h
      exact ⟨n, (spec_MsgFits_se (spec_MsgFits_l10 n) spec_MsgFits_r x).trans hn⟩)
/-! 108 loop.example/g00106/spec.l10Hears -/
noncomputable def spec_l10Hears_body : Code := (Go.Proofs.Tryz.f108.body).getD .skip
noncomputable def spec_l10Hears_env : Env := { types := tab, cons := [(18, con_spec_RaftOk), (163, con_spec_MsgFits)] }
abbrev spec_l10Hears_E : Lab := ⟨[(.c (.pair (.int .i64) (.pair (.int .i64) (.pair (.int .i64) (.pair (.int .i64) (.pair (.pair (.int .i64) (.pair (.int .i64) (.ro (.pair (.int .i64) (.pair (.int .i64) (.pair (.int .i64) (.pair (.int .i64) (.pair (.int .i64) .str)))))))) (.pair (.ro (.int .i64)) (.pair (.ro (.int .i64)) (.ro (.int .i64))))))))) true), (.c (.pair (.int .i64) (.pair (.int .i64) (.pair (.int .i64) (.pair (.int .i64) (.pair (.int .i64) (.pair (.int .i64) (.pair .bool (.pair (.int .i64) (.pair (.int .i64) (.pair .str (.pair (.pair (.int .i64) (.pair (.int .i64) (.pair (.int .i64) (.pair (.int .i64) .str)))) (.ro (.pair (.int .i64) (.pair (.int .i64) (.pair (.int .i64) (.pair (.int .i64) (.pair (.int .i64) .str))))))))))))))))) true), (.c (.int .i64) false)], [(.slot 0), (.slot 1), (.slot 2)], []⟩
abbrev spec_l10Hears_R : Lab := ⟨[(.c .bool false)], [(.slot 6)], []⟩
def spec_l10Hears_be {ρ : Type}  (r : Bool → Option ρ) (a0 : RaftT) (a1 : MsgT) (a2 : Int) : Option ρ := (spec_RaftOk a0).bind fun t1 => bif t1 then ((spec_MsgFits a1).bind fun t2 => bif t2 then (bif decide (a1.1 = a2) then (bif decide (a1.2.1 < a0.2.1) then (r (!(decide (a1.2.1 = a0.1)))) else (r false)) else (r false)) else (r false)) else (r false)
theorem spec_l10Hears_se {ρ : Type}  (r : Bool → Option ρ) (x : (RaftT) × (MsgT) × Int) : stretch spec_l10Hears_env [] [] ⟨spec_l10Hears_R, fun (x : Bool) => r x⟩ false [.code spec_l10Hears_body] spec_l10Hears_E x = spec_l10Hears_be  r x.1 x.2.1 x.2.2 := by kernel_rfl
abbrev spec_l10Hears_r : Bool → Option Bool := (fun (y0 : Bool) => some y0)
noncomputable def spec_l10Hears_d (a0 : RaftT) (a1 : MsgT) (a2 : Int) : Option Bool := spec_l10Hears_be spec_l10Hears_r a0 a1 a2
noncomputable def spec_l10Hears : (RaftT) → (MsgT) → Int → Option Bool := shut spec_l10Hears_d
theorem spec_l10Hears_def (a0 : RaftT) (a1 : MsgT) (a2 : Int) : spec_l10Hears a0 a1 a2 = spec_l10Hears_d a0 a1 a2 := congrFun (congrFun (congrFun (shut_eq _) a0) a1) a2
noncomputable def con_spec_l10Hears : Con := ⟨[(.val (.c (.pair (.int .i64) (.pair (.int .i64) (.pair (.int .i64) (.pair (.int .i64) (.pair (.pair (.int .i64) (.pair (.int .i64) (.ro (.pair (.int .i64) (.pair (.int .i64) (.pair (.int .i64) (.pair (.int .i64) (.pair (.int .i64) .str)))))))) (.pair (.ro (.int .i64)) (.pair (.ro (.int .i64)) (.ro (.int .i64))))))))) true)), (.val (.c (.pair (.int .i64) (.pair (.int .i64) (.pair (.int .i64) (.pair (.int .i64) (.pair (.int .i64) (.pair (.int .i64) (.pair .bool (.pair (.int .i64) (.pair (.int .i64) (.pair .str (.pair (.pair (.int .i64) (.pair (.int .i64) (.pair (.int .i64) (.pair (.int .i64) .str)))) (.ro (.pair (.int .i64) (.pair (.int .i64) (.pair (.int .i64) (.pair (.int .i64) (.pair (.int .i64) .str))))))))))))))))) true)), (.val (.c (.int .i64) false))], [(.c .bool false)], fun (x : (RaftT) × (MsgT) × Int) => spec_l10Hears x.1 x.2.1 x.2.2⟩
abbrev spec_l10Hears_fs (n : Nat) : List (Nat × LabK (VKs (con_spec_l10Hears.rs ++ outs con_spec_l10Hears.ps))) := []
theorem ent_spec_l10Hears : Enters Go.Proofs.Tryz.prog 108 := enters_of Go.Proofs.Tryz.func108 (c := spec_l10Hears_body) (by kernel_rfl) (by kernel_rfl)
theorem hold_spec_l10Hears : Holds Go.Proofs.Tryz.prog 108 con_spec_l10Hears :=
  holds_of (E := spec_l10Hears_env) (con := con_spec_l10Hears) (fn := Go.Proofs.Tryz.f108) (body := spec_l10Hears_body) (ids := []) (Rsrc := [(.slot 6)]) (fs := spec_l10Hears_fs) prog_mixed (cs_of (E := spec_l10Hears_env) ⟨⟨ent_spec_RaftOk, hold_spec_RaftOk⟩, ⟨ent_spec_MsgFits, hold_spec_MsgFits⟩, trivial⟩) (tabOk_of (E := spec_l10Hears_env) tab_ok) Go.Proofs.Tryz.func108 (by kernel_rfl) (by kernel_rfl) (by kernel_rfl)
    trivial (fun n => trivial)
    (fun x y h => ⟨0, (spec_l10Hears_se spec_l10Hears_r x).trans ((spec_l10Hears_def x.1 x.2.1 x.2.2).symm.trans h)⟩)
/-! 138 loop.example/g00106/spec.l10Rest -/
noncomputable def spec_l10Rest_body : Code := (Go.Proofs.Tryz.f138.body).getD .skip
noncomputable def spec_l10Rest_env : Env := { types := tab, cons := [] }
abbrev spec_l10Rest_E : Lab := ⟨[(.c (.pair (.int .i64) (.pair (.int .i64) (.pair (.int .i64) (.pair (.int .i64) (.pair (.pair (.int .i64) (.pair (.int .i64) (.own (.pair (.int .i64) (.pair (.int .i64) (.pair (.int .i64) (.pair (.int .i64) (.pair (.int .i64) .str)))))))) (.pair (.own (.int .i64)) (.pair (.own (.int .i64)) (.own (.int .i64))))))))) true)], [(.slot 0)], []⟩
abbrev spec_l10Rest_R : Lab := ⟨[(.c (.pair (.int .i64) (.pair (.int .i64) (.pair (.int .i64) (.pair (.int .i64) (.pair (.pair (.int .i64) (.pair (.int .i64) (.own (.pair (.int .i64) (.pair (.int .i64) (.pair (.int .i64) (.pair (.int .i64) (.pair (.int .i64) .str)))))))) (.pair (.own (.int .i64)) (.pair (.own (.int .i64)) (.own (.int .i64))))))))) true)], [(.cell 2)], []⟩
def spec_l10Rest_be {ρ : Type}  (r : (RaftT) → Option ρ) (a0 : RaftT) : Option ρ := r (a0.1, a0.2.1, 1, a0.2.2.2.1, a0.2.2.2.2.1, (([] : List Int), (([] : List Int), ([] : List Int))))
theorem spec_l10Rest_se {ρ : Type}  (r : (RaftT) → Option ρ) (x : RaftT) : stretch spec_l10Rest_env [] [] ⟨spec_l10Rest_R, fun (x : RaftT) => r x⟩ false [.code spec_l10Rest_body] spec_l10Rest_E x = spec_l10Rest_be  r x := by kernel_rfl
abbrev spec_l10Rest_r : (RaftT) → Option (RaftT) := (fun (y0 : RaftT) => some y0)
noncomputable def spec_l10Rest_d (a0 : RaftT) : Option (RaftT) := spec_l10Rest_be spec_l10Rest_r a0
noncomputable def spec_l10Rest : (RaftT) → Option (RaftT) := shut spec_l10Rest_d
theorem spec_l10Rest_def (a0 : RaftT) : spec_l10Rest a0 = spec_l10Rest_d a0 := congrFun (shut_eq _) a0
noncomputable def con_spec_l10Rest : Con := ⟨[(.val (.c (.pair (.int .i64) (.pair (.int .i64) (.pair (.int .i64) (.pair (.int .i64) (.pair (.pair (.int .i64) (.pair (.int .i64) (.own (.pair (.int .i64) (.pair (.int .i64) (.pair (.int .i64) (.pair (.int .i64) (.pair (.int .i64) .str)))))))) (.pair (.own (.int .i64)) (.pair (.own (.int .i64)) (.own (.int .i64))))))))) true))], [(.c (.pair (.int .i64) (.pair (.int .i64) (.pair (.int .i64) (.pair (.int .i64) (.pair (.pair (.int .i64) (.pair (.int .i64) (.own (.pair (.int .i64) (.pair (.int .i64) (.pair (.int .i64) (.pair (.int .i64) (.pair (.int .i64) .str)))))))) (.pair (.own (.int .i64)) (.pair (.own (.int .i64)) (.own (.int .i64))))))))) true)], fun (x : RaftT) => spec_l10Rest x⟩
abbrev spec_l10Rest_fs (n : Nat) : List (Nat × LabK (VKs (con_spec_l10Rest.rs ++ outs con_spec_l10Rest.ps))) := []
theorem ent_spec_l10Rest : Enters Go.Proofs.Tryz.prog 138 := enters_of Go.Proofs.Tryz.func138 (c := spec_l10Rest_body) (by kernel_rfl) (by kernel_rfl)
theorem hold_spec_l10Rest : Holds Go.Proofs.Tryz.prog 138 con_spec_l10Rest :=
  holds_of (E := spec_l10Rest_env) (con := con_spec_l10Rest) (fn := Go.Proofs.Tryz.f138) (body := spec_l10Rest_body) (ids := []) (Rsrc := [(.cell 2)]) (fs := spec_l10Rest_fs) prog_mixed (cs_of (E := spec_l10Rest_env) trivial) (tabOk_of (E := spec_l10Rest_env) tab_ok) Go.Proofs.Tryz.func138 (by kernel_rfl) (by kernel_rfl) (by kernel_rfl)
    trivial (fun n => trivial)
    (fun x y h => ⟨0, (spec_l10Rest_se spec_l10Rest_r x).trans ((spec_l10Rest_def x).symm.trans h)⟩)
/-! 109 loop.example/g00106/spec.l10Follow -/
noncomputable def spec_l10Follow_body : Code := (Go.Proofs.Tryz.f109.body).getD .skip
noncomputable def spec_l10Follow_env : Env := { types := tab, cons := [(138, con_spec_l10Rest)] }
abbrev spec_l10Follow_E : Lab := ⟨[(.c (.pair (.int .i64) (.pair (.int .i64) (.pair (.int .i64) (.pair (.int .i64) (.pair (.pair (.int .i64) (.pair (.int .i64) (.own (.pair (.int .i64) (.pair (.int .i64) (.pair (.int .i64) (.pair (.int .i64) (.pair (.int .i64) .str)))))))) (.pair (.own (.int .i64)) (.pair (.own (.int .i64)) (.own (.int .i64))))))))) true), (.c (.int .i64) false)], [(.slot 0), (.slot 1)], []⟩
abbrev spec_l10Follow_R : Lab := ⟨[(.c (.pair (.int .i64) (.pair (.int .i64) (.pair (.int .i64) (.pair (.int .i64) (.pair (.pair (.int .i64) (.pair (.int .i64) (.own (.pair (.int .i64) (.pair (.int .i64) (.pair (.int .i64) (.pair (.int .i64) (.pair (.int .i64) .str)))))))) (.pair (.own (.int .i64)) (.pair (.own (.int .i64)) (.own (.int .i64))))))))) true)], [(.cell 4)], []⟩
def spec_l10Follow_be {ρ : Type}  (r : (RaftT) → Option ρ) (a0 : RaftT) (a1 : Int) : Option ρ := (spec_l10Rest a0).bind fun t1 => r (t1.1, t1.2.1, t1.2.2.1, t1.2.2.2.1, ((a1, 0, t1.2.2.2.2.1.2.2), t1.2.2.2.2.2))
theorem spec_l10Follow_se {ρ : Type}  (r : (RaftT) → Option ρ) (x : (RaftT) × Int) : stretch spec_l10Follow_env [] [] ⟨spec_l10Follow_R, fun (x : RaftT) => r x⟩ false [.code spec_l10Follow_body] spec_l10Follow_E x = spec_l10Follow_be  r x.1 x.2 := by kernel_rfl
abbrev spec_l10Follow_r : (RaftT) → Option (RaftT) := (fun (y0 : RaftT) => some y0)
noncomputable def spec_l10Follow_d (a0 : RaftT) (a1 : Int) : Option (RaftT) := spec_l10Follow_be spec_l10Follow_r a0 a1
noncomputable def spec_l10Follow : (RaftT) → Int → Option (RaftT) := shut spec_l10Follow_d
theorem spec_l10Follow_def (a0 : RaftT) (a1 : Int) : spec_l10Follow a0 a1 = spec_l10Follow_d a0 a1 := congrFun (congrFun (shut_eq _) a0) a1
noncomputable def con_spec_l10Follow : Con := ⟨[(.val (.c (.pair (.int .i64) (.pair (.int .i64) (.pair (.int .i64) (.pair (.int .i64) (.pair (.pair (.int .i64) (.pair (.int .i64) (.own (.pair (.int .i64) (.pair (.int .i64) (.pair (.int .i64) (.pair (.int .i64) (.pair (.int .i64) .str)))))))) (.pair (.own (.int .i64)) (.pair (.own (.int .i64)) (.own (.int .i64))))))))) true)), (.val (.c (.int .i64) false))], [(.c (.pair (.int .i64) (.pair (.int .i64) (.pair (.int .i64) (.pair (.int .i64) (.pair (.pair (.int .i64) (.pair (.int .i64) (.own (.pair (.int .i64) (.pair (.int .i64) (.pair (.int .i64) (.pair (.int .i64) (.pair (.int .i64) .str)))))))) (.pair (.own (.int .i64)) (.pair (.own (.int .i64)) (.own (.int .i64))))))))) true)], fun (x : (RaftT) × Int) => spec_l10Follow x.1 x.2⟩
abbrev spec_l10Follow_fs (n : Nat) : List (Nat × LabK (VKs (con_spec_l10Follow.rs ++ outs con_spec_l10Follow.ps))) := []
theorem ent_spec_l10Follow : Enters Go.Proofs.Tryz.prog 109 := enters_of Go.Proofs.Tryz.func109 (c := spec_l10Follow_body) (by kernel_rfl) (by kernel_rfl)
theorem hold_spec_l10Follow : Holds Go.Proofs.Tryz.prog 109 con_spec_l10Follow :=
  holds_of (E := spec_l10Follow_env) (con := con_spec_l10Follow) (fn := Go.Proofs.Tryz.f109) (body := spec_l10Follow_body) (ids := []) (Rsrc := [(.cell 4)]) (fs := spec_l10Follow_fs) prog_mixed (cs_of (E := spec_l10Follow_env) ⟨⟨ent_spec_l10Rest, hold_spec_l10Rest⟩, trivial⟩) (tabOk_of (E := spec_l10Follow_env) tab_ok) Go.Proofs.Tryz.func109 (by kernel_rfl) (by kernel_rfl) (by kernel_rfl)
    trivial (fun n => trivial)
    (fun x y h => ⟨0, (spec_l10Follow_se spec_l10Follow_r x).trans ((spec_l10Follow_def x.1 x.2).symm.trans h)⟩)
/-! 115 loop.example/g00106/spec.l10Term -/
noncomputable def spec_l10Term_body : Code := (Go.Proofs.Tryz.f115.body).getD .skip
noncomputable def spec_l10Term_env : Env := { types := tab, cons := [] }
abbrev spec_l10Term_E : Lab := ⟨[(.c (.pair (.int .i64) (.pair (.int .i64) (.ro (.pair (.int .i64) (.pair (.int .i64) (.pair (.int .i64) (.pair (.int .i64) (.pair (.int .i64) .str)))))))) true), (.c (.int .i64) false)], [(.slot 0), (.slot 1)], []⟩
abbrev spec_l10Term_R : Lab := ⟨[(.c (.int .i64) false)], [(.slot 4)], []⟩
def spec_l10Term_be {ρ : Type}  (r : Int → Option ρ) (a0 : HardT) (a1 : Int) : Option ρ := bif decide (a1 < 1) then (r 0) else (bif decide (a1 > (a0.2.2.length : Int)) then (r 0) else ((idx a0.2.2 (wr .i64 (a1 - 1))).bind fun v1 => r v1.1))
theorem spec_l10Term_se {ρ : Type}  (r : Int → Option ρ) (x : (HardT) × Int) : stretch spec_l10Term_env [] [] ⟨spec_l10Term_R, fun (x : Int) => r x⟩ false [.code spec_l10Term_body] spec_l10Term_E x = spec_l10Term_be  r x.1 x.2 := by kernel_rfl
abbrev spec_l10Term_r : Int → Option Int := (fun (y0 : Int) => some y0)
noncomputable def spec_l10Term_d (a0 : HardT) (a1 : Int) : Option Int := spec_l10Term_be spec_l10Term_r a0 a1
noncomputable def spec_l10Term : (HardT) → Int → Option Int := shut spec_l10Term_d
theorem spec_l10Term_def (a0 : HardT) (a1 : Int) : spec_l10Term a0 a1 = spec_l10Term_d a0 a1 := congrFun (congrFun (shut_eq _) a0) a1
noncomputable def con_spec_l10Term : Con := ⟨[(.val (.c (.pair (.int .i64) (.pair (.int .i64) (.ro (.pair (.int .i64) (.pair (.int .i64) (.pair (.int .i64) (.pair (.int .i64) (.pair (.int .i64) .str)))))))) true)), (.val (.c (.int .i64) false))], [(.c (.int .i64) false)], fun (x : (HardT) × Int) => spec_l10Term x.1 x.2⟩
abbrev spec_l10Term_fs (n : Nat) : List (Nat × LabK (VKs (con_spec_l10Term.rs ++ outs con_spec_l10Term.ps))) := []
theorem ent_spec_l10Term : Enters Go.Proofs.Tryz.prog 115 := enters_of Go.Proofs.Tryz.func115 (c := spec_l10Term_body) (by kernel_rfl) (by kernel_rfl)
theorem hold_spec_l10Term : Holds Go.Proofs.Tryz.prog 115 con_spec_l10Term :=
  holds_of (E := spec_l10Term_env) (con := con_spec_l10Term) (fn := Go.Proofs.Tryz.f115) (body := spec_l10Term_body) (ids := []) (Rsrc := [(.slot 4)]) (fs := spec_l10Term_fs) prog_mixed (cs_of (E := spec_l10Term_env) trivial) (tabOk_of (E := spec_l10Term_env) tab_ok) Go.Proofs.Tryz.func115 (by kernel_rfl) (by kernel_rfl) (by kernel_rfl)
    trivial (fun n => trivial)
    (fun x y h => ⟨0, (spec_l10Term_se spec_l10Term_r x).trans ((spec_l10Term_def x.1 x.2).symm.trans h)⟩)
/-! 110 loop.example/g00106/spec.l10Commit -/
noncomputable def spec_l10Commit_body : Code := (Go.Proofs.Tryz.f110.body).getD .skip
noncomputable def spec_l10Commit_env : Env := { types := tab, cons := [(65, con_spec_l10End), (115, con_spec_l10Term)] }
abbrev spec_l10Commit_L2 : Lab := ⟨[(.box (.pair (.int .i64) (.pair (.int .i64) (.pair (.int .i64) (.pair (.int .i64) (.pair (.pair (.int .i64) (.pair (.int .i64) (.ro (.pair (.int .i64) (.pair (.int .i64) (.pair (.int .i64) (.pair (.int .i64) (.pair (.int .i64) .str)))))))) (.pair (.ro (.int .i64)) (.pair (.ro (.int .i64)) (.ro (.int .i64)))))))))), (.c (.int .i64) false)], [(.slot 1), (.slot 3)], []⟩
abbrev spec_l10Commit_L6 : Lab := ⟨[(.box (.pair (.int .i64) (.pair (.int .i64) (.pair (.int .i64) (.pair (.int .i64) (.pair (.pair (.int .i64) (.pair (.int .i64) (.ro (.pair (.int .i64) (.pair (.int .i64) (.pair (.int .i64) (.pair (.int .i64) (.pair (.int .i64) .str)))))))) (.pair (.ro (.int .i64)) (.pair (.ro (.int .i64)) (.ro (.int .i64)))))))))), (.c (.int .i64) false), (.c (.int .i64) false), (.c (.int .i64) false)], [(.slot 1), (.slot 3), (.slot 4), (.slot 5)], []⟩
abbrev spec_l10Commit_E : Lab := ⟨[(.c (.pair (.int .i64) (.pair (.int .i64) (.pair (.int .i64) (.pair (.int .i64) (.pair (.pair (.int .i64) (.pair (.int .i64) (.ro (.pair (.int .i64) (.pair (.int .i64) (.pair (.int .i64) (.pair (.int .i64) (.pair (.int .i64) .str)))))))) (.pair (.ro (.int .i64)) (.pair (.ro (.int .i64)) (.ro (.int .i64))))))))) true)], [(.slot 0)], []⟩
abbrev spec_l10Commit_R : Lab := ⟨[(.c (.int .i64) false)], [(.slot 2)], []⟩
def spec_l10Commit_b2 {ρ : Type} (l2 : (RaftT) → Int → Option ρ) (l6 : (RaftT) → Int → Int → Int → Option ρ) (r : Int → Option ρ) (x1 : RaftT) (x3 : Int) : Option ρ := bif decide (x3 > x1.2.2.2.1) then (l6 x1 x3 0 0) else (r x1.2.2.2.1)
def spec_l10Commit_b6 {ρ : Type} (l2 : (RaftT) → Int → Option ρ) (l6 : (RaftT) → Int → Int → Int → Option ρ) (r : Int → Option ρ) (x1 : RaftT) (x3 : Int) (x4 : Int) (x5 : Int) : Option ρ := bif decide (x5 < x1.2.1) then ((idx x1.2.2.2.2.2.2.2 x5).bind fun v2 => bif decide (v2 ≥ x3) then (l6 x1 x3 (wr .i64 (x4 + 1)) (wr .i64 (x5 + 1))) else (l6 x1 x3 x4 (wr .i64 (x5 + 1)))) else (bif decide ((wr .i64 (2 * x4)) > x1.2.1) then ((spec_l10Term x1.2.2.2.2.1 x3).bind fun t3 => bif decide (t3 = x1.2.2.2.2.1.1) then (r x3) else (l2 x1 (wr .i64 (x3 - 1)))) else (l2 x1 (wr .i64 (x3 - 1))))
def spec_l10Commit_be {ρ : Type} (l2 : (RaftT) → Int → Option ρ) (l6 : (RaftT) → Int → Int → Int → Option ρ) (r : Int → Option ρ) (a0 : RaftT) : Option ρ := (spec_l10End a0).bind fun t1 => l2 a0 t1
theorem spec_l10Commit_s2 {ρ : Type} (l2 : (RaftT) → Int → Option ρ) (l6 : (RaftT) → Int → Int → Int → Option ρ) (r : Int → Option ρ) (x : (RaftT) × Int) : stretch spec_l10Commit_env [2, 6] [(2, ⟨spec_l10Commit_L2, fun (x : (RaftT) × Int) => l2 x.1 x.2⟩), (6, ⟨spec_l10Commit_L6, fun (x : (RaftT) × Int × Int × Int) => l6 x.1 x.2.1 x.2.2.1 x.2.2.2⟩)] ⟨spec_l10Commit_R, fun (x : Int) => r x⟩ true ((seek 2 spec_l10Commit_body []).getD []) spec_l10Commit_L2 x = spec_l10Commit_b2 l2 l6 r x.1 x.2 := by kernel_rfl
theorem spec_l10Commit_s6 {ρ : Type} (l2 : (RaftT) → Int → Option ρ) (l6 : (RaftT) → Int → Int → Int → Option ρ) (r : Int → Option ρ) (x : (RaftT) × Int × Int × Int) : stretch spec_l10Commit_env [2, 6] [(2, ⟨spec_l10Commit_L2, fun (x : (RaftT) × Int) => l2 x.1 x.2⟩), (6, ⟨spec_l10Commit_L6, fun (x : (RaftT) × Int × Int × Int) => l6 x.1 x.2.1 x.2.2.1 x.2.2.2⟩)] ⟨spec_l10Commit_R, fun (x : Int) => r x⟩ true ((seek 6 spec_l10Commit_body []).getD []) spec_l10Commit_L6 x = spec_l10Commit_b6 l2 l6 r x.1 x.2.1 x.2.2.1 x.2.2.2 := by kernel_rfl
theorem spec_l10Commit_se {ρ : Type} (l2 : (RaftT) → Int → Option ρ) (l6 : (RaftT) → Int → Int → Int → Option ρ) (r : Int → Option ρ) (x : RaftT) : stretch spec_l10Commit_env [2, 6] [(2, ⟨spec_l10Commit_L2, fun (x : (RaftT) × Int) => l2 x.1 x.2⟩), (6, ⟨spec_l10Commit_L6, fun (x : (RaftT) × Int × Int × Int) => l6 x.1 x.2.1 x.2.2.1 x.2.2.2⟩)] ⟨spec_l10Commit_R, fun (x : Int) => r x⟩ false [.code spec_l10Commit_body] spec_l10Commit_E x = spec_l10Commit_be l2 l6 r x := by kernel_rfl
abbrev spec_l10Commit_r : Int → Option Int := (fun (y0 : Int) => some y0)
def spec_l10Commit_ls : Nat → ((RaftT) → Int → Option Int) × ((RaftT) → Int → Int → Int → Option Int)
  | 0 => ((fun _ _ => none), (fun _ _ _ _ => none))
  | n + 1 => (spec_l10Commit_b2 ((spec_l10Commit_ls n).1) ((spec_l10Commit_ls n).2) spec_l10Commit_r, spec_l10Commit_b6 ((spec_l10Commit_ls n).1) ((spec_l10Commit_ls n).2) spec_l10Commit_r)
abbrev spec_l10Commit_l2 (n : Nat) : (RaftT) → Int → Option Int := (spec_l10Commit_ls n).1
abbrev spec_l10Commit_l6 (n : Nat) : (RaftT) → Int → Int → Int → Option Int := (spec_l10Commit_ls n).2
noncomputable def spec_l10Commit_d (a0 : RaftT) : Option Int := lim fun n => spec_l10Commit_be (spec_l10Commit_l2 n) (spec_l10Commit_l6 n) spec_l10Commit_r a0
noncomputable def spec_l10Commit : (RaftT) → Option Int := shut spec_l10Commit_d
theorem spec_l10Commit_def (a0 : RaftT) : spec_l10Commit a0 = spec_l10Commit_d a0 := congrFun (shut_eq _) a0
theorem spec_l10Commit_ok' : ∀ (a0 : RaftT) (y : Int), spec_l10Commit a0 = some y → ∃ n, spec_l10Commit_be (spec_l10Commit_l2 n) (spec_l10Commit_l6 n) spec_l10Commit_r a0 = some y := fun a0 y h => lim_some ((spec_l10Commit_def a0).symm.trans h)
noncomputable def con_spec_l10Commit : Con := ⟨[(.val (.c (.pair (.int .i64) (.pair (.int .i64) (.pair (.int .i64) (.pair (.int .i64) (.pair (.pair (.int .i64) (.pair (.int .i64) (.ro (.pair (.int .i64) (.pair (.int .i64) (.pair (.int .i64) (.pair (.int .i64) (.pair (.int .i64) .str)))))))) (.pair (.ro (.int .i64)) (.pair (.ro (.int .i64)) (.ro (.int .i64))))))))) true))], [(.c (.int .i64) false)], fun (x : RaftT) => spec_l10Commit x⟩
abbrev spec_l10Commit_fs (n : Nat) : List (Nat × LabK (VKs (con_spec_l10Commit.rs ++ outs con_spec_l10Commit.ps))) := [(2, ⟨spec_l10Commit_L2, fun (x : (RaftT) × Int) => spec_l10Commit_l2 n x.1 x.2⟩), (6, ⟨spec_l10Commit_L6, fun (x : (RaftT) × Int × Int × Int) => spec_l10Commit_l6 n x.1 x.2.1 x.2.2.1 x.2.2.2⟩)]
theorem ent_spec_l10Commit : Enters Go.Proofs.Tryz.prog 110 := enters_of Go.Proofs.Tryz.func110 (c := spec_l10Commit_body) (by kernel_rfl) (by kernel_rfl)
theorem hold_spec_l10Commit : Holds Go.Proofs.Tryz.prog 110 con_spec_l10Commit :=
  holds_of (E := spec_l10Commit_env) (con := con_spec_l10Commit) (fn := Go.Proofs.Tryz.f110) (body := spec_l10Commit_body) (ids := [2, 6]) (Rsrc := [(.slot 2)]) (fs := spec_l10Commit_fs) prog_mixed (cs_of (E := spec_l10Commit_env) ⟨⟨ent_spec_l10End, hold_spec_l10End⟩, ⟨ent_spec_l10Term, hold_spec_l10Term⟩, trivial⟩) (tabOk_of (E := spec_l10Commit_env) tab_ok) Go.Proofs.Tryz.func110 (by kernel_rfl) (by kernel_rfl) (by kernel_rfl)
    ⟨(fun _ => rfl), (fun _ => rfl), trivial⟩ (fun n => ⟨(fun x => (spec_l10Commit_s2 (spec_l10Commit_l2 n) (spec_l10Commit_l6 n) spec_l10Commit_r x).symm), (fun x => (spec_l10Commit_s6 (spec_l10Commit_l2 n) (spec_l10Commit_l6 n) spec_l10Commit_r x).symm), trivial⟩)
    (fun x y h => by
      obtain ⟨n, hn⟩ := spec_l10Commit_ok' x y h
      exact ⟨n, (spec_l10Commit_se (spec_l10Commit_l2 n) (spec_l10Commit_l6 n) spec_l10Commit_r x).trans hn⟩)
/-! 111 loop.example/g00106/spec.l1Min -/
noncomputable def spec_l1Min_body : Code := (Go.Proofs.Tryz.f111.body).getD .skip
noncomputable def spec_l1Min_env : Env := { types := tab, cons := [] }
abbrev spec_l1Min_E : Lab := ⟨[(.c (.int .i64) false), (.c (.int .i64) false)], [(.slot 0), (.slot 1)], []⟩
abbrev spec_l1Min_R : Lab := ⟨[(.c (.int .i64) false)], [(.slot 4)], []⟩
def spec_l1Min_be {ρ : Type}  (r : Int → Option ρ) (a0 : Int) (a1 : Int) : Option ρ := bif decide (a0 < a1) then (r a0) else (r a1)
theorem spec_l1Min_se {ρ : Type}  (r : Int → Option ρ) (x : Int × Int) : stretch spec_l1Min_env [] [] ⟨spec_l1Min_R, fun (x : Int) => r x⟩ false [.code spec_l1Min_body] spec_l1Min_E x = spec_l1Min_be  r x.1 x.2 := by kernel_rfl
abbrev spec_l1Min_r : Int → Option Int := (fun (y0 : Int) => some y0)
noncomputable def spec_l1Min_d (a0 : Int) (a1 : Int) : Option Int := spec_l1Min_be spec_l1Min_r a0 a1
noncomputable def spec_l1Min : Int → Int → Option Int := shut spec_l1Min_d
theorem spec_l1Min_def (a0 : Int) (a1 : Int) : spec_l1Min a0 a1 = spec_l1Min_d a0 a1 := congrFun (congrFun (shut_eq _) a0) a1
noncomputable def con_spec_l1Min : Con := ⟨[(.val (.c (.int .i64) false)), (.val (.c (.int .i64) false))], [(.c (.int .i64) false)], fun (x : Int × Int) => spec_l1Min x.1 x.2⟩
abbrev spec_l1Min_fs (n : Nat) : List (Nat × LabK (VKs (con_spec_l1Min.rs ++ outs con_spec_l1Min.ps))) := []
theorem ent_spec_l1Min : Enters Go.Proofs.Tryz.prog 111 := enters_of Go.Proofs.Tryz.func111 (c := spec_l1Min_body) (by kernel_rfl) (by kernel_rfl)
theorem hold_spec_l1Min : Holds Go.Proofs.Tryz.prog 111 con_spec_l1Min :=
  holds_of (E := spec_l1Min_env) (con := con_spec_l1Min) (fn := Go.Proofs.Tryz.f111) (body := spec_l1Min_body) (ids := []) (Rsrc := [(.slot 4)]) (fs := spec_l1Min_fs) prog_mixed (cs_of (E := spec_l1Min_env) trivial) (tabOk_of (E := spec_l1Min_env) tab_ok) Go.Proofs.Tryz.func111 (by kernel_rfl) (by kernel_rfl) (by kernel_rfl)
    trivial (fun n => trivial)
    (fun x y h => ⟨0, (spec_l1Min_se spec_l1Min_r x).trans ((spec_l1Min_def x.1 x.2).symm.trans h)⟩)
/-! 112 loop.example/g00106/spec.l10Send -/
noncomputable def spec_l10Send_body : Code := (Go.Proofs.Tryz.f112.body).getD .skip
noncomputable def spec_l10Send_env : Env := { types := tab, cons := [(65, con_spec_l10End), (111, con_spec_l1Min), (115, con_spec_l10Term)] }
abbrev spec_l10Send_E : Lab := ⟨[(.c (.pair (.int .i64) (.pair (.int .i64) (.pair (.int .i64) (.pair (.int .i64) (.pair (.pair (.int .i64) (.pair (.int .i64) (.ro (.pair (.int .i64) (.pair (.int .i64) (.pair (.int .i64) (.pair (.int .i64) (.pair (.int .i64) .str)))))))) (.pair (.ro (.int .i64)) (.pair (.ro (.int .i64)) (.ro (.int .i64))))))))) true), (.c (.int .i64) false)], [(.slot 0), (.slot 1)], []⟩
abbrev spec_l10Send_R : Lab := ⟨[(.c (.pair (.int .i64) (.pair (.int .i64) (.pair (.int .i64) (.pair (.int .i64) (.pair (.int .i64) (.pair (.int .i64) (.pair (.int .i64) (.pair .bool (.pair (.int .i64) (.pair (.int .i64) (.pair .str (.pair (.pair (.int .i64) (.pair (.int .i64) (.pair (.int .i64) (.pair (.int .i64) .str)))) (.own (.pair (.int .i64) (.pair (.int .i64) (.pair (.int .i64) (.pair (.int .i64) (.pair (.int .i64) .str)))))))))))))))))) true)], [(.cell 4)], []⟩
def spec_l10Send_be {ρ : Type}  (r : (OutT) → Option ρ) (a0 : RaftT) (a1 : Int) : Option ρ := (idx a0.2.2.2.2.2.2.1 a1).bind fun v1 => (spec_l10Term a0.2.2.2.2.1 (wr .i64 (v1 - 1))).bind fun t2 => (spec_l10End a0).bind fun t3 => (spec_l1Min (wr .i64 ((wr .i64 (v1 - 1)) + 6)) t3).bind fun t4 => bif decide (0 ≤ (wr .i64 (v1 - 1))) && decide ((wr .i64 (v1 - 1)) ≤ t4) && decide (t4 ≤ (a0.2.2.2.2.1.2.2.length : Int)) then (bif decide ((([] : List (EntT)).length + ((a0.2.2.2.2.1.2.2.take (t4 : Int).toNat).drop ((wr .i64 (v1 - 1)) : Int).toNat).length) * 56 ≤ 140737488355328) then (r (a1, 3, a0.1, a0.2.2.2.2.1.1, wr .i64 (v1 - 1), t2, a0.2.2.2.1, false, 0, 0, ⟨#[]⟩, ((0, 0, 0, 0, ⟨#[]⟩), ([] : List (EntT)) ++ ((a0.2.2.2.2.1.2.2.take (t4 : Int).toNat).drop ((wr .i64 (v1 - 1)) : Int).toNat)))) else (none)) else (none)
theorem spec_l10Send_se {ρ : Type}  (r : (OutT) → Option ρ) (x : (RaftT) × Int) : stretch spec_l10Send_env [] [] ⟨spec_l10Send_R, fun (x : OutT) => r x⟩ false [.code spec_l10Send_body] spec_l10Send_E x = spec_l10Send_be  r x.1 x.2 := by kernel_rfl
abbrev spec_l10Send_r : (OutT) → Option (OutT) := (fun (y0 : OutT) => some y0)
noncomputable def spec_l10Send_d (a0 : RaftT) (a1 : Int) : Option (OutT) := spec_l10Send_be spec_l10Send_r a0 a1
noncomputable def spec_l10Send : (RaftT) → Int → Option (OutT) := shut spec_l10Send_d
theorem spec_l10Send_def (a0 : RaftT) (a1 : Int) : spec_l10Send a0 a1 = spec_l10Send_d a0 a1 := congrFun (congrFun (shut_eq _) a0) a1
noncomputable def con_spec_l10Send : Con := ⟨[(.val (.c (.pair (.int .i64) (.pair (.int .i64) (.pair (.int .i64) (.pair (.int .i64) (.pair (.pair (.int .i64) (.pair (.int .i64) (.ro (.pair (.int .i64) (.pair (.int .i64) (.pair (.int .i64) (.pair (.int .i64) (.pair (.int .i64) .str)))))))) (.pair (.ro (.int .i64)) (.pair (.ro (.int .i64)) (.ro (.int .i64))))))))) true)), (.val (.c (.int .i64) false))], [(.c (.pair (.int .i64) (.pair (.int .i64) (.pair (.int .i64) (.pair (.int .i64) (.pair (.int .i64) (.pair (.int .i64) (.pair (.int .i64) (.pair .bool (.pair (.int .i64) (.pair (.int .i64) (.pair .str (.pair (.pair (.int .i64) (.pair (.int .i64) (.pair (.int .i64) (.pair (.int .i64) .str)))) (.own (.pair (.int .i64) (.pair (.int .i64) (.pair (.int .i64) (.pair (.int .i64) (.pair (.int .i64) .str)))))))))))))))))) true)], fun (x : (RaftT) × Int) => spec_l10Send x.1 x.2⟩
abbrev spec_l10Send_fs (n : Nat) : List (Nat × LabK (VKs (con_spec_l10Send.rs ++ outs con_spec_l10Send.ps))) := []
theorem ent_spec_l10Send : Enters Go.Proofs.Tryz.prog 112 := enters_of Go.Proofs.Tryz.func112 (c := spec_l10Send_body) (by kernel_rfl) (by kernel_rfl)
theorem hold_spec_l10Send : Holds Go.Proofs.Tryz.prog 112 con_spec_l10Send :=
  holds_of (E := spec_l10Send_env) (con := con_spec_l10Send) (fn := Go.Proofs.Tryz.f112) (body := spec_l10Send_body) (ids := []) (Rsrc := [(.cell 4)]) (fs := spec_l10Send_fs) prog_mixed (cs_of (E := spec_l10Send_env) ⟨⟨ent_spec_l10End, hold_spec_l10End⟩, ⟨ent_spec_l1Min, hold_spec_l1Min⟩, ⟨ent_spec_l10Term, hold_spec_l10Term⟩, trivial⟩) (tabOk_of (E := spec_l10Send_env) tab_ok) Go.Proofs.Tryz.func112 (by kernel_rfl) (by kernel_rfl) (by kernel_rfl)
    trivial (fun n => trivial)
    (fun x y h => ⟨0, (spec_l10Send_se spec_l10Send_r x).trans ((spec_l10Send_def x.1 x.2).symm.trans h)⟩)
/-! 35 loop.example/g00106/spec.OnGot -/
noncomputable def spec_OnGot_body : Code := (Go.Proofs.Tryz.f35.body).getD .skip
noncomputable def spec_OnGot_env : Env := { types := tab, cons := [(59, con_spec_l1Max), (65, con_spec_l10End), (97, con_spec_l10Same), (98, con_spec_l10Vote), (108, con_spec_l10Hears), (109, con_spec_l10Follow), (110, con_spec_l10Commit), (111, con_spec_l1Min), (112, con_spec_l10Send)] }
abbrev spec_OnGot_E : Lab := ⟨[(.c (.pair (.int .i64) (.pair (.int .i64) (.pair (.int .i64) (.pair (.int .i64) (.pair (.pair (.int .i64) (.pair (.int .i64) (.ro (.pair (.int .i64) (.pair (.int .i64) (.pair (.int .i64) (.pair (.int .i64) (.pair (.int .i64) .str)))))))) (.pair (.ro (.int .i64)) (.pair (.ro (.int .i64)) (.ro (.int .i64))))))))) true), (.c (.pair (.int .i64) (.pair (.int .i64) (.pair (.int .i64) (.pair (.int .i64) (.pair (.int .i64) (.pair (.int .i64) (.pair .bool (.pair (.int .i64) (.pair (.int .i64) (.pair .str (.pair (.pair (.int .i64) (.pair (.int .i64) (.pair (.int .i64) (.pair (.int .i64) .str)))) (.ro (.pair (.int .i64) (.pair (.int .i64) (.pair (.int .i64) (.pair (.int .i64) (.pair (.int .i64) .str))))))))))))))))) true)], [(.slot 0), (.slot 1)], []⟩
abbrev spec_OnGot_R : Lab := ⟨[(.c (.pair (.int .i64) (.pair (.int .i64) (.pair (.int .i64) (.pair (.int .i64) (.pair (.pair (.int .i64) (.pair (.int .i64) (.own (.pair (.int .i64) (.pair (.int .i64) (.pair (.int .i64) (.pair (.int .i64) (.pair (.int .i64) .str)))))))) (.pair (.own (.int .i64)) (.pair (.own (.int .i64)) (.own (.int .i64))))))))) true), (.c (.own (.pair (.int .i64) (.pair (.int .i64) (.pair (.int .i64) (.pair (.int .i64) (.pair (.int .i64) (.pair (.int .i64) (.pair (.int .i64) (.pair (.int .i64) (.pair (.int .i64) .str)))))))))) false), (.c (.own (.pair (.int .i64) (.pair (.int .i64) (.pair (.int .i64) (.pair (.int .i64) (.pair (.int .i64) (.pair (.int .i64) (.pair (.int .i64) (.pair .bool (.pair (.int .i64) (.pair (.int .i64) (.pair .str (.pair (.pair (.int .i64) (.pair (.int .i64) (.pair (.int .i64) (.pair (.int .i64) .str)))) (.list (.pair (.int .i64) (.pair (.int .i64) (.pair (.int .i64) (.pair (.int .i64) (.pair (.int .i64) .str))))))))))))))))))) false)], [(.cell 4), (.slot 5), (.slot 6)], []⟩
def spec_OnGot_be {ρ : Type}  (r : (RaftT) → (List (RecT)) → (List (OutT)) → Option ρ) (a0 : RaftT) (a1 : MsgT) : Option ρ := (spec_l10Same a0).bind fun t1 => (spec_l10Hears a0 a1 4).bind fun t2 => bif !t2 then (r t1 ([] : List (RecT)) ([] : List (OutT))) else (bif decide (a1.2.2.1 > a0.2.2.2.2.1.1) then ((spec_l10Follow t1 a1.2.2.1).bind fun t3 => (spec_l10Vote t3).bind fun t4 => bif decide ((([] : List (RecT)).length + ([t4] : List (RecT)).length) * 88 ≤ 140737488355328) then (r t3 (([] : List (RecT)) ++ ([t4] : List (RecT))) ([] : List (OutT))) else (none)) else (bif !(decide (a0.2.2.1 = 3)) then (r t1 ([] : List (RecT)) ([] : List (OutT))) else (bif !(decide (a1.2.2.1 = a0.2.2.2.2.1.1)) then (r t1 ([] : List (RecT)) ([] : List (OutT))) else (bif a1.2.2.2.2.2.2.1 then ((spec_l10End a0).bind fun t5 => bif decide (a1.2.2.2.1 ≤ t5) then (bif decide (0 ≤ a1.2.1) && decide (a1.2.1 < (t1.2.2.2.2.2.2.2.length : Int)) then ((idx t1.2.2.2.2.2.2.2 a1.2.1).bind fun v6 => (spec_l1Max v6 a1.2.2.2.1).bind fun t7 => bif decide (0 ≤ a1.2.1) && decide (a1.2.1 < (t1.2.2.2.2.2.2.2.length : Int)) then ((idx t1.2.2.2.2.2.2.2 a1.2.1).bind fun v8 => bif decide (0 ≤ a1.2.1) && decide (a1.2.1 < ((t1.2.2.2.2.2.2.2.set (a1.2.1 : Int).toNat t7).length : Int)) then ((idx (t1.2.2.2.2.2.2.2.set (a1.2.1 : Int).toNat t7) a1.2.1).bind fun v9 => bif decide (0 ≤ a1.2.1) && decide (a1.2.1 < (t1.2.2.2.2.2.2.1.length : Int)) then ((idx t1.2.2.2.2.2.2.1 a1.2.1).bind fun v10 => (spec_l10Commit (t1.1, t1.2.1, t1.2.2.1, t1.2.2.2.1, t1.2.2.2.2.1, t1.2.2.2.2.2.1, t1.2.2.2.2.2.2.1.set (a1.2.1 : Int).toNat (wr .i64 (v9 + 1)), t1.2.2.2.2.2.2.2.set (a1.2.1 : Int).toNat t7)).bind fun t11 => r (t1.1, t1.2.1, t1.2.2.1, t11, t1.2.2.2.2.1, t1.2.2.2.2.2.1, t1.2.2.2.2.2.2.1.set (a1.2.1 : Int).toNat (wr .i64 (v9 + 1)), t1.2.2.2.2.2.2.2.set (a1.2.1 : Int).toNat t7) ([] : List (RecT)) ([] : List (OutT))) else (none)) else (none)) else (none)) else (none)) else (r t1 ([] : List (RecT)) ([] : List (OutT)))) else (bif decide (0 ≤ a1.2.1) && decide (a1.2.1 < (t1.2.2.2.2.2.2.1.length : Int)) then ((idx t1.2.2.2.2.2.2.1 a1.2.1).bind fun v12 => (spec_l1Min (wr .i64 (v12 - 1)) (wr .i64 (a1.2.2.2.1 + 1))).bind fun t13 => (spec_l1Max 1 t13).bind fun t14 => bif decide (0 ≤ a1.2.1) && decide (a1.2.1 < (t1.2.2.2.2.2.2.1.length : Int)) then ((idx t1.2.2.2.2.2.2.1 a1.2.1).bind fun v15 => (spec_l10Send (t1.1, t1.2.1, t1.2.2.1, t1.2.2.2.1, t1.2.2.2.2.1, t1.2.2.2.2.2.1, t1.2.2.2.2.2.2.1.set (a1.2.1 : Int).toNat t14, t1.2.2.2.2.2.2.2) a1.2.1).bind fun t16 => bif decide ((([] : List (OutT)).length + ([t16] : List (OutT)).length) * 168 ≤ 140737488355328) then (r (t1.1, t1.2.1, t1.2.2.1, t1.2.2.2.1, t1.2.2.2.2.1, t1.2.2.2.2.2.1, t1.2.2.2.2.2.2.1.set (a1.2.1 : Int).toNat t14, t1.2.2.2.2.2.2.2) ([] : List (RecT)) (([] : List (OutT)) ++ ([t16] : List (OutT)))) else (none)) else (none)) else (none))))))
theorem spec_OnGot_se {ρ : Type}  (r : (RaftT) → (List (RecT)) → (List (OutT)) → Option ρ) (x : (RaftT) × MsgT) : stretch spec_OnGot_env [] [] ⟨spec_OnGot_R, fun (x : (RaftT) × (List (RecT)) × List (OutT)) => r x.1 x.2.1 x.2.2⟩ false [.code spec_OnGot_body] spec_OnGot_E x = spec_OnGot_be  r x.1 x.2 := by kernel_rfl
abbrev spec_OnGot_r : (RaftT) → (List (RecT)) → (List (OutT)) → Option ((RaftT) × (List (RecT)) × List (OutT)) := (fun (y0 : RaftT) (y1 : List (RecT)) (y2 : List (OutT)) => some (y0, y1, y2))
noncomputable def spec_OnGot_d (a0 : RaftT) (a1 : MsgT) : Option ((RaftT) × (List (RecT)) × List (OutT)) := spec_OnGot_be spec_OnGot_r a0 a1
noncomputable def spec_OnGot : (RaftT) → (MsgT) → Option ((RaftT) × (List (RecT)) × List (OutT)) := shut spec_OnGot_d
theorem spec_OnGot_def (a0 : RaftT) (a1 : MsgT) : spec_OnGot a0 a1 = spec_OnGot_d a0 a1 := congrFun (congrFun (shut_eq _) a0) a1
noncomputable def con_spec_OnGot : Con := ⟨[(.val (.c (.pair (.int .i64) (.pair (.int .i64) (.pair (.int .i64) (.pair (.int .i64) (.pair (.pair (.int .i64) (.pair (.int .i64) (.ro (.pair (.int .i64) (.pair (.int .i64) (.pair (.int .i64) (.pair (.int .i64) (.pair (.int .i64) .str)))))))) (.pair (.ro (.int .i64)) (.pair (.ro (.int .i64)) (.ro (.int .i64))))))))) true)), (.val (.c (.pair (.int .i64) (.pair (.int .i64) (.pair (.int .i64) (.pair (.int .i64) (.pair (.int .i64) (.pair (.int .i64) (.pair .bool (.pair (.int .i64) (.pair (.int .i64) (.pair .str (.pair (.pair (.int .i64) (.pair (.int .i64) (.pair (.int .i64) (.pair (.int .i64) .str)))) (.ro (.pair (.int .i64) (.pair (.int .i64) (.pair (.int .i64) (.pair (.int .i64) (.pair (.int .i64) .str))))))))))))))))) true))], [(.c (.pair (.int .i64) (.pair (.int .i64) (.pair (.int .i64) (.pair (.int .i64) (.pair (.pair (.int .i64) (.pair (.int .i64) (.own (.pair (.int .i64) (.pair (.int .i64) (.pair (.int .i64) (.pair (.int .i64) (.pair (.int .i64) .str)))))))) (.pair (.own (.int .i64)) (.pair (.own (.int .i64)) (.own (.int .i64))))))))) true), (.c (.own (.pair (.int .i64) (.pair (.int .i64) (.pair (.int .i64) (.pair (.int .i64) (.pair (.int .i64) (.pair (.int .i64) (.pair (.int .i64) (.pair (.int .i64) (.pair (.int .i64) .str)))))))))) false), (.c (.own (.pair (.int .i64) (.pair (.int .i64) (.pair (.int .i64) (.pair (.int .i64) (.pair (.int .i64) (.pair (.int .i64) (.pair (.int .i64) (.pair .bool (.pair (.int .i64) (.pair (.int .i64) (.pair .str (.pair (.pair (.int .i64) (.pair (.int .i64) (.pair (.int .i64) (.pair (.int .i64) .str)))) (.list (.pair (.int .i64) (.pair (.int .i64) (.pair (.int .i64) (.pair (.int .i64) (.pair (.int .i64) .str))))))))))))))))))) false)], fun (x : (RaftT) × MsgT) => spec_OnGot x.1 x.2⟩
abbrev spec_OnGot_fs (n : Nat) : List (Nat × LabK (VKs (con_spec_OnGot.rs ++ outs con_spec_OnGot.ps))) := []
theorem ent_spec_OnGot : Enters Go.Proofs.Tryz.prog 35 := enters_of Go.Proofs.Tryz.func35 (c := spec_OnGot_body) (by kernel_rfl) (by kernel_rfl)
theorem hold_spec_OnGot : Holds Go.Proofs.Tryz.prog 35 con_spec_OnGot :=
  holds_of (E := spec_OnGot_env) (con := con_spec_OnGot) (fn := Go.Proofs.Tryz.f35) (body := spec_OnGot_body) (ids := []) (Rsrc := [(.cell 4), (.slot 5), (.slot 6)]) (fs := spec_OnGot_fs) prog_mixed (cs_of (E := spec_OnGot_env) ⟨⟨ent_spec_l1Max, hold_spec_l1Max⟩, ⟨ent_spec_l10End, hold_spec_l10End⟩, ⟨ent_spec_l10Same, hold_spec_l10Same⟩, ⟨ent_spec_l10Vote, hold_spec_l10Vote⟩, ⟨ent_spec_l10Hears, hold_spec_l10Hears⟩, ⟨ent_spec_l10Follow, hold_spec_l10Follow⟩, ⟨ent_spec_l10Commit, hold_spec_l10Commit⟩, ⟨ent_spec_l1Min, hold_spec_l1Min⟩, ⟨ent_spec_l10Send, hold_spec_l10Send⟩, trivial⟩) (tabOk_of (E := spec_OnGot_env) tab_ok) Go.Proofs.Tryz.func35 (by kernel_rfl) (by kernel_rfl) (by kernel_rfl)
    trivial (fun n => trivial)
    (fun x y h => ⟨0, (spec_OnGot_se spec_OnGot_r x).trans ((spec_OnGot_def x.1 x.2).symm.trans h)⟩)
/-! 118 loop.example/g00106/laws.szCmd -/
noncomputable def laws_szCmd_body : Code := (Go.Proofs.Tryz.f118.body).getD .skip
noncomputable def laws_szCmd_env : Env := { types := tab, cons := [] }
abbrev laws_szCmd_E : Lab := ⟨[(.c (.pair (.int .i64) (.pair (.int .i64) (.pair (.int .i64) (.pair (.int .i64) .str)))) true), (.c (.int .i64) false)], [(.slot 0), (.slot 1)], []⟩
abbrev laws_szCmd_R : Lab := ⟨[(.c (.int .i64) false)], [(.slot 4)], []⟩
def laws_szCmd_be {ρ : Type}  (r : Int → Option ρ) (a0 : CmdT) (a1 : Int) : Option ρ := bif decide ((wr .i64 (a1 - (a0.2.2.2.2.size : Int))) < 0) then (r (-1)) else (r (wr .i64 (a1 - (a0.2.2.2.2.size : Int))))
theorem laws_szCmd_se {ρ : Type}  (r : Int → Option ρ) (x : (CmdT) × Int) : stretch laws_szCmd_env [] [] ⟨laws_szCmd_R, fun (x : Int) => r x⟩ false [.code laws_szCmd_body] laws_szCmd_E x = laws_szCmd_be  r x.1 x.2 := by kernel_rfl
abbrev laws_szCmd_r : Int → Option Int := (fun (y0 : Int) => some y0)
noncomputable def laws_szCmd_d (a0 : CmdT) (a1 : Int) : Option Int := laws_szCmd_be laws_szCmd_r a0 a1
noncomputable def laws_szCmd : (CmdT) → Int → Option Int := shut laws_szCmd_d
theorem laws_szCmd_def (a0 : CmdT) (a1 : Int) : laws_szCmd a0 a1 = laws_szCmd_d a0 a1 := congrFun (congrFun (shut_eq _) a0) a1
noncomputable def con_laws_szCmd : Con := ⟨[(.val (.c (.pair (.int .i64) (.pair (.int .i64) (.pair (.int .i64) (.pair (.int .i64) .str)))) true)), (.val (.c (.int .i64) false))], [(.c (.int .i64) false)], fun (x : (CmdT) × Int) => laws_szCmd x.1 x.2⟩
abbrev laws_szCmd_fs (n : Nat) : List (Nat × LabK (VKs (con_laws_szCmd.rs ++ outs con_laws_szCmd.ps))) := []
theorem ent_laws_szCmd : Enters Go.Proofs.Tryz.prog 118 := enters_of Go.Proofs.Tryz.func118 (c := laws_szCmd_body) (by kernel_rfl) (by kernel_rfl)
theorem hold_laws_szCmd : Holds Go.Proofs.Tryz.prog 118 con_laws_szCmd :=
  holds_of (E := laws_szCmd_env) (con := con_laws_szCmd) (fn := Go.Proofs.Tryz.f118) (body := laws_szCmd_body) (ids := []) (Rsrc := [(.slot 4)]) (fs := laws_szCmd_fs) prog_mixed (cs_of (E := laws_szCmd_env) trivial) (tabOk_of (E := laws_szCmd_env) tab_ok) Go.Proofs.Tryz.func118 (by kernel_rfl) (by kernel_rfl) (by kernel_rfl)
    trivial (fun n => trivial)
    (fun x y h => ⟨0, (laws_szCmd_se laws_szCmd_r x).trans ((laws_szCmd_def x.1 x.2).symm.trans h)⟩)
/-! 164 loop.example/g00106/laws.szEntry -/
noncomputable def laws_szEntry_body : Code := (Go.Proofs.Tryz.f164.body).getD .skip
noncomputable def laws_szEntry_env : Env := { types := tab, cons := [(118, con_laws_szCmd)] }
abbrev laws_szEntry_E : Lab := ⟨[(.c (.pair (.int .i64) (.pair (.int .i64) (.pair (.int .i64) (.pair (.int .i64) (.pair (.int .i64) .str))))) true), (.c (.int .i64) false)], [(.slot 0), (.slot 1)], []⟩
abbrev laws_szEntry_R : Lab := ⟨[(.c (.int .i64) false)], [(.slot 4)], []⟩
def laws_szEntry_be {ρ : Type}  (r : Int → Option ρ) (a0 : EntT) (a1 : Int) : Option ρ := (laws_szCmd a0.2 a1).bind fun t1 => bif decide (t1 < 0) then (r (-1)) else (r t1)
theorem laws_szEntry_se {ρ : Type}  (r : Int → Option ρ) (x : (EntT) × Int) : stretch laws_szEntry_env [] [] ⟨laws_szEntry_R, fun (x : Int) => r x⟩ false [.code laws_szEntry_body] laws_szEntry_E x = laws_szEntry_be  r x.1 x.2 := by kernel_rfl
abbrev laws_szEntry_r : Int → Option Int := (fun (y0 : Int) => some y0)
noncomputable def laws_szEntry_d (a0 : EntT) (a1 : Int) : Option Int := laws_szEntry_be laws_szEntry_r a0 a1
noncomputable def laws_szEntry : (EntT) → Int → Option Int := shut laws_szEntry_d
theorem laws_szEntry_def (a0 : EntT) (a1 : Int) : laws_szEntry a0 a1 = laws_szEntry_d a0 a1 := congrFun (congrFun (shut_eq _) a0) a1
noncomputable def con_laws_szEntry : Con := ⟨[(.val (.c (.pair (.int .i64) (.pair (.int .i64) (.pair (.int .i64) (.pair (.int .i64) (.pair (.int .i64) .str))))) true)), (.val (.c (.int .i64) false))], [(.c (.int .i64) false)], fun (x : (EntT) × Int) => laws_szEntry x.1 x.2⟩
abbrev laws_szEntry_fs (n : Nat) : List (Nat × LabK (VKs (con_laws_szEntry.rs ++ outs con_laws_szEntry.ps))) := []
theorem ent_laws_szEntry : Enters Go.Proofs.Tryz.prog 164 := enters_of Go.Proofs.Tryz.func164 (c := laws_szEntry_body) (by kernel_rfl) (by kernel_rfl)
theorem hold_laws_szEntry : Holds Go.Proofs.Tryz.prog 164 con_laws_szEntry :=
  holds_of (E := laws_szEntry_env) (con := con_laws_szEntry) (fn := Go.Proofs.Tryz.f164) (body := laws_szEntry_body) (ids := []) (Rsrc := [(.slot 4)]) (fs := laws_szEntry_fs) prog_mixed (cs_of (E := laws_szEntry_env) ⟨⟨ent_laws_szCmd, hold_laws_szCmd⟩, trivial⟩) (tabOk_of (E := laws_szEntry_env) tab_ok) Go.Proofs.Tryz.func164 (by kernel_rfl) (by kernel_rfl) (by kernel_rfl)
    trivial (fun n => trivial)
    (fun x y h => ⟨0, (laws_szEntry_se laws_szEntry_r x).trans ((laws_szEntry_def x.1 x.2).symm.trans h)⟩)
/-! 119 loop.example/g00106/laws.szEntryS -/
noncomputable def laws_szEntryS_body : Code := (Go.Proofs.Tryz.f119.body).getD .skip
noncomputable def laws_szEntryS_env : Env := { types := tab, cons := [(164, con_laws_szEntry)] }
abbrev laws_szEntryS_L5 : Lab := ⟨[(.c (.ro (.pair (.int .i64) (.pair (.int .i64) (.pair (.int .i64) (.pair (.int .i64) (.pair (.int .i64) .str)))))) false), (.c (.int .i64) false), (.c (.int .i64) false)], [(.slot 0), (.slot 1), (.slot 5)], []⟩
abbrev laws_szEntryS_E : Lab := ⟨[(.c (.ro (.pair (.int .i64) (.pair (.int .i64) (.pair (.int .i64) (.pair (.int .i64) (.pair (.int .i64) .str)))))) false), (.c (.int .i64) false)], [(.slot 0), (.slot 1)], []⟩
abbrev laws_szEntryS_R : Lab := ⟨[(.c (.int .i64) false)], [(.slot 4)], []⟩
def laws_szEntryS_b5 {ρ : Type} (l5 : (List (EntT)) → Int → Int → Option ρ) (r : Int → Option ρ) (x0 : List (EntT)) (x1 : Int) (x5 : Int) : Option ρ := bif decide (x5 < (x0.length : Int)) then ((idx x0 x5).bind fun v1 => (laws_szEntry v1 x1).bind fun t2 => bif decide (t2 < 0) then (r (-1)) else (l5 x0 t2 (wr .i64 (x5 + 1)))) else (r x1)
def laws_szEntryS_be {ρ : Type} (l5 : (List (EntT)) → Int → Int → Option ρ) (r : Int → Option ρ) (a0 : List (EntT)) (a1 : Int) : Option ρ := bif decide ((wr .i64 (a1 - (a0.length : Int))) < 0) then (r (-1)) else (l5 a0 (wr .i64 (a1 - (a0.length : Int))) 0)
theorem laws_szEntryS_s5 {ρ : Type} (l5 : (List (EntT)) → Int → Int → Option ρ) (r : Int → Option ρ) (x : (List (EntT)) × Int × Int) : stretch laws_szEntryS_env [5] [(5, ⟨laws_szEntryS_L5, fun (x : (List (EntT)) × Int × Int) => l5 x.1 x.2.1 x.2.2⟩)] ⟨laws_szEntryS_R, fun (x : Int) => r x⟩ true ((seek 5 laws_szEntryS_body []).getD []) laws_szEntryS_L5 x = laws_szEntryS_b5 l5 r x.1 x.2.1 x.2.2 := by kernel_rfl
theorem laws_szEntryS_se {ρ : Type} (l5 : (List (EntT)) → Int → Int → Option ρ) (r : Int → Option ρ) (x : (List (EntT)) × Int) : stretch laws_szEntryS_env [5] [(5, ⟨laws_szEntryS_L5, fun (x : (List (EntT)) × Int × Int) => l5 x.1 x.2.1 x.2.2⟩)] ⟨laws_szEntryS_R, fun (x : Int) => r x⟩ false [.code laws_szEntryS_body] laws_szEntryS_E x = laws_szEntryS_be l5 r x.1 x.2 := by kernel_rfl
abbrev laws_szEntryS_r : Int → Option Int := (fun (y0 : Int) => some y0)
def laws_szEntryS_ls : Nat → ((List (EntT)) → Int → Int → Option Int)
  | 0 => (fun _ _ _ => none)
  | n + 1 => laws_szEntryS_b5 (laws_szEntryS_ls n) laws_szEntryS_r
abbrev laws_szEntryS_l5 (n : Nat) : (List (EntT)) → Int → Int → Option Int := (laws_szEntryS_ls n)
def laws_szEntryS_G  (v1 : EntT) (x1 : Int) : Option (Int ⊕ Int) := (laws_szEntry v1 x1).bind fun t2 => bif decide (t2 < 0) then (some (.inr (-1))) else (some (.inl t2))
def laws_szEntryS_fin (x1 : Int) : Option Int := some x1
def laws_szEntryS_c (x0 : List (EntT)) (x1 : Int) (x5 : Int) : Option Int := bif lok x0 && decide (x5 = 0) then foldE (fun v (s : Int) => laws_szEntryS_G  v s) (fun (s : Int) => laws_szEntryS_fin  s) x0 x1 else none
theorem laws_szEntryS_c_ok (x0 : List (EntT)) (x1 : Int) (x5 : Int) (y : Int) (h : laws_szEntryS_c x0 x1 x5 = some y) : ∃ n, laws_szEntryS_l5 n x0 x1 x5 = some y := by
  obtain ⟨hg, h2⟩ := cond_some h
  simp only [Bool.and_eq_true, lok_iff, decide_eq_true_eq] at hg
  obtain ⟨hl, rfl⟩ := hg
  exact foldE_ok x0 hl (fun n i (s : Int) => laws_szEntryS_l5 n x0 s i) (fun v (s : Int) => laws_szEntryS_G  v s) (fun (s : Int) => laws_szEntryS_fin  s)
    (fun n s => by simp only [laws_szEntryS_ls, laws_szEntryS_b5, laws_szEntryS_r, laws_szEntryS_fin, Int.lt_irrefl, decide_false, cond_false, cond_bind, bind_bind', some_bind', none_bind'])
    (fun n i v s h1 hi hw => by simp only [laws_szEntryS_ls, laws_szEntryS_b5, laws_szEntryS_r, laws_szEntryS_G, h1, hi, hw, decide_true, cond_true, cond_bind, bind_bind', some_bind', none_bind', sm_inl, sm_inr]) _ y h2
def laws_szEntryS_d (a0 : List (EntT)) (a1 : Int) : Option Int := laws_szEntryS_be laws_szEntryS_c laws_szEntryS_r a0 a1
theorem laws_szEntryS_ok (a0 : List (EntT)) (a1 : Int) (y : Int) (h : laws_szEntryS_d a0 a1 = some y) : ∃ n, laws_szEntryS_be (laws_szEntryS_l5 n) laws_szEntryS_r a0 a1 = some y := by
  have e : ∀ l, laws_szEntryS_be l laws_szEntryS_r a0 a1 = (laws_szEntryS_be (ρ := ((List (EntT)) × Int × Int) ⊕ Int) (fun x0 x1 x5 => some (.inl (x0, x1, x5))) (fun y0 => some (.inr y0)) a0 a1).bind (sm fun a => l a.1 a.2.1 a.2.2) := by
    intro l
    simp only [laws_szEntryS_be, laws_szEntryS_r, cond_bind, bind_bind', some_bind', none_bind', sm_inl, sm_inr]
  unfold laws_szEntryS_d at h
  rw [e] at h
  obtain ⟨n, hn⟩ := be_ok _ (fun (a : (List (EntT)) × Int × Int) => laws_szEntryS_c a.1 a.2.1 a.2.2) (fun n (a : (List (EntT)) × Int × Int) => laws_szEntryS_l5 n a.1 a.2.1 a.2.2) (fun a y h => laws_szEntryS_c_ok a.1 a.2.1 a.2.2 y h) y h
  exact ⟨n, by rw [e]; exact hn⟩
noncomputable def laws_szEntryS : (List (EntT)) → Int → Option Int := shut laws_szEntryS_d
theorem laws_szEntryS_def (a0 : List (EntT)) (a1 : Int) : laws_szEntryS a0 a1 = laws_szEntryS_d a0 a1 := congrFun (congrFun (shut_eq _) a0) a1
theorem laws_szEntryS_ok' : ∀ (a0 : List (EntT)) (a1 : Int) (y : Int), laws_szEntryS a0 a1 = some y → ∃ n, laws_szEntryS_be (laws_szEntryS_l5 n) laws_szEntryS_r a0 a1 = some y := fun a0 a1 y h => laws_szEntryS_ok a0 a1 y ((laws_szEntryS_def a0 a1).symm.trans h)
noncomputable def con_laws_szEntryS : Con := ⟨[(.val (.c (.ro (.pair (.int .i64) (.pair (.int .i64) (.pair (.int .i64) (.pair (.int .i64) (.pair (.int .i64) .str)))))) false)), (.val (.c (.int .i64) false))], [(.c (.int .i64) false)], fun (x : (List (EntT)) × Int) => laws_szEntryS x.1 x.2⟩
abbrev laws_szEntryS_fs (n : Nat) : List (Nat × LabK (VKs (con_laws_szEntryS.rs ++ outs con_laws_szEntryS.ps))) := [(5, ⟨laws_szEntryS_L5, fun (x : (List (EntT)) × Int × Int) => laws_szEntryS_l5 n x.1 x.2.1 x.2.2⟩)]
theorem ent_laws_szEntryS : Enters Go.Proofs.Tryz.prog 119 := enters_of Go.Proofs.Tryz.func119 (c := laws_szEntryS_body) (by kernel_rfl) (by kernel_rfl)
theorem hold_laws_szEntryS : Holds Go.Proofs.Tryz.prog 119 con_laws_szEntryS :=
  holds_of (E := laws_szEntryS_env) (con := con_laws_szEntryS) (fn := Go.Proofs.Tryz.f119) (body := laws_szEntryS_body) (ids := [5]) (Rsrc := [(.slot 4)]) (fs := laws_szEntryS_fs) prog_mixed (cs_of (E := laws_szEntryS_env) ⟨⟨ent_laws_szEntry, hold_laws_szEntry⟩, trivial⟩) (tabOk_of (E := laws_szEntryS_env) tab_ok) Go.Proofs.Tryz.func119 (by kernel_rfl) (by kernel_rfl) (by kernel_rfl)
    ⟨(fun _ => rfl), trivial⟩ (fun n => ⟨(fun x => (laws_szEntryS_s5 (laws_szEntryS_l5 n) laws_szEntryS_r x).symm), trivial⟩)
    (fun x y h => by
      obtain ⟨n, hn⟩ := laws_szEntryS_ok' x.1 x.2 y h
      exact ⟨n, (laws_szEntryS_se (laws_szEntryS_l5 n) laws_szEntryS_r x).trans hn⟩)
/-! 116 loop.example/g00106/laws.szHard -/
noncomputable def laws_szHard_body : Code := (Go.Proofs.Tryz.f116.body).getD .skip
noncomputable def laws_szHard_env : Env := { types := tab, cons := [(119, con_laws_szEntryS)] }
abbrev laws_szHard_E : Lab := ⟨[(.c (.pair (.int .i64) (.pair (.int .i64) (.ro (.pair (.int .i64) (.pair (.int .i64) (.pair (.int .i64) (.pair (.int .i64) (.pair (.int .i64) .str)))))))) true), (.c (.int .i64) false)], [(.slot 0), (.slot 1)], []⟩
abbrev laws_szHard_R : Lab := ⟨[(.c (.int .i64) false)], [(.slot 4)], []⟩
def laws_szHard_be {ρ : Type}  (r : Int → Option ρ) (a0 : HardT) (a1 : Int) : Option ρ := (laws_szEntryS a0.2.2 a1).bind fun t1 => bif decide (t1 < 0) then (r (-1)) else (r t1)
theorem laws_szHard_se {ρ : Type}  (r : Int → Option ρ) (x : (HardT) × Int) : stretch laws_szHard_env [] [] ⟨laws_szHard_R, fun (x : Int) => r x⟩ false [.code laws_szHard_body] laws_szHard_E x = laws_szHard_be  r x.1 x.2 := by kernel_rfl
abbrev laws_szHard_r : Int → Option Int := (fun (y0 : Int) => some y0)
noncomputable def laws_szHard_d (a0 : HardT) (a1 : Int) : Option Int := laws_szHard_be laws_szHard_r a0 a1
noncomputable def laws_szHard : (HardT) → Int → Option Int := shut laws_szHard_d
theorem laws_szHard_def (a0 : HardT) (a1 : Int) : laws_szHard a0 a1 = laws_szHard_d a0 a1 := congrFun (congrFun (shut_eq _) a0) a1
noncomputable def con_laws_szHard : Con := ⟨[(.val (.c (.pair (.int .i64) (.pair (.int .i64) (.ro (.pair (.int .i64) (.pair (.int .i64) (.pair (.int .i64) (.pair (.int .i64) (.pair (.int .i64) .str)))))))) true)), (.val (.c (.int .i64) false))], [(.c (.int .i64) false)], fun (x : (HardT) × Int) => laws_szHard x.1 x.2⟩
abbrev laws_szHard_fs (n : Nat) : List (Nat × LabK (VKs (con_laws_szHard.rs ++ outs con_laws_szHard.ps))) := []
theorem ent_laws_szHard : Enters Go.Proofs.Tryz.prog 116 := enters_of Go.Proofs.Tryz.func116 (c := laws_szHard_body) (by kernel_rfl) (by kernel_rfl)
theorem hold_laws_szHard : Holds Go.Proofs.Tryz.prog 116 con_laws_szHard :=
  holds_of (E := laws_szHard_env) (con := con_laws_szHard) (fn := Go.Proofs.Tryz.f116) (body := laws_szHard_body) (ids := []) (Rsrc := [(.slot 4)]) (fs := laws_szHard_fs) prog_mixed (cs_of (E := laws_szHard_env) ⟨⟨ent_laws_szEntryS, hold_laws_szEntryS⟩, trivial⟩) (tabOk_of (E := laws_szHard_env) tab_ok) Go.Proofs.Tryz.func116 (by kernel_rfl) (by kernel_rfl) (by kernel_rfl)
    trivial (fun n => trivial)
    (fun x y h => ⟨0, (laws_szHard_se laws_szHard_r x).trans ((laws_szHard_def x.1 x.2).symm.trans h)⟩)
end
end Go.TM


/- Functions of the program, as pure functions, and that they are so. -/
set_option linter.unusedVariables false
set_option linter.unusedSimpArgs false
set_option maxRecDepth 100000
namespace Go.TM
open Go
noncomputable section
/-! 117 loop.example/g00106/laws.szIntS -/
noncomputable def laws_szIntS_body : Code := (Go.Proofs.Tryz.f117.body).getD .skip
noncomputable def laws_szIntS_env : Env := { types := tab, cons := [] }
abbrev laws_szIntS_E : Lab := ⟨[(.c (.ro (.int .i64)) false), (.c (.int .i64) false)], [(.slot 0), (.slot 1)], []⟩
abbrev laws_szIntS_R : Lab := ⟨[(.c (.int .i64) false)], [(.slot 4)], []⟩
def laws_szIntS_be {ρ : Type}  (r : Int → Option ρ) (a0 : List Int) (a1 : Int) : Option ρ := bif decide ((wr .i64 (a1 - (a0.length : Int))) < 0) then (r (-1)) else (r (wr .i64 (a1 - (a0.length : Int))))
theorem laws_szIntS_se {ρ : Type}  (r : Int → Option ρ) (x : List Int × Int) : stretch laws_szIntS_env [] [] ⟨laws_szIntS_R, fun (x : Int) => r x⟩ false [.code laws_szIntS_body] laws_szIntS_E x = laws_szIntS_be  r x.1 x.2 := by kernel_rfl
abbrev laws_szIntS_r : Int → Option Int := (fun (y0 : Int) => some y0)
noncomputable def laws_szIntS_d (a0 : List Int) (a1 : Int) : Option Int := laws_szIntS_be laws_szIntS_r a0 a1
noncomputable def laws_szIntS : List Int → Int → Option Int := shut laws_szIntS_d
theorem laws_szIntS_def (a0 : List Int) (a1 : Int) : laws_szIntS a0 a1 = laws_szIntS_d a0 a1 := congrFun (congrFun (shut_eq _) a0) a1
noncomputable def con_laws_szIntS : Con := ⟨[(.val (.c (.ro (.int .i64)) false)), (.val (.c (.int .i64) false))], [(.c (.int .i64) false)], fun (x : List Int × Int) => laws_szIntS x.1 x.2⟩
abbrev laws_szIntS_fs (n : Nat) : List (Nat × LabK (VKs (con_laws_szIntS.rs ++ outs con_laws_szIntS.ps))) := []
theorem ent_laws_szIntS : Enters Go.Proofs.Tryz.prog 117 := enters_of Go.Proofs.Tryz.func117 (c := laws_szIntS_body) (by kernel_rfl) (by kernel_rfl)
theorem hold_laws_szIntS : Holds Go.Proofs.Tryz.prog 117 con_laws_szIntS :=
  holds_of (E := laws_szIntS_env) (con := con_laws_szIntS) (fn := Go.Proofs.Tryz.f117) (body := laws_szIntS_body) (ids := []) (Rsrc := [(.slot 4)]) (fs := laws_szIntS_fs) prog_mixed (cs_of (E := laws_szIntS_env) trivial) (tabOk_of (E := laws_szIntS_env) tab_ok) Go.Proofs.Tryz.func117 (by kernel_rfl) (by kernel_rfl) (by kernel_rfl)
    trivial (fun n => trivial)
    (fun x y h => ⟨0, (laws_szIntS_se laws_szIntS_r x).trans ((laws_szIntS_def x.1 x.2).symm.trans h)⟩)
/-! 38 loop.example/g00106/laws.szRaft -/
noncomputable def laws_szRaft_body : Code := (Go.Proofs.Tryz.f38.body).getD .skip
noncomputable def laws_szRaft_env : Env := { types := tab, cons := [(116, con_laws_szHard), (117, con_laws_szIntS)] }
abbrev laws_szRaft_E : Lab := ⟨[(.c (.pair (.int .i64) (.pair (.int .i64) (.pair (.int .i64) (.pair (.int .i64) (.pair (.pair (.int .i64) (.pair (.int .i64) (.ro (.pair (.int .i64) (.pair (.int .i64) (.pair (.int .i64) (.pair (.int .i64) (.pair (.int .i64) .str)))))))) (.pair (.ro (.int .i64)) (.pair (.ro (.int .i64)) (.ro (.int .i64))))))))) true), (.c (.int .i64) false)], [(.slot 0), (.slot 1)], []⟩
abbrev laws_szRaft_R : Lab := ⟨[(.c (.int .i64) false)], [(.slot 4)], []⟩
def laws_szRaft_be {ρ : Type}  (r : Int → Option ρ) (a0 : RaftT) (a1 : Int) : Option ρ := (laws_szHard a0.2.2.2.2.1 a1).bind fun t1 => bif decide (t1 < 0) then (r (-1)) else ((laws_szIntS a0.2.2.2.2.2.1 t1).bind fun t2 => bif decide (t2 < 0) then (r (-1)) else ((laws_szIntS a0.2.2.2.2.2.2.1 t2).bind fun t3 => bif decide (t3 < 0) then (r (-1)) else ((laws_szIntS a0.2.2.2.2.2.2.2 t3).bind fun t4 => bif decide (t4 < 0) then (r (-1)) else (r t4))))
theorem laws_szRaft_se {ρ : Type}  (r : Int → Option ρ) (x : (RaftT) × Int) : stretch laws_szRaft_env [] [] ⟨laws_szRaft_R, fun (x : Int) => r x⟩ false [.code laws_szRaft_body] laws_szRaft_E x = laws_szRaft_be  r x.1 x.2 := by kernel_rfl
abbrev laws_szRaft_r : Int → Option Int := (fun (y0 : Int) => some y0)
noncomputable def laws_szRaft_d (a0 : RaftT) (a1 : Int) : Option Int := laws_szRaft_be laws_szRaft_r a0 a1
noncomputable def laws_szRaft : (RaftT) → Int → Option Int := shut laws_szRaft_d
theorem laws_szRaft_def (a0 : RaftT) (a1 : Int) : laws_szRaft a0 a1 = laws_szRaft_d a0 a1 := congrFun (congrFun (shut_eq _) a0) a1
noncomputable def con_laws_szRaft : Con := ⟨[(.val (.c (.pair (.int .i64) (.pair (.int .i64) (.pair (.int .i64) (.pair (.int .i64) (.pair (.pair (.int .i64) (.pair (.int .i64) (.ro (.pair (.int .i64) (.pair (.int .i64) (.pair (.int .i64) (.pair (.int .i64) (.pair (.int .i64) .str)))))))) (.pair (.ro (.int .i64)) (.pair (.ro (.int .i64)) (.ro (.int .i64))))))))) true)), (.val (.c (.int .i64) false))], [(.c (.int .i64) false)], fun (x : (RaftT) × Int) => laws_szRaft x.1 x.2⟩
abbrev laws_szRaft_fs (n : Nat) : List (Nat × LabK (VKs (con_laws_szRaft.rs ++ outs con_laws_szRaft.ps))) := []
theorem ent_laws_szRaft : Enters Go.Proofs.Tryz.prog 38 := enters_of Go.Proofs.Tryz.func38 (c := laws_szRaft_body) (by kernel_rfl) (by kernel_rfl)
theorem hold_laws_szRaft : Holds Go.Proofs.Tryz.prog 38 con_laws_szRaft :=
  holds_of (E := laws_szRaft_env) (con := con_laws_szRaft) (fn := Go.Proofs.Tryz.f38) (body := laws_szRaft_body) (ids := []) (Rsrc := [(.slot 4)]) (fs := laws_szRaft_fs) prog_mixed (cs_of (E := laws_szRaft_env) ⟨⟨ent_laws_szHard, hold_laws_szHard⟩, ⟨ent_laws_szIntS, hold_laws_szIntS⟩, trivial⟩) (tabOk_of (E := laws_szRaft_env) tab_ok) Go.Proofs.Tryz.func38 (by kernel_rfl) (by kernel_rfl) (by kernel_rfl)
    trivial (fun n => trivial)
    (fun x y h => ⟨0, (laws_szRaft_se laws_szRaft_r x).trans ((laws_szRaft_def x.1 x.2).symm.trans h)⟩)
/-! 39 loop.example/g00106/laws.szMsg -/
noncomputable def laws_szMsg_body : Code := (Go.Proofs.Tryz.f39.body).getD .skip
noncomputable def laws_szMsg_env : Env := { types := tab, cons := [(118, con_laws_szCmd), (119, con_laws_szEntryS)] }
abbrev laws_szMsg_E : Lab := ⟨[(.c (.pair (.int .i64) (.pair (.int .i64) (.pair (.int .i64) (.pair (.int .i64) (.pair (.int .i64) (.pair (.int .i64) (.pair .bool (.pair (.int .i64) (.pair (.int .i64) (.pair .str (.pair (.pair (.int .i64) (.pair (.int .i64) (.pair (.int .i64) (.pair (.int .i64) .str)))) (.ro (.pair (.int .i64) (.pair (.int .i64) (.pair (.int .i64) (.pair (.int .i64) (.pair (.int .i64) .str))))))))))))))))) true), (.c (.int .i64) false)], [(.slot 0), (.slot 1)], []⟩
abbrev laws_szMsg_R : Lab := ⟨[(.c (.int .i64) false)], [(.slot 4)], []⟩
def laws_szMsg_be {ρ : Type}  (r : Int → Option ρ) (a0 : MsgT) (a1 : Int) : Option ρ := bif decide ((wr .i64 (a1 - (a0.2.2.2.2.2.2.2.2.2.1.size : Int))) < 0) then (r (-1)) else ((laws_szCmd a0.2.2.2.2.2.2.2.2.2.2.1 (wr .i64 (a1 - (a0.2.2.2.2.2.2.2.2.2.1.size : Int)))).bind fun t1 => bif decide (t1 < 0) then (r (-1)) else ((laws_szEntryS a0.2.2.2.2.2.2.2.2.2.2.2 t1).bind fun t2 => bif decide (t2 < 0) then (r (-1)) else (r t2)))
theorem laws_szMsg_se {ρ : Type}  (r : Int → Option ρ) (x : (MsgT) × Int) : stretch laws_szMsg_env [] [] ⟨laws_szMsg_R, fun (x : Int) => r x⟩ false [.code laws_szMsg_body] laws_szMsg_E x = laws_szMsg_be  r x.1 x.2 := by kernel_rfl
abbrev laws_szMsg_r : Int → Option Int := (fun (y0 : Int) => some y0)
noncomputable def laws_szMsg_d (a0 : MsgT) (a1 : Int) : Option Int := laws_szMsg_be laws_szMsg_r a0 a1
noncomputable def laws_szMsg : (MsgT) → Int → Option Int := shut laws_szMsg_d
theorem laws_szMsg_def (a0 : MsgT) (a1 : Int) : laws_szMsg a0 a1 = laws_szMsg_d a0 a1 := congrFun (congrFun (shut_eq _) a0) a1
noncomputable def con_laws_szMsg : Con := ⟨[(.val (.c (.pair (.int .i64) (.pair (.int .i64) (.pair (.int .i64) (.pair (.int .i64) (.pair (.int .i64) (.pair (.int .i64) (.pair .bool (.pair (.int .i64) (.pair (.int .i64) (.pair .str (.pair (.pair (.int .i64) (.pair (.int .i64) (.pair (.int .i64) (.pair (.int .i64) .str)))) (.ro (.pair (.int .i64) (.pair (.int .i64) (.pair (.int .i64) (.pair (.int .i64) (.pair (.int .i64) .str))))))))))))))))) true)), (.val (.c (.int .i64) false))], [(.c (.int .i64) false)], fun (x : (MsgT) × Int) => laws_szMsg x.1 x.2⟩
abbrev laws_szMsg_fs (n : Nat) : List (Nat × LabK (VKs (con_laws_szMsg.rs ++ outs con_laws_szMsg.ps))) := []
theorem ent_laws_szMsg : Enters Go.Proofs.Tryz.prog 39 := enters_of Go.Proofs.Tryz.func39 (c := laws_szMsg_body) (by kernel_rfl) (by kernel_rfl)
theorem hold_laws_szMsg : Holds Go.Proofs.Tryz.prog 39 con_laws_szMsg :=
  holds_of (E := laws_szMsg_env) (con := con_laws_szMsg) (fn := Go.Proofs.Tryz.f39) (body := laws_szMsg_body) (ids := []) (Rsrc := [(.slot 4)]) (fs := laws_szMsg_fs) prog_mixed (cs_of (E := laws_szMsg_env) ⟨⟨ent_laws_szCmd, hold_laws_szCmd⟩, ⟨ent_laws_szEntryS, hold_laws_szEntryS⟩, trivial⟩) (tabOk_of (E := laws_szMsg_env) tab_ok) Go.Proofs.Tryz.func39 (by kernel_rfl) (by kernel_rfl) (by kernel_rfl)
    trivial (fun n => trivial)
    (fun x y h => ⟨0, (laws_szMsg_se laws_szMsg_r x).trans ((laws_szMsg_def x.1 x.2).symm.trans h)⟩)
/-! 122 loop.example/g00106/laws.toCmd -/
noncomputable def laws_toCmd_body : Code := (Go.Proofs.Tryz.f122.body).getD .skip
noncomputable def laws_toCmd_env : Env := { types := tab, cons := [] }
abbrev laws_toCmd_E : Lab := ⟨[(.c (.pair (.int .i64) (.pair (.int .i64) (.pair (.int .i64) (.pair (.int .i64) .str)))) true)], [(.slot 0)], []⟩
abbrev laws_toCmd_R : Lab := ⟨[(.c (.pair (.int .i64) (.pair (.int .i64) (.pair (.int .i64) (.pair (.int .i64) .str)))) true)], [(.cell 2)], []⟩
def laws_toCmd_be {ρ : Type}  (r : (CmdT) → Option ρ) (a0 : CmdT) : Option ρ := r a0
theorem laws_toCmd_se {ρ : Type}  (r : (CmdT) → Option ρ) (x : CmdT) : stretch laws_toCmd_env [] [] ⟨laws_toCmd_R, fun (x : CmdT) => r x⟩ false [.code laws_toCmd_body] laws_toCmd_E x = laws_toCmd_be  r x := by kernel_rfl
abbrev laws_toCmd_r : (CmdT) → Option (CmdT) := (fun (y0 : CmdT) => some y0)
noncomputable def laws_toCmd_d (a0 : CmdT) : Option (CmdT) := laws_toCmd_be laws_toCmd_r a0
noncomputable def laws_toCmd : (CmdT) → Option (CmdT) := shut laws_toCmd_d
theorem laws_toCmd_def (a0 : CmdT) : laws_toCmd a0 = laws_toCmd_d a0 := congrFun (shut_eq _) a0
noncomputable def con_laws_toCmd : Con := ⟨[(.val (.c (.pair (.int .i64) (.pair (.int .i64) (.pair (.int .i64) (.pair (.int .i64) .str)))) true))], [(.c (.pair (.int .i64) (.pair (.int .i64) (.pair (.int .i64) (.pair (.int .i64) .str)))) true)], fun (x : CmdT) => laws_toCmd x⟩
abbrev laws_toCmd_fs (n : Nat) : List (Nat × LabK (VKs (con_laws_toCmd.rs ++ outs con_laws_toCmd.ps))) := []
theorem ent_laws_toCmd : Enters Go.Proofs.Tryz.prog 122 := enters_of Go.Proofs.Tryz.func122 (c := laws_toCmd_body) (by kernel_rfl) (by kernel_rfl)
theorem hold_laws_toCmd : Holds Go.Proofs.Tryz.prog 122 con_laws_toCmd :=
  holds_of (E := laws_toCmd_env) (con := con_laws_toCmd) (fn := Go.Proofs.Tryz.f122) (body := laws_toCmd_body) (ids := []) (Rsrc := [(.cell 2)]) (fs := laws_toCmd_fs) prog_mixed (cs_of (E := laws_toCmd_env) trivial) (tabOk_of (E := laws_toCmd_env) tab_ok) Go.Proofs.Tryz.func122 (by kernel_rfl) (by kernel_rfl) (by kernel_rfl)
    trivial (fun n => trivial)
    (fun x y h => ⟨0, (laws_toCmd_se laws_toCmd_r x).trans ((laws_toCmd_def x).symm.trans h)⟩)
/-! 165 loop.example/g00106/laws.toEntry -/
noncomputable def laws_toEntry_body : Code := (Go.Proofs.Tryz.f165.body).getD .skip
noncomputable def laws_toEntry_env : Env := { types := tab, cons := [(122, con_laws_toCmd)] }
abbrev laws_toEntry_E : Lab := ⟨[(.c (.pair (.int .i64) (.pair (.int .i64) (.pair (.int .i64) (.pair (.int .i64) (.pair (.int .i64) .str))))) true)], [(.slot 0)], []⟩
abbrev laws_toEntry_R : Lab := ⟨[(.c (.pair (.int .i64) (.pair (.int .i64) (.pair (.int .i64) (.pair (.int .i64) (.pair (.int .i64) .str))))) true)], [(.cell 2)], []⟩
def laws_toEntry_be {ρ : Type}  (r : (EntT) → Option ρ) (a0 : EntT) : Option ρ := (laws_toCmd a0.2).bind fun t1 => r (a0.1, t1)
theorem laws_toEntry_se {ρ : Type}  (r : (EntT) → Option ρ) (x : EntT) : stretch laws_toEntry_env [] [] ⟨laws_toEntry_R, fun (x : EntT) => r x⟩ false [.code laws_toEntry_body] laws_toEntry_E x = laws_toEntry_be  r x := by kernel_rfl
abbrev laws_toEntry_r : (EntT) → Option (EntT) := (fun (y0 : EntT) => some y0)
noncomputable def laws_toEntry_d (a0 : EntT) : Option (EntT) := laws_toEntry_be laws_toEntry_r a0
noncomputable def laws_toEntry : (EntT) → Option (EntT) := shut laws_toEntry_d
theorem laws_toEntry_def (a0 : EntT) : laws_toEntry a0 = laws_toEntry_d a0 := congrFun (shut_eq _) a0
noncomputable def con_laws_toEntry : Con := ⟨[(.val (.c (.pair (.int .i64) (.pair (.int .i64) (.pair (.int .i64) (.pair (.int .i64) (.pair (.int .i64) .str))))) true))], [(.c (.pair (.int .i64) (.pair (.int .i64) (.pair (.int .i64) (.pair (.int .i64) (.pair (.int .i64) .str))))) true)], fun (x : EntT) => laws_toEntry x⟩
abbrev laws_toEntry_fs (n : Nat) : List (Nat × LabK (VKs (con_laws_toEntry.rs ++ outs con_laws_toEntry.ps))) := []
theorem ent_laws_toEntry : Enters Go.Proofs.Tryz.prog 165 := enters_of Go.Proofs.Tryz.func165 (c := laws_toEntry_body) (by kernel_rfl) (by kernel_rfl)
theorem hold_laws_toEntry : Holds Go.Proofs.Tryz.prog 165 con_laws_toEntry :=
  holds_of (E := laws_toEntry_env) (con := con_laws_toEntry) (fn := Go.Proofs.Tryz.f165) (body := laws_toEntry_body) (ids := []) (Rsrc := [(.cell 2)]) (fs := laws_toEntry_fs) prog_mixed (cs_of (E := laws_toEntry_env) ⟨⟨ent_laws_toCmd, hold_laws_toCmd⟩, trivial⟩) (tabOk_of (E := laws_toEntry_env) tab_ok) Go.Proofs.Tryz.func165 (by kernel_rfl) (by kernel_rfl) (by kernel_rfl)
    trivial (fun n => trivial)
    (fun x y h => ⟨0, (laws_toEntry_se laws_toEntry_r x).trans ((laws_toEntry_def x).symm.trans h)⟩)
/-! 123 loop.example/g00106/laws.toEntryS -/
noncomputable def laws_toEntryS_body : Code := (Go.Proofs.Tryz.f123.body).getD .skip
noncomputable def laws_toEntryS_env : Env := { types := tab, cons := [(165, con_laws_toEntry)] }
abbrev laws_toEntryS_L3 : Lab := ⟨[(.c (.ro (.pair (.int .i64) (.pair (.int .i64) (.pair (.int .i64) (.pair (.int .i64) (.pair (.int .i64) .str)))))) false), (.c (.own (.pair (.int .i64) (.pair (.int .i64) (.pair (.int .i64) (.pair (.int .i64) (.pair (.int .i64) .str)))))) false), (.c (.int .i64) false)], [(.slot 0), (.slot 3), (.slot 4)], []⟩
abbrev laws_toEntryS_E : Lab := ⟨[(.c (.ro (.pair (.int .i64) (.pair (.int .i64) (.pair (.int .i64) (.pair (.int .i64) (.pair (.int .i64) .str)))))) false)], [(.slot 0)], []⟩
abbrev laws_toEntryS_R : Lab := ⟨[(.c (.own (.pair (.int .i64) (.pair (.int .i64) (.pair (.int .i64) (.pair (.int .i64) (.pair (.int .i64) .str)))))) false)], [(.slot 2)], []⟩
def laws_toEntryS_b3 {ρ : Type} (l3 : (List (EntT)) → (List (EntT)) → Int → Option ρ) (r : (List (EntT)) → Option ρ) (x0 : List (EntT)) (x3 : List (EntT)) (x4 : Int) : Option ρ := bif decide (x4 < (x0.length : Int)) then ((idx x0 x4).bind fun v1 => (laws_toEntry v1).bind fun t2 => bif decide (0 ≤ x4) && decide (x4 < (x3.length : Int)) then ((idx x3 x4).bind fun v3 => l3 x0 (x3.set (x4 : Int).toNat t2) (wr .i64 (x4 + 1))) else (none)) else (r x3)
def laws_toEntryS_be {ρ : Type} (l3 : (List (EntT)) → (List (EntT)) → Int → Option ρ) (r : (List (EntT)) → Option ρ) (a0 : List (EntT)) : Option ρ := bif decide ((a0.length : Int) = (a0.length : Int)) && decide (0 ≤ (a0.length : Int)) && decide ((a0.length : Int) * 56 ≤ 140737488355328) then (l3 a0 (List.replicate ((a0.length : Int) : Int).toNat (0, 0, 0, 0, 0, ⟨#[]⟩)) 0) else (none)
theorem laws_toEntryS_s3 {ρ : Type} (l3 : (List (EntT)) → (List (EntT)) → Int → Option ρ) (r : (List (EntT)) → Option ρ) (x : (List (EntT)) × (List (EntT)) × Int) : stretch laws_toEntryS_env [3] [(3, ⟨laws_toEntryS_L3, fun (x : (List (EntT)) × (List (EntT)) × Int) => l3 x.1 x.2.1 x.2.2⟩)] ⟨laws_toEntryS_R, fun (x : List (EntT)) => r x⟩ true ((seek 3 laws_toEntryS_body []).getD []) laws_toEntryS_L3 x = laws_toEntryS_b3 l3 r x.1 x.2.1 x.2.2 := by kernel_rfl
theorem laws_toEntryS_se {ρ : Type} (l3 : (List (EntT)) → (List (EntT)) → Int → Option ρ) (r : (List (EntT)) → Option ρ) (x : List (EntT)) : stretch laws_toEntryS_env [3] [(3, ⟨laws_toEntryS_L3, fun (x : (List (EntT)) × (List (EntT)) × Int) => l3 x.1 x.2.1 x.2.2⟩)] ⟨laws_toEntryS_R, fun (x : List (EntT)) => r x⟩ false [.code laws_toEntryS_body] laws_toEntryS_E x = laws_toEntryS_be l3 r x := by kernel_rfl
abbrev laws_toEntryS_r : (List (EntT)) → Option (List (EntT)) := (fun (y0 : List (EntT)) => some y0)
def laws_toEntryS_ls : Nat → ((List (EntT)) → (List (EntT)) → Int → Option (List (EntT)))
  | 0 => (fun _ _ _ => none)
  | n + 1 => laws_toEntryS_b3 (laws_toEntryS_ls n) laws_toEntryS_r
abbrev laws_toEntryS_l3 (n : Nat) : (List (EntT)) → (List (EntT)) → Int → Option (List (EntT)) := (laws_toEntryS_ls n)
noncomputable def laws_toEntryS_d (a0 : List (EntT)) : Option (List (EntT)) := lim fun n => laws_toEntryS_be (laws_toEntryS_l3 n) laws_toEntryS_r a0
noncomputable def laws_toEntryS : (List (EntT)) → Option (List (EntT)) := shut laws_toEntryS_d
theorem laws_toEntryS_def (a0 : List (EntT)) : laws_toEntryS a0 = laws_toEntryS_d a0 := congrFun (shut_eq _) a0
theorem laws_toEntryS_ok' : ∀ (a0 : List (EntT)) (y : List (EntT)), laws_toEntryS a0 = some y → ∃ n, laws_toEntryS_be (laws_toEntryS_l3 n) laws_toEntryS_r a0 = some y := fun a0 y h => lim_some ((laws_toEntryS_def a0).symm.trans h)
noncomputable def con_laws_toEntryS : Con := ⟨[(.val (.c (.ro (.pair (.int .i64) (.pair (.int .i64) (.pair (.int .i64) (.pair (.int .i64) (.pair (.int .i64) .str)))))) false))], [(.c (.own (.pair (.int .i64) (.pair (.int .i64) (.pair (.int .i64) (.pair (.int .i64) (.pair (.int .i64) .str)))))) false)], fun (x : List (EntT)) => laws_toEntryS x⟩
abbrev laws_toEntryS_fs (n : Nat) : List (Nat × LabK (VKs (con_laws_toEntryS.rs ++ outs con_laws_toEntryS.ps))) := [(3, ⟨laws_toEntryS_L3, fun (x : (List (EntT)) × (List (EntT)) × Int) => laws_toEntryS_l3 n x.1 x.2.1 x.2.2⟩)]
theorem ent_laws_toEntryS : Enters Go.Proofs.Tryz.prog 123 := enters_of Go.Proofs.Tryz.func123 (c := laws_toEntryS_body) (by kernel_rfl) (by kernel_rfl)
theorem hold_laws_toEntryS : Holds Go.Proofs.Tryz.prog 123 con_laws_toEntryS :=
  holds_of (E := laws_toEntryS_env) (con := con_laws_toEntryS) (fn := Go.Proofs.Tryz.f123) (body := laws_toEntryS_body) (ids := [3]) (Rsrc := [(.slot 2)]) (fs := laws_toEntryS_fs) prog_mixed (cs_of (E := laws_toEntryS_env) ⟨⟨ent_laws_toEntry, hold_laws_toEntry⟩, trivial⟩) (tabOk_of (E := laws_toEntryS_env) tab_ok) Go.Proofs.Tryz.func123 (by kernel_rfl) (by kernel_rfl) (by kernel_rfl)
    ⟨(fun _ => rfl), trivial⟩ (fun n => ⟨(fun x => (laws_toEntryS_s3 (laws_toEntryS_l3 n) laws_toEntryS_r x).symm), trivial⟩)
    (fun x y h => by
      obtain ⟨n, hn⟩ := laws_toEntryS_ok' x y h
      exact ⟨n, (laws_toEntryS_se (laws_toEntryS_l3 n) laws_toEntryS_r x).trans hn⟩)
/-! 120 loop.example/g00106/laws.toHard -/
noncomputable def laws_toHard_body : Code := (Go.Proofs.Tryz.f120.body).getD .skip
noncomputable def laws_toHard_env : Env := { types := tab, cons := [(123, con_laws_toEntryS)] }
abbrev laws_toHard_E : Lab := ⟨[(.c (.pair (.int .i64) (.pair (.int .i64) (.ro (.pair (.int .i64) (.pair (.int .i64) (.pair (.int .i64) (.pair (.int .i64) (.pair (.int .i64) .str)))))))) true)], [(.slot 0)], []⟩
abbrev laws_toHard_R : Lab := ⟨[(.c (.pair (.int .i64) (.pair (.int .i64) (.own (.pair (.int .i64) (.pair (.int .i64) (.pair (.int .i64) (.pair (.int .i64) (.pair (.int .i64) .str)))))))) true)], [(.cell 2)], []⟩
def laws_toHard_be {ρ : Type}  (r : (HardT) → Option ρ) (a0 : HardT) : Option ρ := (laws_toEntryS a0.2.2).bind fun t1 => r (a0.1, a0.2.1, t1)
theorem laws_toHard_se {ρ : Type}  (r : (HardT) → Option ρ) (x : HardT) : stretch laws_toHard_env [] [] ⟨laws_toHard_R, fun (x : HardT) => r x⟩ false [.code laws_toHard_body] laws_toHard_E x = laws_toHard_be  r x := by kernel_rfl
abbrev laws_toHard_r : (HardT) → Option (HardT) := (fun (y0 : HardT) => some y0)
noncomputable def laws_toHard_d (a0 : HardT) : Option (HardT) := laws_toHard_be laws_toHard_r a0
noncomputable def laws_toHard : (HardT) → Option (HardT) := shut laws_toHard_d
theorem laws_toHard_def (a0 : HardT) : laws_toHard a0 = laws_toHard_d a0 := congrFun (shut_eq _) a0
noncomputable def con_laws_toHard : Con := ⟨[(.val (.c (.pair (.int .i64) (.pair (.int .i64) (.ro (.pair (.int .i64) (.pair (.int .i64) (.pair (.int .i64) (.pair (.int .i64) (.pair (.int .i64) .str)))))))) true))], [(.c (.pair (.int .i64) (.pair (.int .i64) (.own (.pair (.int .i64) (.pair (.int .i64) (.pair (.int .i64) (.pair (.int .i64) (.pair (.int .i64) .str)))))))) true)], fun (x : HardT) => laws_toHard x⟩
abbrev laws_toHard_fs (n : Nat) : List (Nat × LabK (VKs (con_laws_toHard.rs ++ outs con_laws_toHard.ps))) := []
theorem ent_laws_toHard : Enters Go.Proofs.Tryz.prog 120 := enters_of Go.Proofs.Tryz.func120 (c := laws_toHard_body) (by kernel_rfl) (by kernel_rfl)
theorem hold_laws_toHard : Holds Go.Proofs.Tryz.prog 120 con_laws_toHard :=
  holds_of (E := laws_toHard_env) (con := con_laws_toHard) (fn := Go.Proofs.Tryz.f120) (body := laws_toHard_body) (ids := []) (Rsrc := [(.cell 2)]) (fs := laws_toHard_fs) prog_mixed (cs_of (E := laws_toHard_env) ⟨⟨ent_laws_toEntryS, hold_laws_toEntryS⟩, trivial⟩) (tabOk_of (E := laws_toHard_env) tab_ok) Go.Proofs.Tryz.func120 (by kernel_rfl) (by kernel_rfl) (by kernel_rfl)
    trivial (fun n => trivial)
    (fun x y h => ⟨0, (laws_toHard_se laws_toHard_r x).trans ((laws_toHard_def x).symm.trans h)⟩)
/-! 121 loop.example/g00106/laws.toIntS -/
noncomputable def laws_toIntS_body : Code := (Go.Proofs.Tryz.f121.body).getD .skip
noncomputable def laws_toIntS_env : Env := { types := tab, cons := [] }
abbrev laws_toIntS_L3 : Lab := ⟨[(.c (.ro (.int .i64)) false), (.c (.own (.int .i64)) false), (.c (.int .i64) false)], [(.slot 0), (.slot 3), (.slot 4)], []⟩
abbrev laws_toIntS_E : Lab := ⟨[(.c (.ro (.int .i64)) false)], [(.slot 0)], []⟩
abbrev laws_toIntS_R : Lab := ⟨[(.c (.own (.int .i64)) false)], [(.slot 2)], []⟩
def laws_toIntS_b3 {ρ : Type} (l3 : List Int → List Int → Int → Option ρ) (r : List Int → Option ρ) (x0 : List Int) (x3 : List Int) (x4 : Int) : Option ρ := bif decide (x4 < (x0.length : Int)) then ((idx x0 x4).bind fun v1 => bif decide (0 ≤ x4) && decide (x4 < (x3.length : Int)) then ((idx x3 x4).bind fun v2 => l3 x0 (x3.set (x4 : Int).toNat v1) (wr .i64 (x4 + 1))) else (none)) else (r x3)
def laws_toIntS_be {ρ : Type} (l3 : List Int → List Int → Int → Option ρ) (r : List Int → Option ρ) (a0 : List Int) : Option ρ := bif decide ((a0.length : Int) = (a0.length : Int)) && decide (0 ≤ (a0.length : Int)) && decide ((a0.length : Int) * 8 ≤ 140737488355328) then (l3 a0 (List.replicate ((a0.length : Int) : Int).toNat 0) 0) else (none)
theorem laws_toIntS_s3 {ρ : Type} (l3 : List Int → List Int → Int → Option ρ) (r : List Int → Option ρ) (x : List Int × List Int × Int) : stretch laws_toIntS_env [3] [(3, ⟨laws_toIntS_L3, fun (x : List Int × List Int × Int) => l3 x.1 x.2.1 x.2.2⟩)] ⟨laws_toIntS_R, fun (x : List Int) => r x⟩ true ((seek 3 laws_toIntS_body []).getD []) laws_toIntS_L3 x = laws_toIntS_b3 l3 r x.1 x.2.1 x.2.2 := by kernel_rfl
theorem laws_toIntS_se {ρ : Type} (l3 : List Int → List Int → Int → Option ρ) (r : List Int → Option ρ) (x : List Int) : stretch laws_toIntS_env [3] [(3, ⟨laws_toIntS_L3, fun (x : List Int × List Int × Int) => l3 x.1 x.2.1 x.2.2⟩)] ⟨laws_toIntS_R, fun (x : List Int) => r x⟩ false [.code laws_toIntS_body] laws_toIntS_E x = laws_toIntS_be l3 r x := by kernel_rfl
abbrev laws_toIntS_r : List Int → Option (List Int) := (fun (y0 : List Int) => some y0)
def laws_toIntS_ls : Nat → (List Int → List Int → Int → Option (List Int))
  | 0 => (fun _ _ _ => none)
  | n + 1 => laws_toIntS_b3 (laws_toIntS_ls n) laws_toIntS_r
abbrev laws_toIntS_l3 (n : Nat) : List Int → List Int → Int → Option (List Int) := (laws_toIntS_ls n)
noncomputable def laws_toIntS_d (a0 : List Int) : Option (List Int) := lim fun n => laws_toIntS_be (laws_toIntS_l3 n) laws_toIntS_r a0
noncomputable def laws_toIntS : List Int → Option (List Int) := shut laws_toIntS_d
theorem laws_toIntS_def (a0 : List Int) : laws_toIntS a0 = laws_toIntS_d a0 := congrFun (shut_eq _) a0
theorem laws_toIntS_ok' : ∀ (a0 : List Int) (y : List Int), laws_toIntS a0 = some y → ∃ n, laws_toIntS_be (laws_toIntS_l3 n) laws_toIntS_r a0 = some y := fun a0 y h => lim_some ((laws_toIntS_def a0).symm.trans h)
noncomputable def con_laws_toIntS : Con := ⟨[(.val (.c (.ro (.int .i64)) false))], [(.c (.own (.int .i64)) false)], fun (x : List Int) => laws_toIntS x⟩
abbrev laws_toIntS_fs (n : Nat) : List (Nat × LabK (VKs (con_laws_toIntS.rs ++ outs con_laws_toIntS.ps))) := [(3, ⟨laws_toIntS_L3, fun (x : List Int × List Int × Int) => laws_toIntS_l3 n x.1 x.2.1 x.2.2⟩)]
theorem ent_laws_toIntS : Enters Go.Proofs.Tryz.prog 121 := enters_of Go.Proofs.Tryz.func121 (c := laws_toIntS_body) (by kernel_rfl) (by kernel_rfl)
theorem hold_laws_toIntS : Holds Go.Proofs.Tryz.prog 121 con_laws_toIntS :=
  holds_of (E := laws_toIntS_env) (con := con_laws_toIntS) (fn := Go.Proofs.Tryz.f121) (body := laws_toIntS_body) (ids := [3]) (Rsrc := [(.slot 2)]) (fs := laws_toIntS_fs) prog_mixed (cs_of (E := laws_toIntS_env) trivial) (tabOk_of (E := laws_toIntS_env) tab_ok) Go.Proofs.Tryz.func121 (by kernel_rfl) (by kernel_rfl) (by kernel_rfl)
    ⟨(fun _ => rfl), trivial⟩ (fun n => ⟨(fun x => (laws_toIntS_s3 (laws_toIntS_l3 n) laws_toIntS_r x).symm), trivial⟩)
    (fun x y h => by
      obtain ⟨n, hn⟩ := laws_toIntS_ok' x y h
      exact ⟨n, (laws_toIntS_se (laws_toIntS_l3 n) laws_toIntS_r x).trans hn⟩)
/-! 40 loop.example/g00106/laws.toRaft -/
noncomputable def laws_toRaft_body : Code := (Go.Proofs.Tryz.f40.body).getD .skip
noncomputable def laws_toRaft_env : Env := { types := tab, cons := [(120, con_laws_toHard), (121, con_laws_toIntS)] }
abbrev laws_toRaft_E : Lab := ⟨[(.c (.pair (.int .i64) (.pair (.int .i64) (.pair (.int .i64) (.pair (.int .i64) (.pair (.pair (.int .i64) (.pair (.int .i64) (.ro (.pair (.int .i64) (.pair (.int .i64) (.pair (.int .i64) (.pair (.int .i64) (.pair (.int .i64) .str)))))))) (.pair (.ro (.int .i64)) (.pair (.ro (.int .i64)) (.ro (.int .i64))))))))) true)], [(.slot 0)], []⟩
abbrev laws_toRaft_R : Lab := ⟨[(.c (.pair (.int .i64) (.pair (.int .i64) (.pair (.int .i64) (.pair (.int .i64) (.pair (.pair (.int .i64) (.pair (.int .i64) (.own (.pair (.int .i64) (.pair (.int .i64) (.pair (.int .i64) (.pair (.int .i64) (.pair (.int .i64) .str)))))))) (.pair (.own (.int .i64)) (.pair (.own (.int .i64)) (.own (.int .i64))))))))) true)], [(.cell 2)], []⟩
def laws_toRaft_be {ρ : Type}  (r : (RaftT) → Option ρ) (a0 : RaftT) : Option ρ := (laws_toHard a0.2.2.2.2.1).bind fun t1 => (laws_toIntS a0.2.2.2.2.2.1).bind fun t2 => (laws_toIntS a0.2.2.2.2.2.2.1).bind fun t3 => (laws_toIntS a0.2.2.2.2.2.2.2).bind fun t4 => r (a0.1, a0.2.1, a0.2.2.1, a0.2.2.2.1, t1, t2, t3, t4)
theorem laws_toRaft_se {ρ : Type}  (r : (RaftT) → Option ρ) (x : RaftT) : stretch laws_toRaft_env [] [] ⟨laws_toRaft_R, fun (x : RaftT) => r x⟩ false [.code laws_toRaft_body] laws_toRaft_E x = laws_toRaft_be  r x := by kernel_rfl
abbrev laws_toRaft_r : (RaftT) → Option (RaftT) := (fun (y0 : RaftT) => some y0)
noncomputable def laws_toRaft_d (a0 : RaftT) : Option (RaftT) := laws_toRaft_be laws_toRaft_r a0
noncomputable def laws_toRaft : (RaftT) → Option (RaftT) := shut laws_toRaft_d
theorem laws_toRaft_def (a0 : RaftT) : laws_toRaft a0 = laws_toRaft_d a0 := congrFun (shut_eq _) a0
noncomputable def con_laws_toRaft : Con := ⟨[(.val (.c (.pair (.int .i64) (.pair (.int .i64) (.pair (.int .i64) (.pair (.int .i64) (.pair (.pair (.int .i64) (.pair (.int .i64) (.ro (.pair (.int .i64) (.pair (.int .i64) (.pair (.int .i64) (.pair (.int .i64) (.pair (.int .i64) .str)))))))) (.pair (.ro (.int .i64)) (.pair (.ro (.int .i64)) (.ro (.int .i64))))))))) true))], [(.c (.pair (.int .i64) (.pair (.int .i64) (.pair (.int .i64) (.pair (.int .i64) (.pair (.pair (.int .i64) (.pair (.int .i64) (.own (.pair (.int .i64) (.pair (.int .i64) (.pair (.int .i64) (.pair (.int .i64) (.pair (.int .i64) .str)))))))) (.pair (.own (.int .i64)) (.pair (.own (.int .i64)) (.own (.int .i64))))))))) true)], fun (x : RaftT) => laws_toRaft x⟩
abbrev laws_toRaft_fs (n : Nat) : List (Nat × LabK (VKs (con_laws_toRaft.rs ++ outs con_laws_toRaft.ps))) := []
theorem ent_laws_toRaft : Enters Go.Proofs.Tryz.prog 40 := enters_of Go.Proofs.Tryz.func40 (c := laws_toRaft_body) (by kernel_rfl) (by kernel_rfl)
theorem hold_laws_toRaft : Holds Go.Proofs.Tryz.prog 40 con_laws_toRaft :=
  holds_of (E := laws_toRaft_env) (con := con_laws_toRaft) (fn := Go.Proofs.Tryz.f40) (body := laws_toRaft_body) (ids := []) (Rsrc := [(.cell 2)]) (fs := laws_toRaft_fs) prog_mixed (cs_of (E := laws_toRaft_env) ⟨⟨ent_laws_toHard, hold_laws_toHard⟩, ⟨ent_laws_toIntS, hold_laws_toIntS⟩, trivial⟩) (tabOk_of (E := laws_toRaft_env) tab_ok) Go.Proofs.Tryz.func40 (by kernel_rfl) (by kernel_rfl) (by kernel_rfl)
    trivial (fun n => trivial)
    (fun x y h => ⟨0, (laws_toRaft_se laws_toRaft_r x).trans ((laws_toRaft_def x).symm.trans h)⟩)
/-! 41 loop.example/g00106/laws.toMsg -/
noncomputable def laws_toMsg_body : Code := (Go.Proofs.Tryz.f41.body).getD .skip
noncomputable def laws_toMsg_env : Env := { types := tab, cons := [(122, con_laws_toCmd), (123, con_laws_toEntryS)] }
abbrev laws_toMsg_E : Lab := ⟨[(.c (.pair (.int .i64) (.pair (.int .i64) (.pair (.int .i64) (.pair (.int .i64) (.pair (.int .i64) (.pair (.int .i64) (.pair .bool (.pair (.int .i64) (.pair (.int .i64) (.pair .str (.pair (.pair (.int .i64) (.pair (.int .i64) (.pair (.int .i64) (.pair (.int .i64) .str)))) (.ro (.pair (.int .i64) (.pair (.int .i64) (.pair (.int .i64) (.pair (.int .i64) (.pair (.int .i64) .str))))))))))))))))) true)], [(.slot 0)], []⟩
abbrev laws_toMsg_R : Lab := ⟨[(.c (.pair (.int .i64) (.pair (.int .i64) (.pair (.int .i64) (.pair (.int .i64) (.pair (.int .i64) (.pair (.int .i64) (.pair .bool (.pair (.int .i64) (.pair (.int .i64) (.pair .str (.pair (.pair (.int .i64) (.pair (.int .i64) (.pair (.int .i64) (.pair (.int .i64) .str)))) (.own (.pair (.int .i64) (.pair (.int .i64) (.pair (.int .i64) (.pair (.int .i64) (.pair (.int .i64) .str))))))))))))))))) true)], [(.cell 2)], []⟩
def laws_toMsg_be {ρ : Type}  (r : (MsgT) → Option ρ) (a0 : MsgT) : Option ρ := (laws_toCmd a0.2.2.2.2.2.2.2.2.2.2.1).bind fun t1 => (laws_toEntryS a0.2.2.2.2.2.2.2.2.2.2.2).bind fun t2 => r (a0.1, a0.2.1, a0.2.2.1, a0.2.2.2.1, a0.2.2.2.2.1, a0.2.2.2.2.2.1, a0.2.2.2.2.2.2.1, a0.2.2.2.2.2.2.2.1, a0.2.2.2.2.2.2.2.2.1, a0.2.2.2.2.2.2.2.2.2.1, t1, t2)
theorem laws_toMsg_se {ρ : Type}  (r : (MsgT) → Option ρ) (x : MsgT) : stretch laws_toMsg_env [] [] ⟨laws_toMsg_R, fun (x : MsgT) => r x⟩ false [.code laws_toMsg_body] laws_toMsg_E x = laws_toMsg_be  r x := by kernel_rfl
abbrev laws_toMsg_r : (MsgT) → Option (MsgT) := (fun (y0 : MsgT) => some y0)
noncomputable def laws_toMsg_d (a0 : MsgT) : Option (MsgT) := laws_toMsg_be laws_toMsg_r a0
noncomputable def laws_toMsg : (MsgT) → Option (MsgT) := shut laws_toMsg_d
theorem laws_toMsg_def (a0 : MsgT) : laws_toMsg a0 = laws_toMsg_d a0 := congrFun (shut_eq _) a0
noncomputable def con_laws_toMsg : Con := ⟨[(.val (.c (.pair (.int .i64) (.pair (.int .i64) (.pair (.int .i64) (.pair (.int .i64) (.pair (.int .i64) (.pair (.int .i64) (.pair .bool (.pair (.int .i64) (.pair (.int .i64) (.pair .str (.pair (.pair (.int .i64) (.pair (.int .i64) (.pair (.int .i64) (.pair (.int .i64) .str)))) (.ro (.pair (.int .i64) (.pair (.int .i64) (.pair (.int .i64) (.pair (.int .i64) (.pair (.int .i64) .str))))))))))))))))) true))], [(.c (.pair (.int .i64) (.pair (.int .i64) (.pair (.int .i64) (.pair (.int .i64) (.pair (.int .i64) (.pair (.int .i64) (.pair .bool (.pair (.int .i64) (.pair (.int .i64) (.pair .str (.pair (.pair (.int .i64) (.pair (.int .i64) (.pair (.int .i64) (.pair (.int .i64) .str)))) (.own (.pair (.int .i64) (.pair (.int .i64) (.pair (.int .i64) (.pair (.int .i64) (.pair (.int .i64) .str))))))))))))))))) true)], fun (x : MsgT) => laws_toMsg x⟩
abbrev laws_toMsg_fs (n : Nat) : List (Nat × LabK (VKs (con_laws_toMsg.rs ++ outs con_laws_toMsg.ps))) := []
theorem ent_laws_toMsg : Enters Go.Proofs.Tryz.prog 41 := enters_of Go.Proofs.Tryz.func41 (c := laws_toMsg_body) (by kernel_rfl) (by kernel_rfl)
theorem hold_laws_toMsg : Holds Go.Proofs.Tryz.prog 41 con_laws_toMsg :=
  holds_of (E := laws_toMsg_env) (con := con_laws_toMsg) (fn := Go.Proofs.Tryz.f41) (body := laws_toMsg_body) (ids := []) (Rsrc := [(.cell 2)]) (fs := laws_toMsg_fs) prog_mixed (cs_of (E := laws_toMsg_env) ⟨⟨ent_laws_toCmd, hold_laws_toCmd⟩, ⟨ent_laws_toEntryS, hold_laws_toEntryS⟩, trivial⟩) (tabOk_of (E := laws_toMsg_env) tab_ok) Go.Proofs.Tryz.func41 (by kernel_rfl) (by kernel_rfl) (by kernel_rfl)
    trivial (fun n => trivial)
    (fun x y h => ⟨0, (laws_toMsg_se laws_toMsg_r x).trans ((laws_toMsg_def x).symm.trans h)⟩)
/-! 128 loop.example/g00106/laws.eqCmd -/
noncomputable def laws_eqCmd_body : Code := (Go.Proofs.Tryz.f128.body).getD .skip
noncomputable def laws_eqCmd_env : Env := { types := tab, cons := [] }
abbrev laws_eqCmd_E : Lab := ⟨[(.c (.pair (.int .i64) (.pair (.int .i64) (.pair (.int .i64) (.pair (.int .i64) .str)))) true), (.c (.pair (.int .i64) (.pair (.int .i64) (.pair (.int .i64) (.pair (.int .i64) .str)))) true)], [(.slot 0), (.slot 1)], []⟩
abbrev laws_eqCmd_R : Lab := ⟨[(.c .bool false)], [(.slot 4)], []⟩
def laws_eqCmd_be {ρ : Type}  (r : Bool → Option ρ) (a0 : CmdT) (a1 : CmdT) : Option ρ := bif !(decide (a0.1 = a1.1)) then (r false) else (bif !(decide (a0.2.1 = a1.2.1)) then (r false) else (bif !(decide (a0.2.2.1 = a1.2.2.1)) then (r false) else (bif !(decide (a0.2.2.2.1 = a1.2.2.2.1)) then (r false) else (bif !(strEq a0.2.2.2.2 a1.2.2.2.2) then (r false) else (r true)))))
theorem laws_eqCmd_se {ρ : Type}  (r : Bool → Option ρ) (x : (CmdT) × CmdT) : stretch laws_eqCmd_env [] [] ⟨laws_eqCmd_R, fun (x : Bool) => r x⟩ false [.code laws_eqCmd_body] laws_eqCmd_E x = laws_eqCmd_be  r x.1 x.2 := by kernel_rfl
abbrev laws_eqCmd_r : Bool → Option Bool := (fun (y0 : Bool) => some y0)
noncomputable def laws_eqCmd_d (a0 : CmdT) (a1 : CmdT) : Option Bool := laws_eqCmd_be laws_eqCmd_r a0 a1
noncomputable def laws_eqCmd : (CmdT) → (CmdT) → Option Bool := shut laws_eqCmd_d
theorem laws_eqCmd_def (a0 : CmdT) (a1 : CmdT) : laws_eqCmd a0 a1 = laws_eqCmd_d a0 a1 := congrFun (congrFun (shut_eq _) a0) a1
noncomputable def con_laws_eqCmd : Con := ⟨[(.val (.c (.pair (.int .i64) (.pair (.int .i64) (.pair (.int .i64) (.pair (.int .i64) .str)))) true)), (.val (.c (.pair (.int .i64) (.pair (.int .i64) (.pair (.int .i64) (.pair (.int .i64) .str)))) true))], [(.c .bool false)], fun (x : (CmdT) × CmdT) => laws_eqCmd x.1 x.2⟩
abbrev laws_eqCmd_fs (n : Nat) : List (Nat × LabK (VKs (con_laws_eqCmd.rs ++ outs con_laws_eqCmd.ps))) := []
theorem ent_laws_eqCmd : Enters Go.Proofs.Tryz.prog 128 := enters_of Go.Proofs.Tryz.func128 (c := laws_eqCmd_body) (by kernel_rfl) (by kernel_rfl)
theorem hold_laws_eqCmd : Holds Go.Proofs.Tryz.prog 128 con_laws_eqCmd :=
  holds_of (E := laws_eqCmd_env) (con := con_laws_eqCmd) (fn := Go.Proofs.Tryz.f128) (body := laws_eqCmd_body) (ids := []) (Rsrc := [(.slot 4)]) (fs := laws_eqCmd_fs) prog_mixed (cs_of (E := laws_eqCmd_env) trivial) (tabOk_of (E := laws_eqCmd_env) tab_ok) Go.Proofs.Tryz.func128 (by kernel_rfl) (by kernel_rfl) (by kernel_rfl)
    trivial (fun n => trivial)
    (fun x y h => ⟨0, (laws_eqCmd_se laws_eqCmd_r x).trans ((laws_eqCmd_def x.1 x.2).symm.trans h)⟩)
/-! 166 loop.example/g00106/laws.eqEntry -/
noncomputable def laws_eqEntry_body : Code := (Go.Proofs.Tryz.f166.body).getD .skip
noncomputable def laws_eqEntry_env : Env := { types := tab, cons := [(128, con_laws_eqCmd)] }
abbrev laws_eqEntry_E : Lab := ⟨[(.c (.pair (.int .i64) (.pair (.int .i64) (.pair (.int .i64) (.pair (.int .i64) (.pair (.int .i64) .str))))) true), (.c (.pair (.int .i64) (.pair (.int .i64) (.pair (.int .i64) (.pair (.int .i64) (.pair (.int .i64) .str))))) true)], [(.slot 0), (.slot 1)], []⟩
abbrev laws_eqEntry_R : Lab := ⟨[(.c .bool false)], [(.slot 4)], []⟩
def laws_eqEntry_be {ρ : Type}  (r : Bool → Option ρ) (a0 : EntT) (a1 : EntT) : Option ρ := bif !(decide (a0.1 = a1.1)) then (r false) else ((laws_eqCmd a0.2 a1.2).bind fun t1 => bif !t1 then (r false) else (r true))
theorem laws_eqEntry_se {ρ : Type}  (r : Bool → Option ρ) (x : (EntT) × EntT) : stretch laws_eqEntry_env [] [] ⟨laws_eqEntry_R, fun (x : Bool) => r x⟩ false [.code laws_eqEntry_body] laws_eqEntry_E x = laws_eqEntry_be  r x.1 x.2 := by kernel_rfl
abbrev laws_eqEntry_r : Bool → Option Bool := (fun (y0 : Bool) => some y0)
noncomputable def laws_eqEntry_d (a0 : EntT) (a1 : EntT) : Option Bool := laws_eqEntry_be laws_eqEntry_r a0 a1
noncomputable def laws_eqEntry : (EntT) → (EntT) → Option Bool := shut laws_eqEntry_d
theorem laws_eqEntry_def (a0 : EntT) (a1 : EntT) : laws_eqEntry a0 a1 = laws_eqEntry_d a0 a1 := congrFun (congrFun (shut_eq _) a0) a1
noncomputable def con_laws_eqEntry : Con := ⟨[(.val (.c (.pair (.int .i64) (.pair (.int .i64) (.pair (.int .i64) (.pair (.int .i64) (.pair (.int .i64) .str))))) true)), (.val (.c (.pair (.int .i64) (.pair (.int .i64) (.pair (.int .i64) (.pair (.int .i64) (.pair (.int .i64) .str))))) true))], [(.c .bool false)], fun (x : (EntT) × EntT) => laws_eqEntry x.1 x.2⟩
abbrev laws_eqEntry_fs (n : Nat) : List (Nat × LabK (VKs (con_laws_eqEntry.rs ++ outs con_laws_eqEntry.ps))) := []
theorem ent_laws_eqEntry : Enters Go.Proofs.Tryz.prog 166 := enters_of Go.Proofs.Tryz.func166 (c := laws_eqEntry_body) (by kernel_rfl) (by kernel_rfl)
theorem hold_laws_eqEntry : Holds Go.Proofs.Tryz.prog 166 con_laws_eqEntry :=
  holds_of (E := laws_eqEntry_env) (con := con_laws_eqEntry) (fn := Go.Proofs.Tryz.f166) (body := laws_eqEntry_body) (ids := []) (Rsrc := [(.slot 4)]) (fs := laws_eqEntry_fs) prog_mixed (cs_of (E := laws_eqEntry_env) ⟨⟨ent_laws_eqCmd, hold_laws_eqCmd⟩, trivial⟩) (tabOk_of (E := laws_eqEntry_env) tab_ok) Go.Proofs.Tryz.func166 (by kernel_rfl) (by kernel_rfl) (by kernel_rfl)
    trivial (fun n => trivial)
    (fun x y h => ⟨0, (laws_eqEntry_se laws_eqEntry_r x).trans ((laws_eqEntry_def x.1 x.2).symm.trans h)⟩)
/-! 129 loop.example/g00106/laws.eqEntryS -/
noncomputable def laws_eqEntryS_body : Code := (Go.Proofs.Tryz.f129.body).getD .skip
noncomputable def laws_eqEntryS_env : Env := { types := tab, cons := [(166, con_laws_eqEntry)] }
abbrev laws_eqEntryS_L4 : Lab := ⟨[(.c (.ro (.pair (.int .i64) (.pair (.int .i64) (.pair (.int .i64) (.pair (.int .i64) (.pair (.int .i64) .str)))))) false), (.c (.ro (.pair (.int .i64) (.pair (.int .i64) (.pair (.int .i64) (.pair (.int .i64) (.pair (.int .i64) .str)))))) false), (.c (.int .i64) false)], [(.slot 0), (.slot 1), (.slot 5)], []⟩
abbrev laws_eqEntryS_E : Lab := ⟨[(.c (.ro (.pair (.int .i64) (.pair (.int .i64) (.pair (.int .i64) (.pair (.int .i64) (.pair (.int .i64) .str)))))) false), (.c (.ro (.pair (.int .i64) (.pair (.int .i64) (.pair (.int .i64) (.pair (.int .i64) (.pair (.int .i64) .str)))))) false)], [(.slot 0), (.slot 1)], []⟩
abbrev laws_eqEntryS_R : Lab := ⟨[(.c .bool false)], [(.slot 4)], []⟩
def laws_eqEntryS_b4 {ρ : Type} (l4 : (List (EntT)) → (List (EntT)) → Int → Option ρ) (r : Bool → Option ρ) (x0 : List (EntT)) (x1 : List (EntT)) (x5 : Int) : Option ρ := bif decide (x5 < (x0.length : Int)) then ((idx x0 x5).bind fun v1 => (idx x1 x5).bind fun v2 => (laws_eqEntry v1 v2).bind fun t3 => bif !t3 then (r false) else (l4 x0 x1 (wr .i64 (x5 + 1)))) else (r true)
def laws_eqEntryS_be {ρ : Type} (l4 : (List (EntT)) → (List (EntT)) → Int → Option ρ) (r : Bool → Option ρ) (a0 : List (EntT)) (a1 : List (EntT)) : Option ρ := bif !(decide ((a0.length : Int) = (a1.length : Int))) then (r false) else (l4 a0 a1 0)
theorem laws_eqEntryS_s4 {ρ : Type} (l4 : (List (EntT)) → (List (EntT)) → Int → Option ρ) (r : Bool → Option ρ) (x : (List (EntT)) × (List (EntT)) × Int) : stretch laws_eqEntryS_env [4] [(4, ⟨laws_eqEntryS_L4, fun (x : (List (EntT)) × (List (EntT)) × Int) => l4 x.1 x.2.1 x.2.2⟩)] ⟨laws_eqEntryS_R, fun (x : Bool) => r x⟩ true ((seek 4 laws_eqEntryS_body []).getD []) laws_eqEntryS_L4 x = laws_eqEntryS_b4 l4 r x.1 x.2.1 x.2.2 := by kernel_rfl
theorem laws_eqEntryS_se {ρ : Type} (l4 : (List (EntT)) → (List (EntT)) → Int → Option ρ) (r : Bool → Option ρ) (x : (List (EntT)) × List (EntT)) : stretch laws_eqEntryS_env [4] [(4, ⟨laws_eqEntryS_L4, fun (x : (List (EntT)) × (List (EntT)) × Int) => l4 x.1 x.2.1 x.2.2⟩)] ⟨laws_eqEntryS_R, fun (x : Bool) => r x⟩ false [.code laws_eqEntryS_body] laws_eqEntryS_E x = laws_eqEntryS_be l4 r x.1 x.2 := by kernel_rfl
abbrev laws_eqEntryS_r : Bool → Option Bool := (fun (y0 : Bool) => some y0)
def laws_eqEntryS_ls : Nat → ((List (EntT)) → (List (EntT)) → Int → Option Bool)
  | 0 => (fun _ _ _ => none)
  | n + 1 => laws_eqEntryS_b4 (laws_eqEntryS_ls n) laws_eqEntryS_r
abbrev laws_eqEntryS_l4 (n : Nat) : (List (EntT)) → (List (EntT)) → Int → Option Bool := (laws_eqEntryS_ls n)
noncomputable def laws_eqEntryS_d (a0 : List (EntT)) (a1 : List (EntT)) : Option Bool := lim fun n => laws_eqEntryS_be (laws_eqEntryS_l4 n) laws_eqEntryS_r a0 a1
noncomputable def laws_eqEntryS : (List (EntT)) → (List (EntT)) → Option Bool := shut laws_eqEntryS_d
theorem laws_eqEntryS_def (a0 : List (EntT)) (a1 : List (EntT)) : laws_eqEntryS a0 a1 = laws_eqEntryS_d a0 a1 := congrFun (congrFun (shut_eq _) a0) a1
theorem laws_eqEntryS_ok' : ∀ (a0 : List (EntT)) (a1 : List (EntT)) (y : Bool), laws_eqEntryS a0 a1 = some y → ∃ n, laws_eqEntryS_be (laws_eqEntryS_l4 n) laws_eqEntryS_r a0 a1 = some y := fun a0 a1 y h => lim_some ((laws_eqEntryS_def a0 a1).symm.trans h)
noncomputable def con_laws_eqEntryS : Con := ⟨[(.val (.c (.ro (.pair (.int .i64) (.pair (.int .i64) (.pair (.int .i64) (.pair (.int .i64) (.pair (.int .i64) .str)))))) false)), (.val (.c (.ro (.pair (.int .i64) (.pair (.int .i64) (.pair (.int .i64) (.pair (.int .i64) (.pair (.int .i64) .str)))))) false))], [(.c .bool false)], fun (x : (List (EntT)) × List (EntT)) => laws_eqEntryS x.1 x.2⟩
abbrev laws_eqEntryS_fs (n : Nat) : List (Nat × LabK (VKs (con_laws_eqEntryS.rs ++ outs con_laws_eqEntryS.ps))) := [(4, ⟨laws_eqEntryS_L4, fun (x : (List (EntT)) × (List (EntT)) × Int) => laws_eqEntryS_l4 n x.1 x.2.1 x.2.2⟩)]
theorem ent_laws_eqEntryS : Enters Go.Proofs.Tryz.prog 129 := enters_of Go.Proofs.Tryz.func129 (c := laws_eqEntryS_body) (by kernel_rfl) (by kernel_rfl)
theorem hold_laws_eqEntryS : Holds Go.Proofs.Tryz.prog 129 con_laws_eqEntryS :=
  holds_of (E := laws_eqEntryS_env) (con := con_laws_eqEntryS) (fn := Go.Proofs.Tryz.f129) (body := laws_eqEntryS_body) (ids := [4]) (Rsrc := [(.slot 4)]) (fs := laws_eqEntryS_fs) prog_mixed (cs_of (E := laws_eqEntryS_env) ⟨⟨ent_laws_eqEntry, hold_laws_eqEntry⟩, trivial⟩) (tabOk_of (E := laws_eqEntryS_env) tab_ok) Go.Proofs.Tryz.func129 (by kernel_rfl) (by kernel_rfl) (by kernel_rfl)
    ⟨(fun _ => rfl), trivial⟩ (fun n => ⟨(fun x => (laws_eqEntryS_s4 (laws_eqEntryS_l4 n) laws_eqEntryS_r x).symm), trivial⟩)
    (fun x y h => by
      obtain ⟨n, hn⟩ := laws_eqEntryS_ok' x.1 x.2 y h
      exact ⟨n, (laws_eqEntryS_se (laws_eqEntryS_l4 n) laws_eqEntryS_r x).trans hn⟩)
/-! 124 loop.example/g00106/laws.eqHard -/
noncomputable def laws_eqHard_body : Code := (Go.Proofs.Tryz.f124.body).getD .skip
noncomputable def laws_eqHard_env : Env := { types := tab, cons := [(129, con_laws_eqEntryS)] }
abbrev laws_eqHard_E : Lab := ⟨[(.c (.pair (.int .i64) (.pair (.int .i64) (.ro (.pair (.int .i64) (.pair (.int .i64) (.pair (.int .i64) (.pair (.int .i64) (.pair (.int .i64) .str)))))))) true), (.c (.pair (.int .i64) (.pair (.int .i64) (.ro (.pair (.int .i64) (.pair (.int .i64) (.pair (.int .i64) (.pair (.int .i64) (.pair (.int .i64) .str)))))))) true)], [(.slot 0), (.slot 1)], []⟩
abbrev laws_eqHard_R : Lab := ⟨[(.c .bool false)], [(.slot 4)], []⟩
def laws_eqHard_be {ρ : Type}  (r : Bool → Option ρ) (a0 : HardT) (a1 : HardT) : Option ρ := bif !(decide (a0.1 = a1.1)) then (r false) else (bif !(decide (a0.2.1 = a1.2.1)) then (r false) else ((laws_eqEntryS a0.2.2 a1.2.2).bind fun t1 => bif !t1 then (r false) else (r true)))
theorem laws_eqHard_se {ρ : Type}  (r : Bool → Option ρ) (x : (HardT) × HardT) : stretch laws_eqHard_env [] [] ⟨laws_eqHard_R, fun (x : Bool) => r x⟩ false [.code laws_eqHard_body] laws_eqHard_E x = laws_eqHard_be  r x.1 x.2 := by kernel_rfl
abbrev laws_eqHard_r : Bool → Option Bool := (fun (y0 : Bool) => some y0)
noncomputable def laws_eqHard_d (a0 : HardT) (a1 : HardT) : Option Bool := laws_eqHard_be laws_eqHard_r a0 a1
noncomputable def laws_eqHard : (HardT) → (HardT) → Option Bool := shut laws_eqHard_d
theorem laws_eqHard_def (a0 : HardT) (a1 : HardT) : laws_eqHard a0 a1 = laws_eqHard_d a0 a1 := congrFun (congrFun (shut_eq _) a0) a1
noncomputable def con_laws_eqHard : Con := ⟨[(.val (.c (.pair (.int .i64) (.pair (.int .i64) (.ro (.pair (.int .i64) (.pair (.int .i64) (.pair (.int .i64) (.pair (.int .i64) (.pair (.int .i64) .str)))))))) true)), (.val (.c (.pair (.int .i64) (.pair (.int .i64) (.ro (.pair (.int .i64) (.pair (.int .i64) (.pair (.int .i64) (.pair (.int .i64) (.pair (.int .i64) .str)))))))) true))], [(.c .bool false)], fun (x : (HardT) × HardT) => laws_eqHard x.1 x.2⟩
abbrev laws_eqHard_fs (n : Nat) : List (Nat × LabK (VKs (con_laws_eqHard.rs ++ outs con_laws_eqHard.ps))) := []
theorem ent_laws_eqHard : Enters Go.Proofs.Tryz.prog 124 := enters_of Go.Proofs.Tryz.func124 (c := laws_eqHard_body) (by kernel_rfl) (by kernel_rfl)
theorem hold_laws_eqHard : Holds Go.Proofs.Tryz.prog 124 con_laws_eqHard :=
  holds_of (E := laws_eqHard_env) (con := con_laws_eqHard) (fn := Go.Proofs.Tryz.f124) (body := laws_eqHard_body) (ids := []) (Rsrc := [(.slot 4)]) (fs := laws_eqHard_fs) prog_mixed (cs_of (E := laws_eqHard_env) ⟨⟨ent_laws_eqEntryS, hold_laws_eqEntryS⟩, trivial⟩) (tabOk_of (E := laws_eqHard_env) tab_ok) Go.Proofs.Tryz.func124 (by kernel_rfl) (by kernel_rfl) (by kernel_rfl)
    trivial (fun n => trivial)
    (fun x y h => ⟨0, (laws_eqHard_se laws_eqHard_r x).trans ((laws_eqHard_def x.1 x.2).symm.trans h)⟩)
/-! 125 loop.example/g00106/laws.eqIntS -/
noncomputable def laws_eqIntS_body : Code := (Go.Proofs.Tryz.f125.body).getD .skip
noncomputable def laws_eqIntS_env : Env := { types := tab, cons := [] }
abbrev laws_eqIntS_L4 : Lab := ⟨[(.c (.ro (.int .i64)) false), (.c (.ro (.int .i64)) false), (.c (.int .i64) false)], [(.slot 0), (.slot 1), (.slot 5)], []⟩
abbrev laws_eqIntS_E : Lab := ⟨[(.c (.ro (.int .i64)) false), (.c (.ro (.int .i64)) false)], [(.slot 0), (.slot 1)], []⟩
abbrev laws_eqIntS_R : Lab := ⟨[(.c .bool false)], [(.slot 4)], []⟩
def laws_eqIntS_b4 {ρ : Type} (l4 : List Int → List Int → Int → Option ρ) (r : Bool → Option ρ) (x0 : List Int) (x1 : List Int) (x5 : Int) : Option ρ := bif decide (x5 < (x0.length : Int)) then ((idx x0 x5).bind fun v1 => (idx x1 x5).bind fun v2 => bif !(decide (v1 = v2)) then (r false) else (l4 x0 x1 (wr .i64 (x5 + 1)))) else (r true)
def laws_eqIntS_be {ρ : Type} (l4 : List Int → List Int → Int → Option ρ) (r : Bool → Option ρ) (a0 : List Int) (a1 : List Int) : Option ρ := bif !(decide ((a0.length : Int) = (a1.length : Int))) then (r false) else (l4 a0 a1 0)
theorem laws_eqIntS_s4 {ρ : Type} (l4 : List Int → List Int → Int → Option ρ) (r : Bool → Option ρ) (x : List Int × List Int × Int) : stretch laws_eqIntS_env [4] [(4, ⟨laws_eqIntS_L4, fun (x : List Int × List Int × Int) => l4 x.1 x.2.1 x.2.2⟩)] ⟨laws_eqIntS_R, fun (x : Bool) => r x⟩ true ((seek 4 laws_eqIntS_body []).getD []) laws_eqIntS_L4 x = laws_eqIntS_b4 l4 r x.1 x.2.1 x.2.2 := by kernel_rfl
theorem laws_eqIntS_se {ρ : Type} (l4 : List Int → List Int → Int → Option ρ) (r : Bool → Option ρ) (x : List Int × List Int) : stretch laws_eqIntS_env [4] [(4, ⟨laws_eqIntS_L4, fun (x : List Int × List Int × Int) => l4 x.1 x.2.1 x.2.2⟩)] ⟨laws_eqIntS_R, fun (x : Bool) => r x⟩ false [.code laws_eqIntS_body] laws_eqIntS_E x = laws_eqIntS_be l4 r x.1 x.2 := by kernel_rfl
abbrev laws_eqIntS_r : Bool → Option Bool := (fun (y0 : Bool) => some y0)
def laws_eqIntS_ls : Nat → (List Int → List Int → Int → Option Bool)
  | 0 => (fun _ _ _ => none)
  | n + 1 => laws_eqIntS_b4 (laws_eqIntS_ls n) laws_eqIntS_r
abbrev laws_eqIntS_l4 (n : Nat) : List Int → List Int → Int → Option Bool := (laws_eqIntS_ls n)
noncomputable def laws_eqIntS_d (a0 : List Int) (a1 : List Int) : Option Bool := lim fun n => laws_eqIntS_be (laws_eqIntS_l4 n) laws_eqIntS_r a0 a1
noncomputable def laws_eqIntS : List Int → List Int → Option Bool := shut laws_eqIntS_d
theorem laws_eqIntS_def (a0 : List Int) (a1 : List Int) : laws_eqIntS a0 a1 = laws_eqIntS_d a0 a1 := congrFun (congrFun (shut_eq _) a0) a1
theorem laws_eqIntS_ok' : ∀ (a0 : List Int) (a1 : List Int) (y : Bool), laws_eqIntS a0 a1 = some y → ∃ n, laws_eqIntS_be (laws_eqIntS_l4 n) laws_eqIntS_r a0 a1 = some y := fun a0 a1 y h => lim_some ((laws_eqIntS_def a0 a1).symm.trans h)
noncomputable def con_laws_eqIntS : Con := ⟨[(.val (.c (.ro (.int .i64)) false)), (.val (.c (.ro (.int .i64)) false))], [(.c .bool false)], fun (x : List Int × List Int) => laws_eqIntS x.1 x.2⟩
abbrev laws_eqIntS_fs (n : Nat) : List (Nat × LabK (VKs (con_laws_eqIntS.rs ++ outs con_laws_eqIntS.ps))) := [(4, ⟨laws_eqIntS_L4, fun (x : List Int × List Int × Int) => laws_eqIntS_l4 n x.1 x.2.1 x.2.2⟩)]
theorem ent_laws_eqIntS : Enters Go.Proofs.Tryz.prog 125 := enters_of Go.Proofs.Tryz.func125 (c := laws_eqIntS_body) (by kernel_rfl) (by kernel_rfl)
theorem hold_laws_eqIntS : Holds Go.Proofs.Tryz.prog 125 con_laws_eqIntS :=
  holds_of (E := laws_eqIntS_env) (con := con_laws_eqIntS) (fn := Go.Proofs.Tryz.f125) (body := laws_eqIntS_body) (ids := [4]) (Rsrc := [(.slot 4)]) (fs := laws_eqIntS_fs) prog_mixed (cs_of (E := laws_eqIntS_env) trivial) (tabOk_of (E := laws_eqIntS_env) tab_ok) Go.Proofs.Tryz.func125 (by kernel_rfl) (by kernel_rfl) (by kernel_rfl)
    ⟨(fun _ => rfl), trivial⟩ (fun n => ⟨(fun x => (laws_eqIntS_s4 (laws_eqIntS_l4 n) laws_eqIntS_r x).symm), trivial⟩)
    (fun x y h => by
      obtain ⟨n, hn⟩ := laws_eqIntS_ok' x.1 x.2 y h
      exact ⟨n, (laws_eqIntS_se (laws_eqIntS_l4 n) laws_eqIntS_r x).trans hn⟩)
/-! 42 loop.example/g00106/laws.eqRaft -/
noncomputable def laws_eqRaft_body : Code := (Go.Proofs.Tryz.f42.body).getD .skip
noncomputable def laws_eqRaft_env : Env := { types := tab, cons := [(124, con_laws_eqHard), (125, con_laws_eqIntS)] }
abbrev laws_eqRaft_E : Lab := ⟨[(.c (.pair (.int .i64) (.pair (.int .i64) (.pair (.int .i64) (.pair (.int .i64) (.pair (.pair (.int .i64) (.pair (.int .i64) (.ro (.pair (.int .i64) (.pair (.int .i64) (.pair (.int .i64) (.pair (.int .i64) (.pair (.int .i64) .str)))))))) (.pair (.ro (.int .i64)) (.pair (.ro (.int .i64)) (.ro (.int .i64))))))))) true), (.c (.pair (.int .i64) (.pair (.int .i64) (.pair (.int .i64) (.pair (.int .i64) (.pair (.pair (.int .i64) (.pair (.int .i64) (.ro (.pair (.int .i64) (.pair (.int .i64) (.pair (.int .i64) (.pair (.int .i64) (.pair (.int .i64) .str)))))))) (.pair (.ro (.int .i64)) (.pair (.ro (.int .i64)) (.ro (.int .i64))))))))) true)], [(.slot 0), (.slot 1)], []⟩
abbrev laws_eqRaft_R : Lab := ⟨[(.c .bool false)], [(.slot 4)], []⟩
def laws_eqRaft_be {ρ : Type}  (r : Bool → Option ρ) (a0 : RaftT) (a1 : RaftT) : Option ρ := bif !(decide (a0.1 = a1.1)) then (r false) else (bif !(decide (a0.2.1 = a1.2.1)) then (r false) else (bif !(decide (a0.2.2.1 = a1.2.2.1)) then (r false) else (bif !(decide (a0.2.2.2.1 = a1.2.2.2.1)) then (r false) else ((laws_eqHard a0.2.2.2.2.1 a1.2.2.2.2.1).bind fun t1 => bif !t1 then (r false) else ((laws_eqIntS a0.2.2.2.2.2.1 a1.2.2.2.2.2.1).bind fun t2 => bif !t2 then (r false) else ((laws_eqIntS a0.2.2.2.2.2.2.1 a1.2.2.2.2.2.2.1).bind fun t3 => bif !t3 then (r false) else ((laws_eqIntS a0.2.2.2.2.2.2.2 a1.2.2.2.2.2.2.2).bind fun t4 => bif !t4 then (r false) else (r true))))))))
theorem laws_eqRaft_se {ρ : Type}  (r : Bool → Option ρ) (x : (RaftT) × RaftT) : stretch laws_eqRaft_env [] [] ⟨laws_eqRaft_R, fun (x : Bool) => r x⟩ false [.code laws_eqRaft_body] laws_eqRaft_E x = laws_eqRaft_be  r x.1 x.2 := by kernel_rfl
abbrev laws_eqRaft_r : Bool → Option Bool := (fun (y0 : Bool) => some y0)
noncomputable def laws_eqRaft_d (a0 : RaftT) (a1 : RaftT) : Option Bool := laws_eqRaft_be laws_eqRaft_r a0 a1
noncomputable def laws_eqRaft : (RaftT) → (RaftT) → Option Bool := shut laws_eqRaft_d
theorem laws_eqRaft_def (a0 : RaftT) (a1 : RaftT) : laws_eqRaft a0 a1 = laws_eqRaft_d a0 a1 := congrFun (congrFun (shut_eq _) a0) a1
noncomputable def con_laws_eqRaft : Con := ⟨[(.val (.c (.pair (.int .i64) (.pair (.int .i64) (.pair (.int .i64) (.pair (.int .i64) (.pair (.pair (.int .i64) (.pair (.int .i64) (.ro (.pair (.int .i64) (.pair (.int .i64) (.pair (.int .i64) (.pair (.int .i64) (.pair (.int .i64) .str)))))))) (.pair (.ro (.int .i64)) (.pair (.ro (.int .i64)) (.ro (.int .i64))))))))) true)), (.val (.c (.pair (.int .i64) (.pair (.int .i64) (.pair (.int .i64) (.pair (.int .i64) (.pair (.pair (.int .i64) (.pair (.int .i64) (.ro (.pair (.int .i64) (.pair (.int .i64) (.pair (.int .i64) (.pair (.int .i64) (.pair (.int .i64) .str)))))))) (.pair (.ro (.int .i64)) (.pair (.ro (.int .i64)) (.ro (.int .i64))))))))) true))], [(.c .bool false)], fun (x : (RaftT) × RaftT) => laws_eqRaft x.1 x.2⟩
abbrev laws_eqRaft_fs (n : Nat) : List (Nat × LabK (VKs (con_laws_eqRaft.rs ++ outs con_laws_eqRaft.ps))) := []
theorem ent_laws_eqRaft : Enters Go.Proofs.Tryz.prog 42 := enters_of Go.Proofs.Tryz.func42 (c := laws_eqRaft_body) (by kernel_rfl) (by kernel_rfl)
theorem hold_laws_eqRaft : Holds Go.Proofs.Tryz.prog 42 con_laws_eqRaft :=
  holds_of (E := laws_eqRaft_env) (con := con_laws_eqRaft) (fn := Go.Proofs.Tryz.f42) (body := laws_eqRaft_body) (ids := []) (Rsrc := [(.slot 4)]) (fs := laws_eqRaft_fs) prog_mixed (cs_of (E := laws_eqRaft_env) ⟨⟨ent_laws_eqHard, hold_laws_eqHard⟩, ⟨ent_laws_eqIntS, hold_laws_eqIntS⟩, trivial⟩) (tabOk_of (E := laws_eqRaft_env) tab_ok) Go.Proofs.Tryz.func42 (by kernel_rfl) (by kernel_rfl) (by kernel_rfl)
    trivial (fun n => trivial)
    (fun x y h => ⟨0, (laws_eqRaft_se laws_eqRaft_r x).trans ((laws_eqRaft_def x.1 x.2).symm.trans h)⟩)
/-! 126 loop.example/g00106/laws.eqRec -/
noncomputable def laws_eqRec_body : Code := (Go.Proofs.Tryz.f126.body).getD .skip
noncomputable def laws_eqRec_env : Env := { types := tab, cons := [(166, con_laws_eqEntry)] }
abbrev laws_eqRec_E : Lab := ⟨[(.c (.pair (.int .i64) (.pair (.int .i64) (.pair (.int .i64) (.pair (.int .i64) (.pair (.int .i64) (.pair (.int .i64) (.pair (.int .i64) (.pair (.int .i64) (.pair (.int .i64) .str))))))))) true), (.c (.pair (.int .i64) (.pair (.int .i64) (.pair (.int .i64) (.pair (.int .i64) (.pair (.int .i64) (.pair (.int .i64) (.pair (.int .i64) (.pair (.int .i64) (.pair (.int .i64) .str))))))))) true)], [(.slot 0), (.slot 1)], []⟩
abbrev laws_eqRec_R : Lab := ⟨[(.c .bool false)], [(.slot 4)], []⟩
def laws_eqRec_be {ρ : Type}  (r : Bool → Option ρ) (a0 : RecT) (a1 : RecT) : Option ρ := bif !(decide (a0.1 = a1.1)) then (r false) else (bif !(decide (a0.2.1 = a1.2.1)) then (r false) else (bif !(decide (a0.2.2.1 = a1.2.2.1)) then (r false) else (bif !(decide (a0.2.2.2.1 = a1.2.2.2.1)) then (r false) else ((laws_eqEntry a0.2.2.2.2 a1.2.2.2.2).bind fun t1 => bif !t1 then (r false) else (r true)))))
theorem laws_eqRec_se {ρ : Type}  (r : Bool → Option ρ) (x : (RecT) × RecT) : stretch laws_eqRec_env [] [] ⟨laws_eqRec_R, fun (x : Bool) => r x⟩ false [.code laws_eqRec_body] laws_eqRec_E x = laws_eqRec_be  r x.1 x.2 := by kernel_rfl
abbrev laws_eqRec_r : Bool → Option Bool := (fun (y0 : Bool) => some y0)
noncomputable def laws_eqRec_d (a0 : RecT) (a1 : RecT) : Option Bool := laws_eqRec_be laws_eqRec_r a0 a1
noncomputable def laws_eqRec : (RecT) → (RecT) → Option Bool := shut laws_eqRec_d
theorem laws_eqRec_def (a0 : RecT) (a1 : RecT) : laws_eqRec a0 a1 = laws_eqRec_d a0 a1 := congrFun (congrFun (shut_eq _) a0) a1
noncomputable def con_laws_eqRec : Con := ⟨[(.val (.c (.pair (.int .i64) (.pair (.int .i64) (.pair (.int .i64) (.pair (.int .i64) (.pair (.int .i64) (.pair (.int .i64) (.pair (.int .i64) (.pair (.int .i64) (.pair (.int .i64) .str))))))))) true)), (.val (.c (.pair (.int .i64) (.pair (.int .i64) (.pair (.int .i64) (.pair (.int .i64) (.pair (.int .i64) (.pair (.int .i64) (.pair (.int .i64) (.pair (.int .i64) (.pair (.int .i64) .str))))))))) true))], [(.c .bool false)], fun (x : (RecT) × RecT) => laws_eqRec x.1 x.2⟩
abbrev laws_eqRec_fs (n : Nat) : List (Nat × LabK (VKs (con_laws_eqRec.rs ++ outs con_laws_eqRec.ps))) := []
theorem ent_laws_eqRec : Enters Go.Proofs.Tryz.prog 126 := enters_of Go.Proofs.Tryz.func126 (c := laws_eqRec_body) (by kernel_rfl) (by kernel_rfl)
theorem hold_laws_eqRec : Holds Go.Proofs.Tryz.prog 126 con_laws_eqRec :=
  holds_of (E := laws_eqRec_env) (con := con_laws_eqRec) (fn := Go.Proofs.Tryz.f126) (body := laws_eqRec_body) (ids := []) (Rsrc := [(.slot 4)]) (fs := laws_eqRec_fs) prog_mixed (cs_of (E := laws_eqRec_env) ⟨⟨ent_laws_eqEntry, hold_laws_eqEntry⟩, trivial⟩) (tabOk_of (E := laws_eqRec_env) tab_ok) Go.Proofs.Tryz.func126 (by kernel_rfl) (by kernel_rfl) (by kernel_rfl)
    trivial (fun n => trivial)
    (fun x y h => ⟨0, (laws_eqRec_se laws_eqRec_r x).trans ((laws_eqRec_def x.1 x.2).symm.trans h)⟩)
/-! 43 loop.example/g00106/laws.eqRecS -/
noncomputable def laws_eqRecS_body : Code := (Go.Proofs.Tryz.f43.body).getD .skip
noncomputable def laws_eqRecS_env : Env := { types := tab, cons := [(126, con_laws_eqRec)] }
abbrev laws_eqRecS_L4 : Lab := ⟨[(.c (.ro (.pair (.int .i64) (.pair (.int .i64) (.pair (.int .i64) (.pair (.int .i64) (.pair (.int .i64) (.pair (.int .i64) (.pair (.int .i64) (.pair (.int .i64) (.pair (.int .i64) .str)))))))))) false), (.c (.ro (.pair (.int .i64) (.pair (.int .i64) (.pair (.int .i64) (.pair (.int .i64) (.pair (.int .i64) (.pair (.int .i64) (.pair (.int .i64) (.pair (.int .i64) (.pair (.int .i64) .str)))))))))) false), (.c (.int .i64) false)], [(.slot 0), (.slot 1), (.slot 5)], []⟩
abbrev laws_eqRecS_E : Lab := ⟨[(.c (.ro (.pair (.int .i64) (.pair (.int .i64) (.pair (.int .i64) (.pair (.int .i64) (.pair (.int .i64) (.pair (.int .i64) (.pair (.int .i64) (.pair (.int .i64) (.pair (.int .i64) .str)))))))))) false), (.c (.ro (.pair (.int .i64) (.pair (.int .i64) (.pair (.int .i64) (.pair (.int .i64) (.pair (.int .i64) (.pair (.int .i64) (.pair (.int .i64) (.pair (.int .i64) (.pair (.int .i64) .str)))))))))) false)], [(.slot 0), (.slot 1)], []⟩
abbrev laws_eqRecS_R : Lab := ⟨[(.c .bool false)], [(.slot 4)], []⟩
def laws_eqRecS_b4 {ρ : Type} (l4 : (List (RecT)) → (List (RecT)) → Int → Option ρ) (r : Bool → Option ρ) (x0 : List (RecT)) (x1 : List (RecT)) (x5 : Int) : Option ρ := bif decide (x5 < (x0.length : Int)) then ((idx x0 x5).bind fun v1 => (idx x1 x5).bind fun v2 => (laws_eqRec v1 v2).bind fun t3 => bif !t3 then (r false) else (l4 x0 x1 (wr .i64 (x5 + 1)))) else (r true)
def laws_eqRecS_be {ρ : Type} (l4 : (List (RecT)) → (List (RecT)) → Int → Option ρ) (r : Bool → Option ρ) (a0 : List (RecT)) (a1 : List (RecT)) : Option ρ := bif !(decide ((a0.length : Int) = (a1.length : Int))) then (r false) else (l4 a0 a1 0)
theorem laws_eqRecS_s4 {ρ : Type} (l4 : (List (RecT)) → (List (RecT)) → Int → Option ρ) (r : Bool → Option ρ) (x : (List (RecT)) × (List (RecT)) × Int) : stretch laws_eqRecS_env [4] [(4, ⟨laws_eqRecS_L4, fun (x : (List (RecT)) × (List (RecT)) × Int) => l4 x.1 x.2.1 x.2.2⟩)] ⟨laws_eqRecS_R, fun (x : Bool) => r x⟩ true ((seek 4 laws_eqRecS_body []).getD []) laws_eqRecS_L4 x = laws_eqRecS_b4 l4 r x.1 x.2.1 x.2.2 := by kernel_rfl
theorem laws_eqRecS_se {ρ : Type} (l4 : (List (RecT)) → (List (RecT)) → Int → Option ρ) (r : Bool → Option ρ) (x : (List (RecT)) × List (RecT)) : stretch laws_eqRecS_env [4] [(4, ⟨laws_eqRecS_L4, fun (x : (List (RecT)) × (List (RecT)) × Int) => l4 x.1 x.2.1 x.2.2⟩)] ⟨laws_eqRecS_R, fun (x : Bool) => r x⟩ false [.code laws_eqRecS_body] laws_eqRecS_E x = laws_eqRecS_be l4 r x.1 x.2 := by kernel_rfl
abbrev laws_eqRecS_r : Bool → Option Bool := (fun (y0 : Bool) => some y0)
def laws_eqRecS_ls : Nat → ((List (RecT)) → (List (RecT)) → Int → Option Bool)
  | 0 => (fun _ _ _ => none)
  | n + 1 => laws_eqRecS_b4 (laws_eqRecS_ls n) laws_eqRecS_r
abbrev laws_eqRecS_l4 (n : Nat) : (List (RecT)) → (List (RecT)) → Int → Option Bool := (laws_eqRecS_ls n)
noncomputable def laws_eqRecS_d (a0 : List (RecT)) (a1 : List (RecT)) : Option Bool := lim fun n => laws_eqRecS_be (laws_eqRecS_l4 n) laws_eqRecS_r a0 a1
noncomputable def laws_eqRecS : (List (RecT)) → (List (RecT)) → Option Bool := shut laws_eqRecS_d
theorem laws_eqRecS_def (a0 : List (RecT)) (a1 : List (RecT)) : laws_eqRecS a0 a1 = laws_eqRecS_d a0 a1 := congrFun (congrFun (shut_eq _) a0) a1
theorem laws_eqRecS_ok' : ∀ (a0 : List (RecT)) (a1 : List (RecT)) (y : Bool), laws_eqRecS a0 a1 = some y → ∃ n, laws_eqRecS_be (laws_eqRecS_l4 n) laws_eqRecS_r a0 a1 = some y := fun a0 a1 y h => lim_some ((laws_eqRecS_def a0 a1).symm.trans h)
noncomputable def con_laws_eqRecS : Con := ⟨[(.val (.c (.ro (.pair (.int .i64) (.pair (.int .i64) (.pair (.int .i64) (.pair (.int .i64) (.pair (.int .i64) (.pair (.int .i64) (.pair (.int .i64) (.pair (.int .i64) (.pair (.int .i64) .str)))))))))) false)), (.val (.c (.ro (.pair (.int .i64) (.pair (.int .i64) (.pair (.int .i64) (.pair (.int .i64) (.pair (.int .i64) (.pair (.int .i64) (.pair (.int .i64) (.pair (.int .i64) (.pair (.int .i64) .str)))))))))) false))], [(.c .bool false)], fun (x : (List (RecT)) × List (RecT)) => laws_eqRecS x.1 x.2⟩
abbrev laws_eqRecS_fs (n : Nat) : List (Nat × LabK (VKs (con_laws_eqRecS.rs ++ outs con_laws_eqRecS.ps))) := [(4, ⟨laws_eqRecS_L4, fun (x : (List (RecT)) × (List (RecT)) × Int) => laws_eqRecS_l4 n x.1 x.2.1 x.2.2⟩)]
theorem ent_laws_eqRecS : Enters Go.Proofs.Tryz.prog 43 := enters_of Go.Proofs.Tryz.func43 (c := laws_eqRecS_body) (by kernel_rfl) (by kernel_rfl)
theorem hold_laws_eqRecS : Holds Go.Proofs.Tryz.prog 43 con_laws_eqRecS :=
  holds_of (E := laws_eqRecS_env) (con := con_laws_eqRecS) (fn := Go.Proofs.Tryz.f43) (body := laws_eqRecS_body) (ids := [4]) (Rsrc := [(.slot 4)]) (fs := laws_eqRecS_fs) prog_mixed (cs_of (E := laws_eqRecS_env) ⟨⟨ent_laws_eqRec, hold_laws_eqRec⟩, trivial⟩) (tabOk_of (E := laws_eqRecS_env) tab_ok) Go.Proofs.Tryz.func43 (by kernel_rfl) (by kernel_rfl) (by kernel_rfl)
    ⟨(fun _ => rfl), trivial⟩ (fun n => ⟨(fun x => (laws_eqRecS_s4 (laws_eqRecS_l4 n) laws_eqRecS_r x).symm), trivial⟩)
    (fun x y h => by
      obtain ⟨n, hn⟩ := laws_eqRecS_ok' x.1 x.2 y h
      exact ⟨n, (laws_eqRecS_se (laws_eqRecS_l4 n) laws_eqRecS_r x).trans hn⟩)
/-! 45 loop.example/g00106/laws.eqMsg -/
noncomputable def laws_eqMsg_body : Code := (Go.Proofs.Tryz.f45.body).getD .skip
noncomputable def laws_eqMsg_env : Env := { types := tab, cons := [(128, con_laws_eqCmd), (129, con_laws_eqEntryS)] }
abbrev laws_eqMsg_E : Lab := ⟨[(.c (.pair (.int .i64) (.pair (.int .i64) (.pair (.int .i64) (.pair (.int .i64) (.pair (.int .i64) (.pair (.int .i64) (.pair .bool (.pair (.int .i64) (.pair (.int .i64) (.pair .str (.pair (.pair (.int .i64) (.pair (.int .i64) (.pair (.int .i64) (.pair (.int .i64) .str)))) (.ro (.pair (.int .i64) (.pair (.int .i64) (.pair (.int .i64) (.pair (.int .i64) (.pair (.int .i64) .str))))))))))))))))) true), (.c (.pair (.int .i64) (.pair (.int .i64) (.pair (.int .i64) (.pair (.int .i64) (.pair (.int .i64) (.pair (.int .i64) (.pair .bool (.pair (.int .i64) (.pair (.int .i64) (.pair .str (.pair (.pair (.int .i64) (.pair (.int .i64) (.pair (.int .i64) (.pair (.int .i64) .str)))) (.ro (.pair (.int .i64) (.pair (.int .i64) (.pair (.int .i64) (.pair (.int .i64) (.pair (.int .i64) .str))))))))))))))))) true)], [(.slot 0), (.slot 1)], []⟩
abbrev laws_eqMsg_R : Lab := ⟨[(.c .bool false)], [(.slot 4)], []⟩
def laws_eqMsg_be {ρ : Type}  (r : Bool → Option ρ) (a0 : MsgT) (a1 : MsgT) : Option ρ := bif !(decide (a0.1 = a1.1)) then (r false) else (bif !(decide (a0.2.1 = a1.2.1)) then (r false) else (bif !(decide (a0.2.2.1 = a1.2.2.1)) then (r false) else (bif !(decide (a0.2.2.2.1 = a1.2.2.2.1)) then (r false) else (bif !(decide (a0.2.2.2.2.1 = a1.2.2.2.2.1)) then (r false) else (bif !(decide (a0.2.2.2.2.2.1 = a1.2.2.2.2.2.1)) then (r false) else (bif !(a0.2.2.2.2.2.2.1 == a1.2.2.2.2.2.2.1) then (r false) else (bif !(decide (a0.2.2.2.2.2.2.2.1 = a1.2.2.2.2.2.2.2.1)) then (r false) else (bif !(decide (a0.2.2.2.2.2.2.2.2.1 = a1.2.2.2.2.2.2.2.2.1)) then (r false) else (bif !(strEq a0.2.2.2.2.2.2.2.2.2.1 a1.2.2.2.2.2.2.2.2.2.1) then (r false) else ((laws_eqCmd a0.2.2.2.2.2.2.2.2.2.2.1 a1.2.2.2.2.2.2.2.2.2.2.1).bind fun t1 => bif !t1 then (r false) else ((laws_eqEntryS a0.2.2.2.2.2.2.2.2.2.2.2 a1.2.2.2.2.2.2.2.2.2.2.2).bind fun t2 => bif !t2 then (r false) else (r true))))))))))))
theorem laws_eqMsg_se {ρ : Type}  (r : Bool → Option ρ) (x : (MsgT) × MsgT) : stretch laws_eqMsg_env [] [] ⟨laws_eqMsg_R, fun (x : Bool) => r x⟩ false [.code laws_eqMsg_body] laws_eqMsg_E x = laws_eqMsg_be  r x.1 x.2 := by kernel_rfl
abbrev laws_eqMsg_r : Bool → Option Bool := (fun (y0 : Bool) => some y0)
noncomputable def laws_eqMsg_d (a0 : MsgT) (a1 : MsgT) : Option Bool := laws_eqMsg_be laws_eqMsg_r a0 a1
noncomputable def laws_eqMsg : (MsgT) → (MsgT) → Option Bool := shut laws_eqMsg_d
theorem laws_eqMsg_def (a0 : MsgT) (a1 : MsgT) : laws_eqMsg a0 a1 = laws_eqMsg_d a0 a1 := congrFun (congrFun (shut_eq _) a0) a1
noncomputable def con_laws_eqMsg : Con := ⟨[(.val (.c (.pair (.int .i64) (.pair (.int .i64) (.pair (.int .i64) (.pair (.int .i64) (.pair (.int .i64) (.pair (.int .i64) (.pair .bool (.pair (.int .i64) (.pair (.int .i64) (.pair .str (.pair (.pair (.int .i64) (.pair (.int .i64) (.pair (.int .i64) (.pair (.int .i64) .str)))) (.ro (.pair (.int .i64) (.pair (.int .i64) (.pair (.int .i64) (.pair (.int .i64) (.pair (.int .i64) .str))))))))))))))))) true)), (.val (.c (.pair (.int .i64) (.pair (.int .i64) (.pair (.int .i64) (.pair (.int .i64) (.pair (.int .i64) (.pair (.int .i64) (.pair .bool (.pair (.int .i64) (.pair (.int .i64) (.pair .str (.pair (.pair (.int .i64) (.pair (.int .i64) (.pair (.int .i64) (.pair (.int .i64) .str)))) (.ro (.pair (.int .i64) (.pair (.int .i64) (.pair (.int .i64) (.pair (.int .i64) (.pair (.int .i64) .str))))))))))))))))) true))], [(.c .bool false)], fun (x : (MsgT) × MsgT) => laws_eqMsg x.1 x.2⟩
abbrev laws_eqMsg_fs (n : Nat) : List (Nat × LabK (VKs (con_laws_eqMsg.rs ++ outs con_laws_eqMsg.ps))) := []
theorem ent_laws_eqMsg : Enters Go.Proofs.Tryz.prog 45 := enters_of Go.Proofs.Tryz.func45 (c := laws_eqMsg_body) (by kernel_rfl) (by kernel_rfl)
theorem hold_laws_eqMsg : Holds Go.Proofs.Tryz.prog 45 con_laws_eqMsg :=
  holds_of (E := laws_eqMsg_env) (con := con_laws_eqMsg) (fn := Go.Proofs.Tryz.f45) (body := laws_eqMsg_body) (ids := []) (Rsrc := [(.slot 4)]) (fs := laws_eqMsg_fs) prog_mixed (cs_of (E := laws_eqMsg_env) ⟨⟨ent_laws_eqCmd, hold_laws_eqCmd⟩, ⟨ent_laws_eqEntryS, hold_laws_eqEntryS⟩, trivial⟩) (tabOk_of (E := laws_eqMsg_env) tab_ok) Go.Proofs.Tryz.func45 (by kernel_rfl) (by kernel_rfl) (by kernel_rfl)
    trivial (fun n => trivial)
    (fun x y h => ⟨0, (laws_eqMsg_se laws_eqMsg_r x).trans ((laws_eqMsg_def x.1 x.2).symm.trans h)⟩)
/-! 127 loop.example/g00106/laws.eqOut -/
noncomputable def laws_eqOut_body : Code := (Go.Proofs.Tryz.f127.body).getD .skip
noncomputable def laws_eqOut_env : Env := { types := tab, cons := [(45, con_laws_eqMsg)] }
abbrev laws_eqOut_E : Lab := ⟨[(.c (.pair (.int .i64) (.pair (.int .i64) (.pair (.int .i64) (.pair (.int .i64) (.pair (.int .i64) (.pair (.int .i64) (.pair (.int .i64) (.pair .bool (.pair (.int .i64) (.pair (.int .i64) (.pair .str (.pair (.pair (.int .i64) (.pair (.int .i64) (.pair (.int .i64) (.pair (.int .i64) .str)))) (.ro (.pair (.int .i64) (.pair (.int .i64) (.pair (.int .i64) (.pair (.int .i64) (.pair (.int .i64) .str)))))))))))))))))) true), (.c (.pair (.int .i64) (.pair (.int .i64) (.pair (.int .i64) (.pair (.int .i64) (.pair (.int .i64) (.pair (.int .i64) (.pair (.int .i64) (.pair .bool (.pair (.int .i64) (.pair (.int .i64) (.pair .str (.pair (.pair (.int .i64) (.pair (.int .i64) (.pair (.int .i64) (.pair (.int .i64) .str)))) (.ro (.pair (.int .i64) (.pair (.int .i64) (.pair (.int .i64) (.pair (.int .i64) (.pair (.int .i64) .str)))))))))))))))))) true)], [(.slot 0), (.slot 1)], []⟩
abbrev laws_eqOut_R : Lab := ⟨[(.c .bool false)], [(.slot 4)], []⟩
def laws_eqOut_be {ρ : Type}  (r : Bool → Option ρ) (a0 : OutT) (a1 : OutT) : Option ρ := bif !(decide (a0.1 = a1.1)) then (r false) else ((laws_eqMsg a0.2 a1.2).bind fun t1 => bif !t1 then (r false) else (r true))
theorem laws_eqOut_se {ρ : Type}  (r : Bool → Option ρ) (x : (OutT) × OutT) : stretch laws_eqOut_env [] [] ⟨laws_eqOut_R, fun (x : Bool) => r x⟩ false [.code laws_eqOut_body] laws_eqOut_E x = laws_eqOut_be  r x.1 x.2 := by kernel_rfl
abbrev laws_eqOut_r : Bool → Option Bool := (fun (y0 : Bool) => some y0)
noncomputable def laws_eqOut_d (a0 : OutT) (a1 : OutT) : Option Bool := laws_eqOut_be laws_eqOut_r a0 a1
noncomputable def laws_eqOut : (OutT) → (OutT) → Option Bool := shut laws_eqOut_d
theorem laws_eqOut_def (a0 : OutT) (a1 : OutT) : laws_eqOut a0 a1 = laws_eqOut_d a0 a1 := congrFun (congrFun (shut_eq _) a0) a1
noncomputable def con_laws_eqOut : Con := ⟨[(.val (.c (.pair (.int .i64) (.pair (.int .i64) (.pair (.int .i64) (.pair (.int .i64) (.pair (.int .i64) (.pair (.int .i64) (.pair (.int .i64) (.pair .bool (.pair (.int .i64) (.pair (.int .i64) (.pair .str (.pair (.pair (.int .i64) (.pair (.int .i64) (.pair (.int .i64) (.pair (.int .i64) .str)))) (.ro (.pair (.int .i64) (.pair (.int .i64) (.pair (.int .i64) (.pair (.int .i64) (.pair (.int .i64) .str)))))))))))))))))) true)), (.val (.c (.pair (.int .i64) (.pair (.int .i64) (.pair (.int .i64) (.pair (.int .i64) (.pair (.int .i64) (.pair (.int .i64) (.pair (.int .i64) (.pair .bool (.pair (.int .i64) (.pair (.int .i64) (.pair .str (.pair (.pair (.int .i64) (.pair (.int .i64) (.pair (.int .i64) (.pair (.int .i64) .str)))) (.ro (.pair (.int .i64) (.pair (.int .i64) (.pair (.int .i64) (.pair (.int .i64) (.pair (.int .i64) .str)))))))))))))))))) true))], [(.c .bool false)], fun (x : (OutT) × OutT) => laws_eqOut x.1 x.2⟩
abbrev laws_eqOut_fs (n : Nat) : List (Nat × LabK (VKs (con_laws_eqOut.rs ++ outs con_laws_eqOut.ps))) := []
theorem ent_laws_eqOut : Enters Go.Proofs.Tryz.prog 127 := enters_of Go.Proofs.Tryz.func127 (c := laws_eqOut_body) (by kernel_rfl) (by kernel_rfl)
theorem hold_laws_eqOut : Holds Go.Proofs.Tryz.prog 127 con_laws_eqOut :=
  holds_of (E := laws_eqOut_env) (con := con_laws_eqOut) (fn := Go.Proofs.Tryz.f127) (body := laws_eqOut_body) (ids := []) (Rsrc := [(.slot 4)]) (fs := laws_eqOut_fs) prog_mixed (cs_of (E := laws_eqOut_env) ⟨⟨ent_laws_eqMsg, hold_laws_eqMsg⟩, trivial⟩) (tabOk_of (E := laws_eqOut_env) tab_ok) Go.Proofs.Tryz.func127 (by kernel_rfl) (by kernel_rfl) (by kernel_rfl)
    trivial (fun n => trivial)
    (fun x y h => ⟨0, (laws_eqOut_se laws_eqOut_r x).trans ((laws_eqOut_def x.1 x.2).symm.trans h)⟩)
/-! 44 loop.example/g00106/laws.eqOutS -/
noncomputable def laws_eqOutS_body : Code := (Go.Proofs.Tryz.f44.body).getD .skip
noncomputable def laws_eqOutS_env : Env := { types := tab, cons := [(127, con_laws_eqOut)] }
abbrev laws_eqOutS_L4 : Lab := ⟨[(.c (.ro (.pair (.int .i64) (.pair (.int .i64) (.pair (.int .i64) (.pair (.int .i64) (.pair (.int .i64) (.pair (.int .i64) (.pair (.int .i64) (.pair .bool (.pair (.int .i64) (.pair (.int .i64) (.pair .str (.pair (.pair (.int .i64) (.pair (.int .i64) (.pair (.int .i64) (.pair (.int .i64) .str)))) (.list (.pair (.int .i64) (.pair (.int .i64) (.pair (.int .i64) (.pair (.int .i64) (.pair (.int .i64) .str))))))))))))))))))) false), (.c (.ro (.pair (.int .i64) (.pair (.int .i64) (.pair (.int .i64) (.pair (.int .i64) (.pair (.int .i64) (.pair (.int .i64) (.pair (.int .i64) (.pair .bool (.pair (.int .i64) (.pair (.int .i64) (.pair .str (.pair (.pair (.int .i64) (.pair (.int .i64) (.pair (.int .i64) (.pair (.int .i64) .str)))) (.list (.pair (.int .i64) (.pair (.int .i64) (.pair (.int .i64) (.pair (.int .i64) (.pair (.int .i64) .str))))))))))))))))))) false), (.c (.int .i64) false)], [(.slot 0), (.slot 1), (.slot 5)], []⟩
abbrev laws_eqOutS_E : Lab := ⟨[(.c (.ro (.pair (.int .i64) (.pair (.int .i64) (.pair (.int .i64) (.pair (.int .i64) (.pair (.int .i64) (.pair (.int .i64) (.pair (.int .i64) (.pair .bool (.pair (.int .i64) (.pair (.int .i64) (.pair .str (.pair (.pair (.int .i64) (.pair (.int .i64) (.pair (.int .i64) (.pair (.int .i64) .str)))) (.list (.pair (.int .i64) (.pair (.int .i64) (.pair (.int .i64) (.pair (.int .i64) (.pair (.int .i64) .str))))))))))))))))))) false), (.c (.ro (.pair (.int .i64) (.pair (.int .i64) (.pair (.int .i64) (.pair (.int .i64) (.pair (.int .i64) (.pair (.int .i64) (.pair (.int .i64) (.pair .bool (.pair (.int .i64) (.pair (.int .i64) (.pair .str (.pair (.pair (.int .i64) (.pair (.int .i64) (.pair (.int .i64) (.pair (.int .i64) .str)))) (.list (.pair (.int .i64) (.pair (.int .i64) (.pair (.int .i64) (.pair (.int .i64) (.pair (.int .i64) .str))))))))))))))))))) false)], [(.slot 0), (.slot 1)], []⟩
abbrev laws_eqOutS_R : Lab := ⟨[(.c .bool false)], [(.slot 4)], []⟩
def laws_eqOutS_b4 {ρ : Type} (l4 : (List (OutT)) → (List (OutT)) → Int → Option ρ) (r : Bool → Option ρ) (x0 : List (OutT)) (x1 : List (OutT)) (x5 : Int) : Option ρ := bif decide (x5 < (x0.length : Int)) then ((idx x0 x5).bind fun v1 => (idx x1 x5).bind fun v2 => (laws_eqOut v1 v2).bind fun t3 => bif !t3 then (r false) else (l4 x0 x1 (wr .i64 (x5 + 1)))) else (r true)
def laws_eqOutS_be {ρ : Type} (l4 : (List (OutT)) → (List (OutT)) → Int → Option ρ) (r : Bool → Option ρ) (a0 : List (OutT)) (a1 : List (OutT)) : Option ρ := bif !(decide ((a0.length : Int) = (a1.length : Int))) then (r false) else (l4 a0 a1 0)
theorem laws_eqOutS_s4 {ρ : Type} (l4 : (List (OutT)) → (List (OutT)) → Int → Option ρ) (r : Bool → Option ρ) (x : (List (OutT)) × (List (OutT)) × Int) : stretch laws_eqOutS_env [4] [(4, ⟨laws_eqOutS_L4, fun (x : (List (OutT)) × (List (OutT)) × Int) => l4 x.1 x.2.1 x.2.2⟩)] ⟨laws_eqOutS_R, fun (x : Bool) => r x⟩ true ((seek 4 laws_eqOutS_body []).getD []) laws_eqOutS_L4 x = laws_eqOutS_b4 l4 r x.1 x.2.1 x.2.2 := by kernel_rfl
theorem laws_eqOutS_se {ρ : Type} (l4 : (List (OutT)) → (List (OutT)) → Int → Option ρ) (r : Bool → Option ρ) (x : (List (OutT)) × List (OutT)) : stretch laws_eqOutS_env [4] [(4, ⟨laws_eqOutS_L4, fun (x : (List (OutT)) × (List (OutT)) × Int) => l4 x.1 x.2.1 x.2.2⟩)] ⟨laws_eqOutS_R, fun (x : Bool) => r x⟩ false [.code laws_eqOutS_body] laws_eqOutS_E x = laws_eqOutS_be l4 r x.1 x.2 := by kernel_rfl
abbrev laws_eqOutS_r : Bool → Option Bool := (fun (y0 : Bool) => some y0)
def laws_eqOutS_ls : Nat → ((List (OutT)) → (List (OutT)) → Int → Option Bool)
  | 0 => (fun _ _ _ => none)
  | n + 1 => laws_eqOutS_b4 (laws_eqOutS_ls n) laws_eqOutS_r
abbrev laws_eqOutS_l4 (n : Nat) : (List (OutT)) → (List (OutT)) → Int → Option Bool := (laws_eqOutS_ls n)
noncomputable def laws_eqOutS_d (a0 : List (OutT)) (a1 : List (OutT)) : Option Bool := lim fun n => laws_eqOutS_be (laws_eqOutS_l4 n) laws_eqOutS_r a0 a1
noncomputable def laws_eqOutS : (List (OutT)) → (List (OutT)) → Option Bool := shut laws_eqOutS_d
theorem laws_eqOutS_def (a0 : List (OutT)) (a1 : List (OutT)) : laws_eqOutS a0 a1 = laws_eqOutS_d a0 a1 := congrFun (congrFun (shut_eq _) a0) a1
theorem laws_eqOutS_ok' : ∀ (a0 : List (OutT)) (a1 : List (OutT)) (y : Bool), laws_eqOutS a0 a1 = some y → ∃ n, laws_eqOutS_be (laws_eqOutS_l4 n) laws_eqOutS_r a0 a1 = some y := fun a0 a1 y h => lim_some ((laws_eqOutS_def a0 a1).symm.trans h)
noncomputable def con_laws_eqOutS : Con := ⟨[(.val (.c (.ro (.pair (.int .i64) (.pair (.int .i64) (.pair (.int .i64) (.pair (.int .i64) (.pair (.int .i64) (.pair (.int .i64) (.pair (.int .i64) (.pair .bool (.pair (.int .i64) (.pair (.int .i64) (.pair .str (.pair (.pair (.int .i64) (.pair (.int .i64) (.pair (.int .i64) (.pair (.int .i64) .str)))) (.list (.pair (.int .i64) (.pair (.int .i64) (.pair (.int .i64) (.pair (.int .i64) (.pair (.int .i64) .str))))))))))))))))))) false)), (.val (.c (.ro (.pair (.int .i64) (.pair (.int .i64) (.pair (.int .i64) (.pair (.int .i64) (.pair (.int .i64) (.pair (.int .i64) (.pair (.int .i64) (.pair .bool (.pair (.int .i64) (.pair (.int .i64) (.pair .str (.pair (.pair (.int .i64) (.pair (.int .i64) (.pair (.int .i64) (.pair (.int .i64) .str)))) (.list (.pair (.int .i64) (.pair (.int .i64) (.pair (.int .i64) (.pair (.int .i64) (.pair (.int .i64) .str))))))))))))))))))) false))], [(.c .bool false)], fun (x : (List (OutT)) × List (OutT)) => laws_eqOutS x.1 x.2⟩
abbrev laws_eqOutS_fs (n : Nat) : List (Nat × LabK (VKs (con_laws_eqOutS.rs ++ outs con_laws_eqOutS.ps))) := [(4, ⟨laws_eqOutS_L4, fun (x : (List (OutT)) × (List (OutT)) × Int) => laws_eqOutS_l4 n x.1 x.2.1 x.2.2⟩)]
theorem ent_laws_eqOutS : Enters Go.Proofs.Tryz.prog 44 := enters_of Go.Proofs.Tryz.func44 (c := laws_eqOutS_body) (by kernel_rfl) (by kernel_rfl)
theorem hold_laws_eqOutS : Holds Go.Proofs.Tryz.prog 44 con_laws_eqOutS :=
  holds_of (E := laws_eqOutS_env) (con := con_laws_eqOutS) (fn := Go.Proofs.Tryz.f44) (body := laws_eqOutS_body) (ids := [4]) (Rsrc := [(.slot 4)]) (fs := laws_eqOutS_fs) prog_mixed (cs_of (E := laws_eqOutS_env) ⟨⟨ent_laws_eqOut, hold_laws_eqOut⟩, trivial⟩) (tabOk_of (E := laws_eqOutS_env) tab_ok) Go.Proofs.Tryz.func44 (by kernel_rfl) (by kernel_rfl) (by kernel_rfl)
    ⟨(fun _ => rfl), trivial⟩ (fun n => ⟨(fun x => (laws_eqOutS_s4 (laws_eqOutS_l4 n) laws_eqOutS_r x).symm), trivial⟩)
    (fun x y h => by
      obtain ⟨n, hn⟩ := laws_eqOutS_ok' x.1 x.2 y h
      exact ⟨n, (laws_eqOutS_se (laws_eqOutS_l4 n) laws_eqOutS_r x).trans hn⟩)
/-! 133 loop.example/g00106/laws.markText -/
noncomputable def laws_markText_body : Code := (Go.Proofs.Tryz.f133.body).getD .skip
noncomputable def laws_markText_env : Env := { types := tab, cons := [] }
abbrev laws_markText_L4 : Lab := ⟨[(.c (.int .i64) false), (.c .str false)], [(.slot 0), (.slot 3)], []⟩
abbrev laws_markText_E : Lab := ⟨[(.c (.int .i64) false)], [(.slot 0)], []⟩
abbrev laws_markText_R : Lab := ⟨[(.c .str false)], [(.slot 2)], []⟩
def laws_markText_b4 {ρ : Type} (l4 : Int → ByteArray → Option ρ) (r : ByteArray → Option ρ) (x0 : Int) (x3 : ByteArray) : Option ρ := bif decide (x0 > 0) then (bif decide ((ofBytes ([wr .u8 (wr .i64 (48 + (Int.tmod x0 10)))] : List Int)).size + x3.size ≤ 9223372036854775807) then (l4 (wr .i64 (Int.tdiv x0 10)) ((ofBytes ([wr .u8 (wr .i64 (48 + (Int.tmod x0 10)))] : List Int)) ++ x3)) else (none)) else (bif decide (1 + x3.size ≤ 9223372036854775807) then (r ((⟨#[109]⟩ : ByteArray) ++ x3)) else (none))
def laws_markText_be {ρ : Type} (l4 : Int → ByteArray → Option ρ) (r : ByteArray → Option ρ) (a0 : Int) : Option ρ := bif decide (a0 ≤ 0) then (r ⟨#[109, 48]⟩) else (l4 a0 ⟨#[]⟩)
theorem laws_markText_s4 {ρ : Type} (l4 : Int → ByteArray → Option ρ) (r : ByteArray → Option ρ) (x : Int × ByteArray) : stretch laws_markText_env [4] [(4, ⟨laws_markText_L4, fun (x : Int × ByteArray) => l4 x.1 x.2⟩)] ⟨laws_markText_R, fun (x : ByteArray) => r x⟩ true ((seek 4 laws_markText_body []).getD []) laws_markText_L4 x = laws_markText_b4 l4 r x.1 x.2 := by kernel_rfl
theorem laws_markText_se {ρ : Type} (l4 : Int → ByteArray → Option ρ) (r : ByteArray → Option ρ) (x : Int) : stretch laws_markText_env [4] [(4, ⟨laws_markText_L4, fun (x : Int × ByteArray) => l4 x.1 x.2⟩)] ⟨laws_markText_R, fun (x : ByteArray) => r x⟩ false [.code laws_markText_body] laws_markText_E x = laws_markText_be l4 r x := by kernel_rfl
abbrev laws_markText_r : ByteArray → Option ByteArray := (fun (y0 : ByteArray) => some y0)
def laws_markText_ls : Nat → (Int → ByteArray → Option ByteArray)
  | 0 => (fun _ _ => none)
  | n + 1 => laws_markText_b4 (laws_markText_ls n) laws_markText_r
abbrev laws_markText_l4 (n : Nat) : Int → ByteArray → Option ByteArray := (laws_markText_ls n)
noncomputable def laws_markText_d (a0 : Int) : Option ByteArray := lim fun n => laws_markText_be (laws_markText_l4 n) laws_markText_r a0
noncomputable def laws_markText : Int → Option ByteArray := shut laws_markText_d
theorem laws_markText_def (a0 : Int) : laws_markText a0 = laws_markText_d a0 := congrFun (shut_eq _) a0
theorem laws_markText_ok' : ∀ (a0 : Int) (y : ByteArray), laws_markText a0 = some y → ∃ n, laws_markText_be (laws_markText_l4 n) laws_markText_r a0 = some y := fun a0 y h => lim_some ((laws_markText_def a0).symm.trans h)
noncomputable def con_laws_markText : Con := ⟨[(.val (.c (.int .i64) false))], [(.c .str false)], fun (x : Int) => laws_markText x⟩
abbrev laws_markText_fs (n : Nat) : List (Nat × LabK (VKs (con_laws_markText.rs ++ outs con_laws_markText.ps))) := [(4, ⟨laws_markText_L4, fun (x : Int × ByteArray) => laws_markText_l4 n x.1 x.2⟩)]
theorem ent_laws_markText : Enters Go.Proofs.Tryz.prog 133 := enters_of Go.Proofs.Tryz.func133 (c := laws_markText_body) (by kernel_rfl) (by kernel_rfl)
theorem hold_laws_markText : Holds Go.Proofs.Tryz.prog 133 con_laws_markText :=
  holds_of (E := laws_markText_env) (con := con_laws_markText) (fn := Go.Proofs.Tryz.f133) (body := laws_markText_body) (ids := [4]) (Rsrc := [(.slot 2)]) (fs := laws_markText_fs) prog_mixed (cs_of (E := laws_markText_env) trivial) (tabOk_of (E := laws_markText_env) tab_ok) Go.Proofs.Tryz.func133 (by kernel_rfl) (by kernel_rfl) (by kernel_rfl)
    ⟨(fun _ => rfl), trivial⟩ (fun n => ⟨(fun x => (laws_markText_s4 (laws_markText_l4 n) laws_markText_r x).symm), trivial⟩)
    (fun x y h => by
      obtain ⟨n, hn⟩ := laws_markText_ok' x y h
      exact ⟨n, (laws_markText_se (laws_markText_l4 n) laws_markText_r x).trans hn⟩)
/-! 132 loop.example/g00106/laws.markEntryS -/
noncomputable def laws_markEntryS_body : Code := (Go.Proofs.Tryz.f132.body).getD .skip
noncomputable def laws_markEntryS_env : Env := { types := tab, cons := [(133, con_laws_markText)] }
abbrev laws_markEntryS_L2 : Lab := ⟨[(.c (.own (.pair (.int .i64) (.pair (.int .i64) (.pair (.int .i64) (.pair (.int .i64) (.pair (.int .i64) .str)))))) false), (.c (.int .i64) false), (.c (.int .i64) false)], [(.slot 0), (.slot 1), (.slot 5)], []⟩
abbrev laws_markEntryS_E : Lab := ⟨[(.c (.own (.pair (.int .i64) (.pair (.int .i64) (.pair (.int .i64) (.pair (.int .i64) (.pair (.int .i64) .str)))))) false), (.c (.int .i64) false)], [(.slot 0), (.slot 1)], []⟩
abbrev laws_markEntryS_R : Lab := ⟨[(.c (.int .i64) false), (.c (.own (.pair (.int .i64) (.pair (.int .i64) (.pair (.int .i64) (.pair (.int .i64) (.pair (.int .i64) .str)))))) false)], [(.slot 4), (.slot 0)], []⟩
def laws_markEntryS_b2 {ρ : Type} (l2 : (List (EntT)) → Int → Int → Option ρ) (r : Int → (List (EntT)) → Option ρ) (x0 : List (EntT)) (x1 : Int) (x5 : Int) : Option ρ := bif decide (x5 < (x0.length : Int)) then (bif decide (0 ≤ x5) && decide (x5 < (x0.length : Int)) then ((idx x0 x5).bind fun v1 => bif decide (0 ≤ x5) && decide (x5 < ((x0.set (x5 : Int).toNat (x1, v1.2)).length : Int)) then ((idx (x0.set (x5 : Int).toNat (x1, v1.2)) x5).bind fun v2 => bif decide (0 ≤ x5) && decide (x5 < (((x0.set (x5 : Int).toNat (x1, v1.2)).set (x5 : Int).toNat (v2.1, wr .i64 (x1 + 1), v2.2.2)).length : Int)) then ((idx ((x0.set (x5 : Int).toNat (x1, v1.2)).set (x5 : Int).toNat (v2.1, wr .i64 (x1 + 1), v2.2.2)) x5).bind fun v3 => bif decide (0 ≤ x5) && decide (x5 < ((((x0.set (x5 : Int).toNat (x1, v1.2)).set (x5 : Int).toNat (v2.1, wr .i64 (x1 + 1), v2.2.2)).set (x5 : Int).toNat (v3.1, v3.2.1, wr .i64 ((wr .i64 (x1 + 1)) + 1), v3.2.2.2)).length : Int)) then ((idx (((x0.set (x5 : Int).toNat (x1, v1.2)).set (x5 : Int).toNat (v2.1, wr .i64 (x1 + 1), v2.2.2)).set (x5 : Int).toNat (v3.1, v3.2.1, wr .i64 ((wr .i64 (x1 + 1)) + 1), v3.2.2.2)) x5).bind fun v4 => bif decide (0 ≤ x5) && decide (x5 < (((((x0.set (x5 : Int).toNat (x1, v1.2)).set (x5 : Int).toNat (v2.1, wr .i64 (x1 + 1), v2.2.2)).set (x5 : Int).toNat (v3.1, v3.2.1, wr .i64 ((wr .i64 (x1 + 1)) + 1), v3.2.2.2)).set (x5 : Int).toNat (v4.1, v4.2.1, v4.2.2.1, wr .i64 ((wr .i64 ((wr .i64 (x1 + 1)) + 1)) + 1), v4.2.2.2.2)).length : Int)) then ((idx ((((x0.set (x5 : Int).toNat (x1, v1.2)).set (x5 : Int).toNat (v2.1, wr .i64 (x1 + 1), v2.2.2)).set (x5 : Int).toNat (v3.1, v3.2.1, wr .i64 ((wr .i64 (x1 + 1)) + 1), v3.2.2.2)).set (x5 : Int).toNat (v4.1, v4.2.1, v4.2.2.1, wr .i64 ((wr .i64 ((wr .i64 (x1 + 1)) + 1)) + 1), v4.2.2.2.2)) x5).bind fun v5 => (laws_markText (wr .i64 ((wr .i64 ((wr .i64 ((wr .i64 ((wr .i64 (x1 + 1)) + 1)) + 1)) + 1)) + 1))).bind fun t6 => bif decide (0 ≤ x5) && decide (x5 < ((((((x0.set (x5 : Int).toNat (x1, v1.2)).set (x5 : Int).toNat (v2.1, wr .i64 (x1 + 1), v2.2.2)).set (x5 : Int).toNat (v3.1, v3.2.1, wr .i64 ((wr .i64 (x1 + 1)) + 1), v3.2.2.2)).set (x5 : Int).toNat (v4.1, v4.2.1, v4.2.2.1, wr .i64 ((wr .i64 ((wr .i64 (x1 + 1)) + 1)) + 1), v4.2.2.2.2)).set (x5 : Int).toNat (v5.1, v5.2.1, v5.2.2.1, v5.2.2.2.1, wr .i64 ((wr .i64 ((wr .i64 ((wr .i64 (x1 + 1)) + 1)) + 1)) + 1), v5.2.2.2.2.2)).length : Int)) then ((idx (((((x0.set (x5 : Int).toNat (x1, v1.2)).set (x5 : Int).toNat (v2.1, wr .i64 (x1 + 1), v2.2.2)).set (x5 : Int).toNat (v3.1, v3.2.1, wr .i64 ((wr .i64 (x1 + 1)) + 1), v3.2.2.2)).set (x5 : Int).toNat (v4.1, v4.2.1, v4.2.2.1, wr .i64 ((wr .i64 ((wr .i64 (x1 + 1)) + 1)) + 1), v4.2.2.2.2)).set (x5 : Int).toNat (v5.1, v5.2.1, v5.2.2.1, v5.2.2.2.1, wr .i64 ((wr .i64 ((wr .i64 ((wr .i64 (x1 + 1)) + 1)) + 1)) + 1), v5.2.2.2.2.2)) x5).bind fun v7 => l2 ((((((x0.set (x5 : Int).toNat (x1, v1.2)).set (x5 : Int).toNat (v2.1, wr .i64 (x1 + 1), v2.2.2)).set (x5 : Int).toNat (v3.1, v3.2.1, wr .i64 ((wr .i64 (x1 + 1)) + 1), v3.2.2.2)).set (x5 : Int).toNat (v4.1, v4.2.1, v4.2.2.1, wr .i64 ((wr .i64 ((wr .i64 (x1 + 1)) + 1)) + 1), v4.2.2.2.2)).set (x5 : Int).toNat (v5.1, v5.2.1, v5.2.2.1, v5.2.2.2.1, wr .i64 ((wr .i64 ((wr .i64 ((wr .i64 (x1 + 1)) + 1)) + 1)) + 1), v5.2.2.2.2.2)).set (x5 : Int).toNat (v7.1, v7.2.1, v7.2.2.1, v7.2.2.2.1, v7.2.2.2.2.1, t6)) (wr .i64 ((wr .i64 ((wr .i64 ((wr .i64 ((wr .i64 ((wr .i64 (x1 + 1)) + 1)) + 1)) + 1)) + 1)) + 1)) (wr .i64 (x5 + 1))) else (none)) else (none)) else (none)) else (none)) else (none)) else (none)) else (r x1 x0)
def laws_markEntryS_be {ρ : Type} (l2 : (List (EntT)) → Int → Int → Option ρ) (r : Int → (List (EntT)) → Option ρ) (a0 : List (EntT)) (a1 : Int) : Option ρ := l2 a0 a1 0
theorem laws_markEntryS_s2 {ρ : Type} (l2 : (List (EntT)) → Int → Int → Option ρ) (r : Int → (List (EntT)) → Option ρ) (x : (List (EntT)) × Int × Int) : stretch laws_markEntryS_env [2] [(2, ⟨laws_markEntryS_L2, fun (x : (List (EntT)) × Int × Int) => l2 x.1 x.2.1 x.2.2⟩)] ⟨laws_markEntryS_R, fun (x : Int × List (EntT)) => r x.1 x.2⟩ true ((seek 2 laws_markEntryS_body []).getD []) laws_markEntryS_L2 x = laws_markEntryS_b2 l2 r x.1 x.2.1 x.2.2 := by kernel_rfl
theorem laws_markEntryS_se {ρ : Type} (l2 : (List (EntT)) → Int → Int → Option ρ) (r : Int → (List (EntT)) → Option ρ) (x : (List (EntT)) × Int) : stretch laws_markEntryS_env [2] [(2, ⟨laws_markEntryS_L2, fun (x : (List (EntT)) × Int × Int) => l2 x.1 x.2.1 x.2.2⟩)] ⟨laws_markEntryS_R, fun (x : Int × List (EntT)) => r x.1 x.2⟩ false [.code laws_markEntryS_body] laws_markEntryS_E x = laws_markEntryS_be l2 r x.1 x.2 := by kernel_rfl
abbrev laws_markEntryS_r : Int → (List (EntT)) → Option (Int × List (EntT)) := (fun (y0 : Int) (y1 : List (EntT)) => some (y0, y1))
def laws_markEntryS_ls : Nat → ((List (EntT)) → Int → Int → Option (Int × List (EntT)))
  | 0 => (fun _ _ _ => none)
  | n + 1 => laws_markEntryS_b2 (laws_markEntryS_ls n) laws_markEntryS_r
abbrev laws_markEntryS_l2 (n : Nat) : (List (EntT)) → Int → Int → Option (Int × List (EntT)) := (laws_markEntryS_ls n)
noncomputable def laws_markEntryS_d (a0 : List (EntT)) (a1 : Int) : Option (Int × List (EntT)) := lim fun n => laws_markEntryS_be (laws_markEntryS_l2 n) laws_markEntryS_r a0 a1
noncomputable def laws_markEntryS : (List (EntT)) → Int → Option (Int × List (EntT)) := shut laws_markEntryS_d
theorem laws_markEntryS_def (a0 : List (EntT)) (a1 : Int) : laws_markEntryS a0 a1 = laws_markEntryS_d a0 a1 := congrFun (congrFun (shut_eq _) a0) a1
theorem laws_markEntryS_ok' : ∀ (a0 : List (EntT)) (a1 : Int) (y : Int × List (EntT)), laws_markEntryS a0 a1 = some y → ∃ n, laws_markEntryS_be (laws_markEntryS_l2 n) laws_markEntryS_r a0 a1 = some y := fun a0 a1 y h => lim_some ((laws_markEntryS_def a0 a1).symm.trans h)
noncomputable def con_laws_markEntryS : Con := ⟨[(.mut (.c (.own (.pair (.int .i64) (.pair (.int .i64) (.pair (.int .i64) (.pair (.int .i64) (.pair (.int .i64) .str)))))) false)), (.val (.c (.int .i64) false))], [(.c (.int .i64) false)], fun (x : (List (EntT)) × Int) => laws_markEntryS x.1 x.2⟩
abbrev laws_markEntryS_fs (n : Nat) : List (Nat × LabK (VKs (con_laws_markEntryS.rs ++ outs con_laws_markEntryS.ps))) := [(2, ⟨laws_markEntryS_L2, fun (x : (List (EntT)) × Int × Int) => laws_markEntryS_l2 n x.1 x.2.1 x.2.2⟩)]
theorem ent_laws_markEntryS : Enters Go.Proofs.Tryz.prog 132 := enters_of Go.Proofs.Tryz.func132 (c := laws_markEntryS_body) (by kernel_rfl) (by kernel_rfl)
theorem hold_laws_markEntryS : Holds Go.Proofs.Tryz.prog 132 con_laws_markEntryS :=
  holds_of (E := laws_markEntryS_env) (con := con_laws_markEntryS) (fn := Go.Proofs.Tryz.f132) (body := laws_markEntryS_body) (ids := [2]) (Rsrc := [(.slot 4)]) (fs := laws_markEntryS_fs) prog_mixed (cs_of (E := laws_markEntryS_env) ⟨⟨ent_laws_markText, hold_laws_markText⟩, trivial⟩) (tabOk_of (E := laws_markEntryS_env) tab_ok) Go.Proofs.Tryz.func132 (by kernel_rfl) (by kernel_rfl) (by kernel_rfl)
    ⟨(fun _ => rfl), trivial⟩ (fun n => ⟨(fun x => (laws_markEntryS_s2 (laws_markEntryS_l2 n) laws_markEntryS_r x).symm), trivial⟩)
    (fun x y h => by
      obtain ⟨n, hn⟩ := laws_markEntryS_ok' x.1 x.2 y h
      exact ⟨n, (laws_markEntryS_se (laws_markEntryS_l2 n) laws_markEntryS_r x).trans hn⟩)
end
end Go.TM

