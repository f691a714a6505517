/- Part 11 of 23 of the proof that the law TopAnewStub returns true and leaves its argument as it read before, for every input that the bounded statement admits (what it reads is of bulk at most 1048576). -/
import Derived.Test.YtbjkpdaigckiiaaP07
open Go Go.Proofs Go.Proofs.Ytbjkpdaigckiiaa
set_option maxRecDepth 100000
set_option linter.unusedVariables false
namespace Go.Proofs.Ytbjkpdaigckiiaa.S
noncomputable def b17 : Code := match Try.f17.body with | some c => c | none => .skip
def s17 (R : CE → CM → Prop) (a0 a1 a2 a3 : Value) (m : CM) : Prop :=
  boxw a0 m (fun t4 m => alw Try.prog 50 m (fun t8 m => pop (cload Try.prog 24 t4 m) m (fun t14 m => callw Try.prog 42 [t14, a1] m (fun t16 m => pop (cext t16 0) m (fun t17 m => pop (cext t16 1) m (fun t18 m => alw Try.prog 78 m (fun t10 m => sop (cstore Try.prog 78 t10 t17 m) (fun _ m => pop (cbin Try.prog BinOp.neq 37 (Operand.tmp 20) (Operand.const (Value.int IntKind.i64 0)) t18 (.int .i64 0)) m (fun t21 m => cnd t21 (pop (cload Try.prog 50 t8 m) m (fun t22 m => sop (cstore Try.prog 50 t8 t22 m) (fun _ m => leaveV Try.prog [.c 50 t8, .v t18] [] .ret m R))) (pop (cfa Try.prog 78 0 t10) m (fun t25 m => pop (cfa Try.prog 24 1 t25) m (fun t26 m => pop (cload Try.prog 22 t26 m) m (fun t27 m => pop (clen Try.prog 22 t27 m) m (fun t28 m => vop (cbuildS Try.prog 25 2 [(0, a2), (1, a3)] m) (fun t31 m => callw Try.prog 36 [(.int .i64 0), t28, t31] m (fun t32 m => gop (gb t32 false) (fun K => K a2 m) (fun t34 m => gop (gb t32 false) (fun K => K a3 m) (fun t35 m => gop (gb t32 false) (fun K => pop (cbin Try.prog BinOp.geq 3 (Operand.tmp 34) (Operand.tmp 35) t34 t35) m K) (fun t36 m => pop (cpick t32 (.bool true) t36) m (fun t37 m => cnd t37 (pop (cload Try.prog 50 t8 m) m (fun t38 m => sop (cstore Try.prog 50 t8 t38 m) (fun _ m => leaveV Try.prog [.c 50 t8, .v (.int .i64 4)] [] .ret m R))) (pop (cload Try.prog 78 t10 m) m (fun t40 m => callw Try.prog 43 [t40] m (fun t41 m => pop (cext t41 0) m (fun t42 m => pop (cext t41 1) m (fun t43 m => alw Try.prog 83 m (fun t11 m => sop (cstore Try.prog 83 t11 t42 m) (fun _ m => pop (cun Try.prog UnOp.not t43) m (fun t45 m => cnd t45 (pop (cload Try.prog 50 t8 m) m (fun t46 m => sop (cstore Try.prog 50 t8 t46 m) (fun _ m => leaveV Try.prog [.c 50 t8, .v (.int .i64 9)] [] .ret m R))) (pop (cia Try.prog 83 t11 a3) m (fun t49 _ => pop (cia Try.prog 81 t49 a2) m (fun t50 _ => pop (cload Try.prog 3 t50 m) m (fun t51 _ => pop (cun Try.prog UnOp.neg t51) m (fun t52 _ => pop (cia Try.prog 83 t11 a2) m (fun t55 _ => pop (cia Try.prog 81 t55 a3) m (fun t56 _ => pop (cload Try.prog 3 t56 m) m (fun t57 _ => pop (cbuild Try.prog 50 [(0, t52), (1, t57)]) m (fun t58 m => sop (cstore Try.prog 50 t8 t58 m) (fun _ m => leaveV Try.prog [.c 50 t8, .v (.int .i64 0)] [] .ret m R)))))))))))))))) (fun ch m => R (.pan ch) m))))) m) m) m) (fun ch m => R (.pan ch) m))))))))))))) (fun ch m => R (.pan ch) m))))
def ann17 : Nat → List Nat := fun i => if i = 19 then [11] else []
theorem e17 (R : CE → CM → Prop) (a0 a1 a2 a3 : Value) (m : CM) : wpc Try.prog ann17 none b17 (leaveX Try.prog Try.f17.results.toList R) (enterA Try.f17 [a0, a1, a2, a3]) m = s17 R a0 a1 a2 a3 m := by kernel_rfl
theorem ok17 : codeOk ann17 Try.f17.ntmps b17 = true := by kernel_rfl
theorem c17 {a0 a1 a2 a3 : Value} {m : CM} {K : Value → CM → Prop} {Kp : List PanicEntry → CM → Prop} (h : s17 (RK K Kp) a0 a1 a2 a3 m) : callw Try.prog 17 [a0, a1, a2, a3] m K Kp :=
  callw_text mixed Try.func17 (show Try.f17.body = some b17 by kernel_rfl) (by kernel_rfl) (by kernel_rfl) ok17 (by rw [e17]; exact h)
noncomputable def b20 : Code := match Try.f20.body with | some c => c | none => .skip
noncomputable def as20_0 : Code := ((rfs b20).getD 0 (#[], .skip, .skip)).2.1
noncomputable def bd20_0 : Code := ((rfs b20).getD 0 (#[], .skip, .skip)).2.2
def j20_0 (R : CE → CM → Prop) (q0_4 : Value) (ds : List Deferred) (m : CM) : Prop :=
  pop (cload Try.prog 25 q0_4 m) m (fun t38 m => pop (clen Try.prog 25 t38 m) m (fun t39 m => pop (cbin Try.prog BinOp.eql 3 (Operand.tmp 39) (Operand.const (Value.int IntKind.i64 0)) t39 (.int .i64 0)) m (fun t40 m => cnd t40 (sop (cstore Try.prog 25 q0_4 (Value.slice none 0 0) m) (fun _ m => leaveV Try.prog [.c 25 q0_4, .v (.int .i64 9)] ds .ret m R)) (pop (cload Try.prog 25 q0_4 m) m (fun t41 m => sop (cstore Try.prog 25 q0_4 t41 m) (fun _ m => leaveV Try.prog [.c 25 q0_4, .v (.int .i64 0)] ds .ret m R))))))
noncomputable def s20 (R : CE → CM → Prop) (a0 a1 : Value) (m : CM) : Prop :=
  boxw a0 m (fun t2 m => alw Try.prog 25 m (fun t4 m => pop (cload Try.prog 24 t2 m) m (fun t12 m => callw Try.prog 42 [t12, a1] m (fun t14 m => pop (cext t14 0) m (fun t15 m => pop (cext t14 1) m (fun t16 m => alw Try.prog 78 m (fun t6 m => sop (cstore Try.prog 78 t6 t15 m) (fun _ m => pop (cbin Try.prog BinOp.neq 37 (Operand.tmp 17) (Operand.const (Value.int IntKind.i64 0)) t16 (.int .i64 0)) m (fun t18 m => cnd t18 (sop (cstore Try.prog 25 t4 (Value.slice none 0 0) m) (fun _ m => leaveV Try.prog [.c 25 t4, .v t16] [] .ret m R)) (pop (cload Try.prog 78 t6 m) m (fun t21 m => callw Try.prog 43 [t21] m (fun t22 m => pop (cext t22 0) m (fun t23 m => pop (cext t22 1) m (fun t24 m => alw Try.prog 83 m (fun t7 m => sop (cstore Try.prog 83 t7 t23 m) (fun _ m => cnd t24 (sop (cstore Try.prog 25 t4 (Value.slice none 0 0) m) (fun _ m => leaveV Try.prog [.c 25 t4, .v (.int .i64 4)] [] .ret m R)) (alw Try.prog 93 m (fun t9 m => sop (cstore Try.prog 93 t9 (.func (Fn.func 48) ⟨[]⟩ ⟨[t6]⟩) m) (fun _ m => pop (cload Try.prog 78 t6 m) m (fun t27 m => callw Try.prog 44 [t27] m (fun t28 m => rfO Try.prog t28 m (fun D => rfRec ((((((((((((((((((((((((((enterA Try.f20 [a0, a1]).put (some 2) t2).put (some 4) t4).put (some 5) (.int .i64 0)).put (some 12) t12).put (some 13) a1).put (some 14) t14).put (some 11) t14).put (some 15) t15).put (some 16) t16).put (some 6) t6).put (some 5) t16).put (some 17) t16).put (some 18) t18).put (some 21) t21).put (some 22) t22).put (some 20) t22).put (some 23) t23).put (some 24) t24).put (some 7) t7).put (some 8) t24).put (some 25) t24).put (some 26) (.func (Fn.func 48) ⟨[]⟩ ⟨[t6]⟩)).put (some 9) t9).put (some 27) t27).put (some 28) t28) #[29, 30] as20_0 bd20_0 D) (fun D20_0 => (fun e20_0 m => exE e20_0 (j20_0 R t4 [mark D20_0] m) (leaveV Try.prog [.c 25 t4, .v t16] [mark D20_0] .ret m R) (fun i20_0 => cndb (Nat.beq i20_0 0) (j20_0 R t4 [mark D20_0] m) (False)) (fun i20_0 => False) (fun ch => leaveV Try.prog [.c 25 t4, .v t16] [mark D20_0] (.pan ch) m R) (False))) (fun D20_0 => (fun ch m => leaveV Try.prog [.c 25 t4, .v t16] [mark D20_0] (.pan ch) m R))) (fun ch m => R (.pan ch) m)))))))))) (fun ch m => R (.pan ch) m))))))))) (fun ch m => R (.pan ch) m))))
def j20_1 (RY : Value → CM → Prop) (l : Nat) (m : CM) : Prop :=
  bodyE l RY .normal m
noncomputable def r20_0 (RY : Value → CM → Prop) (l : Nat) (A : CA) (x0 x1 : Value) (m : CM) : Prop :=
  asgE l m (fun m => pop (cload Try.prog 93 (A.ρ 9) m) m (fun t31 m => callv Try.prog t31 [x0] m (fun t33 m => cnd t33 (pop (cload Try.prog 25 (A.ρ 4) m) m (fun t34 m => vop (cbuildS Try.prog 25 1 [(0, x0)] m) (fun t36 m => vop (cappend Try.prog [25, 25] t34 t36 m) (fun t37 m => sop (cstore Try.prog 25 (A.ρ 4) t37 m) (fun _ m => j20_1 RY l m))))) (j20_1 RY l m)) (fun ch m => bodyE l RY (.panic ch) m)))
def ann20 : Nat → List Nat := fun i => []
theorem e20 (R : CE → CM → Prop) (a0 a1 : Value) (m : CM) : wpc Try.prog ann20 none b20 (leaveX Try.prog Try.f20.results.toList R) (enterA Try.f20 [a0, a1]) m = s20 R a0 a1 m := by kernel_rfl
theorem ok20 : codeOk ann20 Try.f20.ntmps b20 = true := by kernel_rfl
theorem c20 {a0 a1 : Value} {m : CM} {K : Value → CM → Prop} {Kp : List PanicEntry → CM → Prop} (h : s20 (RK K Kp) a0 a1 m) : callw Try.prog 20 [a0, a1] m K Kp :=
  callw_text mixed Try.func20 (show Try.f20.body = some b20 by kernel_rfl) (by kernel_rfl) (by kernel_rfl) ok20 (by rw [e20]; exact h)
theorem er20_0 (RY : Value → CM → Prop) (l D : Nat) (A : CA) (x0 x1 : Value) (m : CM) : wpc Try.prog ann20 (some l) as20_0 (assignEnd Try.prog ann20 l bd20_0 RY) (roundA (rfRec A #[29, 30] as20_0 bd20_0 D) [x0, x1]) m = r20_0 RY l A x0 x1 m := by kernel_rfl
noncomputable def b22 : Code := match Try.f22.body with | some c => c | none => .skip
def s22 (R : CE → CM → Prop) (a0 : Value) (m : CM) : Prop :=
  callw Try.prog 23 [a0] m (fun t1 m => leaveV Try.prog [] [] .ret m R) (fun ch m => R (.pan ch) m)
def ann22 : Nat → List Nat := fun i => []
theorem e22 (R : CE → CM → Prop) (a0 : Value) (m : CM) : wpc Try.prog ann22 none b22 (leaveX Try.prog Try.f22.results.toList R) (enterA Try.f22 [a0]) m = s22 R a0 m := by kernel_rfl
theorem ok22 : codeOk ann22 Try.f22.ntmps b22 = true := by kernel_rfl
theorem c22 {a0 : Value} {m : CM} {K : Value → CM → Prop} {Kp : List PanicEntry → CM → Prop} (h : s22 (RK K Kp) a0 m) : callw Try.prog 22 [a0] m K Kp :=
  callw_text mixed Try.func22 (show Try.f22.body = some b22 by kernel_rfl) (by kernel_rfl) (by kernel_rfl) ok22 (by rw [e22]; exact h)
noncomputable def b23 : Code := match Try.f23.body with | some c => c | none => .skip
def s23 (R : CE → CM → Prop) (a0 : Value) (m : CM) : Prop :=
  pop (cnilc a0) m (fun t3 m => pop (cload Try.prog 25 t3 m) m (fun t4 m => callw Try.prog 51 [t4, (.func (.func 52) ⟨[]⟩ ⟨[]⟩)] m (fun t5 m => leaveV Try.prog [] [] .ret m R) (fun ch m => R (.pan ch) m)))
def ann23 : Nat → List Nat := fun i => []
theorem e23 (R : CE → CM → Prop) (a0 : Value) (m : CM) : wpc Try.prog ann23 none b23 (leaveX Try.prog Try.f23.results.toList R) (enterA Try.f23 [a0]) m = s23 R a0 m := by kernel_rfl
theorem ok23 : codeOk ann23 Try.f23.ntmps b23 = true := by kernel_rfl
theorem c23 {a0 : Value} {m : CM} {K : Value → CM → Prop} {Kp : List PanicEntry → CM → Prop} (h : s23 (RK K Kp) a0 m) : callw Try.prog 23 [a0] m K Kp :=
  callw_text mixed Try.func23 (show Try.f23.body = some b23 by kernel_rfl) (by kernel_rfl) (by kernel_rfl) ok23 (by rw [e23]; exact h)
noncomputable def b31 : Code := match Try.f31.body with | some c => c | none => .skip
def s31 (R : CE → CM → Prop) (a0 a1 : Value) (m : CM) : Prop :=
  boxw a0 m (fun t2 m => boxw a1 m (fun t3 m => pop (cfa Try.prog 33 0 t2) m (fun t7 m => pop (cload Try.prog 25 t7 m) m (fun t8 m => pop (clen Try.prog 25 t8 m) m (fun t9 m => pop (cfa Try.prog 33 0 t3) m (fun t10 m => pop (cload Try.prog 25 t10 m) m (fun t11 m => pop (clen Try.prog 25 t11 m) m (fun t12 m => pop (cbin Try.prog BinOp.neq 3 (Operand.tmp 9) (Operand.tmp 12) t9 t12) m (fun t13 m => gop (gb t13 false) (fun K => pop (cfa Try.prog 33 1 t2) m K) (fun t15 m => gop (gb t13 false) (fun K => pop (cload Try.prog 31 t15 m) m K) (fun t16 m => gop (gb t13 false) (fun K => pop (clen Try.prog 31 t16 m) m K) (fun t17 m => gop (gb t13 false) (fun K => pop (cfa Try.prog 33 1 t3) m K) (fun t18 m => gop (gb t13 false) (fun K => pop (cload Try.prog 31 t18 m) m K) (fun t19 m => gop (gb t13 false) (fun K => pop (clen Try.prog 31 t19 m) m K) (fun t20 m => gop (gb t13 false) (fun K => pop (cbin Try.prog BinOp.neq 3 (Operand.tmp 17) (Operand.tmp 20) t17 t20) m K) (fun t21 m => pop (cpick t13 (.bool true) t21) m (fun t22 m => cnd t22 (leaveV Try.prog [.v (.bool false)] [] .ret m R) (loopA [2, 3, 5] (fun X1 ρ1 ds m => pop (cfa Try.prog 33 0 (ρ1 2)) m (fun t24 m => pop (cload Try.prog 25 t24 m) m (fun t25 m => pop (clen Try.prog 25 t25 m) m (fun t26 m => pop (cbin Try.prog BinOp.lss 3 (Operand.tmp 23) (Operand.tmp 26) (ρ1 5) t26) m (fun t27 m => cnd t27 (pop (cfa Try.prog 33 0 (ρ1 2)) m (fun t30 _ => pop (cload Try.prog 25 t30 m) m (fun t31 _ => pop (cia Try.prog 25 t31 (ρ1 5)) m (fun t33 _ => pop (cload Try.prog 3 t33 m) m (fun t34 _ => pop (cfa Try.prog 33 0 (ρ1 3)) m (fun t35 _ => pop (cload Try.prog 25 t35 m) m (fun t36 _ => pop (cia Try.prog 25 t36 (ρ1 5)) m (fun t38 _ => pop (cload Try.prog 3 t38 m) m (fun t39 _ => pop (cbin Try.prog BinOp.neq 3 (Operand.tmp 34) (Operand.tmp 39) t34 t39) m (fun t40 m => cnd t40 (leaveV Try.prog [.v (.bool false)] ds .ret m R) (pop (cbin Try.prog BinOp.add 3 (Operand.tmp 28) (Operand.const (Value.int IntKind.i64 1)) (ρ1 5) (.int .i64 1)) m (fun t29 m => X1 [(ρ1 2), (ρ1 3), t29] ds m)))))))))))) (loopA [2, 3, 6] (fun X2 ρ2 ds m => pop (cfa Try.prog 33 1 (ρ2 2)) m (fun t42 m => pop (cload Try.prog 31 t42 m) m (fun t43 m => pop (clen Try.prog 31 t43 m) m (fun t44 m => pop (cbin Try.prog BinOp.lss 3 (Operand.tmp 41) (Operand.tmp 44) (ρ2 6) t44) m (fun t45 m => cnd t45 (pop (cfa Try.prog 33 1 (ρ2 2)) m (fun t48 _ => pop (cload Try.prog 31 t48 m) m (fun t49 _ => pop (cia Try.prog 31 t49 (ρ2 6)) m (fun t51 _ => pop (cload Try.prog 9 t51 m) m (fun t52 _ => pop (cfa Try.prog 33 1 (ρ2 3)) m (fun t53 _ => pop (cload Try.prog 31 t53 m) m (fun t54 _ => pop (cia Try.prog 31 t54 (ρ2 6)) m (fun t56 _ => pop (cload Try.prog 9 t56 m) m (fun t57 _ => pop (cbin Try.prog BinOp.neq 9 (Operand.tmp 52) (Operand.tmp 57) t52 t57) m (fun t58 m => cnd t58 (leaveV Try.prog [.v (.bool false)] ds .ret m R) (pop (cbin Try.prog BinOp.add 3 (Operand.tmp 46) (Operand.const (Value.int IntKind.i64 1)) (ρ2 6) (.int .i64 1)) m (fun t47 m => X2 [(ρ2 2), (ρ2 3), t47] ds m)))))))))))) (leaveV Try.prog [.v (.bool true)] ds .ret m R)))))) [(ρ1 2), (ρ1 3), (.int .i64 0)] ds m)))))) [t2, t3, (.int .i64 0)] [] m))) m) m) m) m) m) m) m)))))))))
def ann31 : Nat → List Nat := fun i => if i = 8 then [2, 3, 5] else if i = 13 then [10] else if i = 18 then [2, 3, 6] else if i = 23 then [10] else []
theorem e31 (R : CE → CM → Prop) (a0 a1 : Value) (m : CM) : wpc Try.prog ann31 none b31 (leaveX Try.prog Try.f31.results.toList R) (enterA Try.f31 [a0, a1]) m = s31 R a0 a1 m := by kernel_rfl
theorem ok31 : codeOk ann31 Try.f31.ntmps b31 = true := by kernel_rfl
theorem c31 {a0 a1 : Value} {m : CM} {K : Value → CM → Prop} {Kp : List PanicEntry → CM → Prop} (h : s31 (RK K Kp) a0 a1 m) : callw Try.prog 31 [a0, a1] m K Kp :=
  callw_text mixed Try.func31 (show Try.f31.body = some b31 by kernel_rfl) (by kernel_rfl) (by kernel_rfl) ok31 (by rw [e31]; exact h)
noncomputable def b34 : Code := match Try.f34.body with | some c => c | none => .skip
def s34 (R : CE → CM → Prop) (a0 a1 : Value) (m : CM) : Prop :=
  boxw a1 m (fun t3 m => pop (cfa Try.prog 27 0 t3) m (fun t5 m => pop (cload Try.prog 3 t5 m) m (fun t6 m => callw Try.prog 8 [a0, t6] m (fun t7 m => pop (cfa Try.prog 27 1 t3) m (fun t9 m => pop (cload Try.prog 3 t9 m) m (fun t10 m => callw Try.prog 8 [a0, t10] m (fun t11 m => leaveV Try.prog [] [] .ret m R) (fun ch m => R (.pan ch) m)))) (fun ch m => R (.pan ch) m))))
def ann34 : Nat → List Nat := fun i => []
theorem e34 (R : CE → CM → Prop) (a0 a1 : Value) (m : CM) : wpc Try.prog ann34 none b34 (leaveX Try.prog Try.f34.results.toList R) (enterA Try.f34 [a0, a1]) m = s34 R a0 a1 m := by kernel_rfl
theorem ok34 : codeOk ann34 Try.f34.ntmps b34 = true := by kernel_rfl
theorem c34 {a0 a1 : Value} {m : CM} {K : Value → CM → Prop} {Kp : List PanicEntry → CM → Prop} (h : s34 (RK K Kp) a0 a1 m) : callw Try.prog 34 [a0, a1] m K Kp :=
  callw_text mixed Try.func34 (show Try.f34.body = some b34 by kernel_rfl) (by kernel_rfl) (by kernel_rfl) ok34 (by rw [e34]; exact h)
noncomputable def b44 : Code := match Try.f44.body with | some c => c | none => .skip
def s44 (R : CE → CM → Prop) (a0 : Value) (m : CM) : Prop :=
  boxw a0 m (fun t1 m => leaveV Try.prog [.v (.func (Fn.func 81) ⟨[]⟩ ⟨[t1]⟩)] [] .ret m R)
def ann44 : Nat → List Nat := fun i => []
theorem e44 (R : CE → CM → Prop) (a0 : Value) (m : CM) : wpc Try.prog ann44 none b44 (leaveX Try.prog Try.f44.results.toList R) (enterA Try.f44 [a0]) m = s44 R a0 m := by kernel_rfl
theorem ok44 : codeOk ann44 Try.f44.ntmps b44 = true := by kernel_rfl
theorem c44 {a0 : Value} {m : CM} {K : Value → CM → Prop} {Kp : List PanicEntry → CM → Prop} (h : s44 (RK K Kp) a0 m) : callw Try.prog 44 [a0] m K Kp :=
  callw_text mixed Try.func44 (show Try.f44.body = some b44 by kernel_rfl) (by kernel_rfl) (by kernel_rfl) ok44 (by rw [e44]; exact h)
noncomputable def b49 : Code := match Try.f49.body with | some c => c | none => .skip
def s49 (R : CE → CM → Prop) (a0 a1 : Value) (m : CM) : Prop :=
  boxw a0 m (fun t2 m => alw Try.prog 78 m (fun t4 m => pop (cfa Try.prog 78 1 t2) m (fun t6 m => pop (cload Try.prog 25 t6 m) m (fun t7 m => pop (clen Try.prog 25 t7 m) m (fun t8 m => vop (cmakeS Try.prog 25 t8 t8 m) (fun t9 m => pop (cfa Try.prog 78 1 t2) m (fun t11 m => pop (cload Try.prog 25 t11 m) m (fun t12 m => vop (ccopy Try.prog [25, 25] t9 t12 m) (fun t13 m => pop (cia Try.prog 25 t9 a1) m (fun t16 m => sop (cstore Try.prog 3 t16 (.int .i64 (-1)) m) (fun _ m => pop (cfa Try.prog 78 1 t2) m (fun t18 m => sop (cstore Try.prog 25 t18 t9 m) (fun _ m => pop (cload Try.prog 78 t2 m) m (fun t19 m => sop (cstore Try.prog 78 t4 t19 m) (fun _ m => leaveV Try.prog [.c 78 t4] [] .ret m R)))))))))))))))
def ann49 : Nat → List Nat := fun i => []
theorem e49 (R : CE → CM → Prop) (a0 a1 : Value) (m : CM) : wpc Try.prog ann49 none b49 (leaveX Try.prog Try.f49.results.toList R) (enterA Try.f49 [a0, a1]) m = s49 R a0 a1 m := by kernel_rfl
theorem ok49 : codeOk ann49 Try.f49.ntmps b49 = true := by kernel_rfl
theorem c49 {a0 a1 : Value} {m : CM} {K : Value → CM → Prop} {Kp : List PanicEntry → CM → Prop} (h : s49 (RK K Kp) a0 a1 m) : callw Try.prog 49 [a0, a1] m K Kp :=
  callw_text mixed Try.func49 (show Try.f49.body = some b49 by kernel_rfl) (by kernel_rfl) (by kernel_rfl) ok49 (by rw [e49]; exact h)
noncomputable def b53 : Code := match Try.f53.body with | some c => c | none => .skip
def s53 (R : CE → CM → Prop) (a0 a1 : Value) (m : CM) : Prop :=
  boxw a0 m (fun t2 m => alw Try.prog 98 m (fun t4 m => pop (cfa Try.prog 27 0 t2) m (fun t7 m => pop (cload Try.prog 3 t7 m) m (fun t8 m => vop (cbuildS Try.prog 25 1 [(0, t8)] m) (fun t9 m => callw Try.prog 36 [(.int .i64 1), (.int .i64 255), t9] m (fun t10 m => gop (gb t10 false) (fun K => pop (cfa Try.prog 27 1 t2) m K) (fun t12 m => gop (gb t10 false) (fun K => pop (cload Try.prog 3 t12 m) m K) (fun t13 m => gop (gb t10 false) (fun K => vop (cbuildS Try.prog 25 1 [(0, t13)] m) K) (fun t14 m => gop (gb t10 false) (fun K => callw Try.prog 36 [(.int .i64 0), (.int .i64 1000), t14] m K (fun ch m => R (.pan ch) m)) (fun t15 m => pop (cpick t10 (.bool true) t15) m (fun t16 m => cnd t16 (pop (cload Try.prog 98 t4 m) m (fun t17 m => sop (cstore Try.prog 98 t4 t17 m) (fun _ m => leaveV Try.prog [.c 98 t4, .v (.int .i64 7)] [] .ret m R))) (pop (clen Try.prog 28 a1 m) m (fun t20 m => pop (cbin Try.prog BinOp.gtr 3 (Operand.tmp 20) (Operand.const (Value.int IntKind.i64 10)) t20 (.int .i64 10)) m (fun t21 m => cnd t21 (pop (cload Try.prog 98 t4 m) m (fun t22 m => sop (cstore Try.prog 98 t4 t22 m) (fun _ m => leaveV Try.prog [.c 98 t4, .v (.int .i64 3)] [] .ret m R))) (callw Try.prog 82 [a1, (.func (.func 83) ⟨[]⟩ ⟨[]⟩)] m (fun t25 m => pop (cext t25 0) m (fun t26 m => pop (cext t25 1) m (fun t27 m => pop (cload Try.prog 27 t2 m) m (fun t28 m => pop (cbuild Try.prog 98 [(0, t28)]) m (fun t29 m => sop (cstore Try.prog 98 t4 t29 m) (fun _ m => leaveV Try.prog [.c 98 t4, .v t27] [] .ret m R)))))) (fun ch m => R (.pan ch) m))))))) m) m) m) m) (fun ch m => R (.pan ch) m))))))
def ann53 : Nat → List Nat := fun i => []
theorem e53 (R : CE → CM → Prop) (a0 a1 : Value) (m : CM) : wpc Try.prog ann53 none b53 (leaveX Try.prog Try.f53.results.toList R) (enterA Try.f53 [a0, a1]) m = s53 R a0 a1 m := by kernel_rfl
theorem ok53 : codeOk ann53 Try.f53.ntmps b53 = true := by kernel_rfl
theorem c53 {a0 a1 : Value} {m : CM} {K : Value → CM → Prop} {Kp : List PanicEntry → CM → Prop} (h : s53 (RK K Kp) a0 a1 m) : callw Try.prog 53 [a0, a1] m K Kp :=
  callw_text mixed Try.func53 (show Try.f53.body = some b53 by kernel_rfl) (by kernel_rfl) (by kernel_rfl) ok53 (by rw [e53]; exact h)
noncomputable def b54 : Code := match Try.f54.body with | some c => c | none => .skip
def s54 (R : CE → CM → Prop) (a0 a1 : Value) (m : CM) : Prop :=
  boxw a0 m (fun t2 m => pop (cload Try.prog 98 t2 m) m (fun t5 m => pop (cload Try.prog 98 t2 m) m (fun t7 m => callw Try.prog 55 [t5, a1, (.func (Fn.func 84) ⟨[t7]⟩ ⟨[]⟩), (.func (.func 59) ⟨[]⟩ ⟨[]⟩), (.func (.func 58) ⟨[]⟩ ⟨[]⟩)] m (fun t9 m => leaveV Try.prog [.v t9] [] .ret m R) (fun ch m => R (.pan ch) m))))
def ann54 : Nat → List Nat := fun i => []
theorem e54 (R : CE → CM → Prop) (a0 a1 : Value) (m : CM) : wpc Try.prog ann54 none b54 (leaveX Try.prog Try.f54.results.toList R) (enterA Try.f54 [a0, a1]) m = s54 R a0 a1 m := by kernel_rfl
theorem ok54 : codeOk ann54 Try.f54.ntmps b54 = true := by kernel_rfl
theorem c54 {a0 a1 : Value} {m : CM} {K : Value → CM → Prop} {Kp : List PanicEntry → CM → Prop} (h : s54 (RK K Kp) a0 a1 m) : callw Try.prog 54 [a0, a1] m K Kp :=
  callw_text mixed Try.func54 (show Try.f54.body = some b54 by kernel_rfl) (by kernel_rfl) (by kernel_rfl) ok54 (by rw [e54]; exact h)
noncomputable def b55 : Code := match Try.f55.body with | some c => c | none => .skip
def j55_0 (R : CE → CM → Prop) (X1 : List Value → List Deferred → CM → Prop) (q0_12 q0_15 q0_18 q0_2 q0_3 q0_4 q0_5 q0_10 q0_11 q0_16 q0_17 : Value) (ds : List Deferred) (m : CM) : Prop :=
  pop (cbin Try.prog BinOp.add 3 (Operand.tmp 36) (Operand.tmp 37) q0_12 q0_15) m (fun t38 m => pop (cbin Try.prog BinOp.add 3 (Operand.tmp 18) (Operand.const (Value.int IntKind.i64 1)) q0_18 (.int .i64 1)) m (fun t39 m => X1 [q0_2, q0_3, q0_4, q0_5, q0_10, q0_11, t38, q0_16, q0_17, t39] ds m))
def s55 (R : CE → CM → Prop) (a0 a1 a2 a3 a4 : Value) (m : CM) : Prop :=
  boxw a0 m (fun t5 m => pop (clen Try.prog 28 a1 m) m (fun t17 m => loopA [2, 3, 4, 5, 10, 11, 12, 16, 17, 18] (fun X1 ρ1 ds m => pop (cbin Try.prog BinOp.lss 3 (Operand.tmp 18) (Operand.tmp 17) (ρ1 18) (ρ1 17)) m (fun t19 m => cnd t19 (pop (cia Try.prog 28 (ρ1 16) (ρ1 18)) m (fun t20 m => pop (cload Try.prog 104 t20 m) m (fun t21 m => alw Try.prog 104 m (fun t14 m => sop (cstore Try.prog 104 t14 t21 m) (fun _ m => pop (cfa Try.prog 104 0 t14) m (fun t23 m => pop (cload Try.prog 50 t23 m) m (fun t24 m => callv Try.prog (ρ1 4) [t24] m (fun t25 m => pop (cload Try.prog 104 t14 m) m (fun t27 m => callv Try.prog (ρ1 2) [t27] m (fun t28 m => cnd t28 (pop (cfa Try.prog 104 0 t14) m (fun t30 m => pop (cload Try.prog 50 t30 m) m (fun t31 m => callv Try.prog (ρ1 3) [t31] m (fun t32 m => pop (cbin Try.prog BinOp.add 3 (Operand.tmp 33) (Operand.tmp 34) (ρ1 11) t32) m (fun t35 m => j55_0 R X1 (ρ1 12) t32 (ρ1 18) (ρ1 2) (ρ1 3) (ρ1 4) (ρ1 5) (ρ1 10) t35 (ρ1 16) (ρ1 17) ds m)) (fun ch m => leaveV Try.prog [.v (ρ1 10)] ds (.pan ch) m R)))) (j55_0 R X1 (ρ1 12) t25 (ρ1 18) (ρ1 2) (ρ1 3) (ρ1 4) (ρ1 5) (ρ1 10) (ρ1 11) (ρ1 16) (ρ1 17) ds m)) (fun ch m => leaveV Try.prog [.v (ρ1 10)] ds (.pan ch) m R))) (fun ch m => leaveV Try.prog [.v (ρ1 10)] ds (.pan ch) m R)))))))) (pop (cbin Try.prog BinOp.mul 3 (Operand.tmp 40) (Operand.const (Value.int IntKind.i64 1000)) (ρ1 11) (.int .i64 1000)) m (fun t41 m => pop (cfa Try.prog 98 0 (ρ1 5)) m (fun t42 m => pop (cfa Try.prog 27 1 t42) m (fun t43 m => pop (cload Try.prog 3 t43 m) m (fun t44 m => pop (cbin Try.prog BinOp.mul 3 (Operand.tmp 44) (Operand.tmp 45) t44 (ρ1 12)) m (fun t46 m => pop (cbin Try.prog BinOp.leq 3 (Operand.tmp 41) (Operand.tmp 46) t41 t46) m (fun t47 m => leaveV Try.prog [.v t47] ds .ret m R))))))))) [a2, a3, a4, t5, (.bool false), (.int .i64 0), (.int .i64 0), a1, t17, (.int .i64 0)] [] m))
def ann55 : Nat → List Nat := fun i => if i = 6 then [2, 3, 4, 5, 10, 11, 12, 16, 17, 18] else []
theorem e55 (R : CE → CM → Prop) (a0 a1 a2 a3 a4 : Value) (m : CM) : wpc Try.prog ann55 none b55 (leaveX Try.prog Try.f55.results.toList R) (enterA Try.f55 [a0, a1, a2, a3, a4]) m = s55 R a0 a1 a2 a3 a4 m := by kernel_rfl
theorem ok55 : codeOk ann55 Try.f55.ntmps b55 = true := by kernel_rfl
theorem c55 {a0 a1 a2 a3 a4 : Value} {m : CM} {K : Value → CM → Prop} {Kp : List PanicEntry → CM → Prop} (h : s55 (RK K Kp) a0 a1 a2 a3 a4 m) : callw Try.prog 55 [a0, a1, a2, a3, a4] m K Kp :=
  callw_text mixed Try.func55 (show Try.f55.body = some b55 by kernel_rfl) (by kernel_rfl) (by kernel_rfl) ok55 (by rw [e55]; exact h)
noncomputable def b56 : Code := match Try.f56.body with | some c => c | none => .skip
def s56 (R : CE → CM → Prop) (a0 a1 : Value) (m : CM) : Prop :=
  boxw a0 m (fun t2 m => pop (cload Try.prog 98 a1 m) m (fun t4 m => pop (cload Try.prog 104 t2 m) m (fun t5 m => callw Try.prog 57 [t4, t5] m (fun t6 m => pop (cun Try.prog UnOp.not t6) m (fun t7 m => leaveV Try.prog [.v t7] [] .ret m R)) (fun ch m => R (.pan ch) m))))
def ann56 : Nat → List Nat := fun i => []
theorem e56 (R : CE → CM → Prop) (a0 a1 : Value) (m : CM) : wpc Try.prog ann56 none b56 (leaveX Try.prog Try.f56.results.toList R) (enterA Try.f56 [a0, a1]) m = s56 R a0 a1 m := by kernel_rfl
theorem ok56 : codeOk ann56 Try.f56.ntmps b56 = true := by kernel_rfl
theorem c56 {a0 a1 : Value} {m : CM} {K : Value → CM → Prop} {Kp : List PanicEntry → CM → Prop} (h : s56 (RK K Kp) a0 a1 m) : callw Try.prog 56 [a0, a1] m K Kp :=
  callw_text mixed Try.func56 (show Try.f56.body = some b56 by kernel_rfl) (by kernel_rfl) (by kernel_rfl) ok56 (by rw [e56]; exact h)
noncomputable def b57 : Code := match Try.f57.body with | some c => c | none => .skip
def s57 (R : CE → CM → Prop) (a0 a1 : Value) (m : CM) : Prop :=
  boxw a0 m (fun t2 m => boxw a1 m (fun t3 m => pop (cfa Try.prog 104 1 t3) m (fun t5 m => pop (cload Try.prog 3 t5 m) m (fun t6 m => pop (cfa Try.prog 98 0 t2) m (fun t7 m => pop (cfa Try.prog 27 0 t7) m (fun t8 m => pop (cload Try.prog 3 t8 m) m (fun t9 m => pop (cbin Try.prog BinOp.and 3 (Operand.tmp 6) (Operand.tmp 9) t6 t9) m (fun t10 m => pop (cbin Try.prog BinOp.neq 3 (Operand.tmp 10) (Operand.const (Value.int IntKind.i64 0)) t10 (.int .i64 0)) m (fun t11 m => leaveV Try.prog [.v t11] [] .ret m R)))))))))
def ann57 : Nat → List Nat := fun i => []
theorem e57 (R : CE → CM → Prop) (a0 a1 : Value) (m : CM) : wpc Try.prog ann57 none b57 (leaveX Try.prog Try.f57.results.toList R) (enterA Try.f57 [a0, a1]) m = s57 R a0 a1 m := by kernel_rfl
theorem ok57 : codeOk ann57 Try.f57.ntmps b57 = true := by kernel_rfl
theorem c57 {a0 a1 : Value} {m : CM} {K : Value → CM → Prop} {Kp : List PanicEntry → CM → Prop} (h : s57 (RK K Kp) a0 a1 m) : callw Try.prog 57 [a0, a1] m K Kp :=
  callw_text mixed Try.func57 (show Try.f57.body = some b57 by kernel_rfl) (by kernel_rfl) (by kernel_rfl) ok57 (by rw [e57]; exact h)
noncomputable def b59 : Code := match Try.f59.body with | some c => c | none => .skip
def s59 (R : CE → CM → Prop) (a0 : Value) (m : CM) : Prop :=
  boxw a0 m (fun t1 m => pop (cfa Try.prog 50 1 t1) m (fun t3 m => pop (cload Try.prog 3 t3 m) m (fun t4 m => leaveV Try.prog [.v t4] [] .ret m R)))
def ann59 : Nat → List Nat := fun i => []
theorem e59 (R : CE → CM → Prop) (a0 : Value) (m : CM) : wpc Try.prog ann59 none b59 (leaveX Try.prog Try.f59.results.toList R) (enterA Try.f59 [a0]) m = s59 R a0 m := by kernel_rfl
theorem ok59 : codeOk ann59 Try.f59.ntmps b59 = true := by kernel_rfl
theorem c59 {a0 : Value} {m : CM} {K : Value → CM → Prop} {Kp : List PanicEntry → CM → Prop} (h : s59 (RK K Kp) a0 m) : callw Try.prog 59 [a0] m K Kp :=
  callw_text mixed Try.func59 (show Try.f59.body = some b59 by kernel_rfl) (by kernel_rfl) (by kernel_rfl) ok59 (by rw [e59]; exact h)
noncomputable def b62 : Code := match Try.f62.body with | some c => c | none => .skip
def s62 (R : CE → CM → Prop) (a0 : Value) (m : CM) : Prop :=
  boxw a0 m (fun t1 m => pop (cfa Try.prog 108 2 t1) m (fun t3 m => pop (cload Try.prog 3 t3 m) m (fun t4 m => pop (cun Try.prog UnOp.neg t4) m (fun t5 m => leaveV Try.prog [.v t5] [] .ret m R))))
def ann62 : Nat → List Nat := fun i => []
theorem e62 (R : CE → CM → Prop) (a0 : Value) (m : CM) : wpc Try.prog ann62 none b62 (leaveX Try.prog Try.f62.results.toList R) (enterA Try.f62 [a0]) m = s62 R a0 m := by kernel_rfl
theorem ok62 : codeOk ann62 Try.f62.ntmps b62 = true := by kernel_rfl
theorem c62 {a0 : Value} {m : CM} {K : Value → CM → Prop} {Kp : List PanicEntry → CM → Prop} (h : s62 (RK K Kp) a0 m) : callw Try.prog 62 [a0] m K Kp :=
  callw_text mixed Try.func62 (show Try.f62.body = some b62 by kernel_rfl) (by kernel_rfl) (by kernel_rfl) ok62 (by rw [e62]; exact h)
noncomputable def b64 : Code := match Try.f64.body with | some c => c | none => .skip
def s64 (R : CE → CM → Prop) (a0 a1 : Value) (m : CM) : Prop :=
  callw Try.prog 85 [a0] m (fun t8 m => callw Try.prog 85 [a1] m (fun t10 m => cnd t8 (cnd t10 (leaveV Try.prog [.v (.int .i64 0)] [] .ret m R) (leaveV Try.prog [.v (.int .i64 (-1))] [] .ret m R)) (cnd t10 (leaveV Try.prog [.v (.int .i64 1)] [] .ret m R) (pop (cbin Try.prog BinOp.lss 3 (Operand.tmp 14) (Operand.tmp 15) a0 a1) m (fun t16 m => cnd t16 (leaveV Try.prog [.v (.int .i64 (-1))] [] .ret m R) (pop (cbin Try.prog BinOp.gtr 3 (Operand.tmp 17) (Operand.tmp 18) a0 a1) m (fun t19 m => cnd t19 (leaveV Try.prog [.v (.int .i64 1)] [] .ret m R) (leaveV Try.prog [.v (.int .i64 0)] [] .ret m R))))))) (fun ch m => R (.pan ch) m)) (fun ch m => R (.pan ch) m)
def ann64 : Nat → List Nat := fun i => []
theorem e64 (R : CE → CM → Prop) (a0 a1 : Value) (m : CM) : wpc Try.prog ann64 none b64 (leaveX Try.prog Try.f64.results.toList R) (enterA Try.f64 [a0, a1]) m = s64 R a0 a1 m := by kernel_rfl
theorem ok64 : codeOk ann64 Try.f64.ntmps b64 = true := by kernel_rfl
theorem c64 {a0 a1 : Value} {m : CM} {K : Value → CM → Prop} {Kp : List PanicEntry → CM → Prop} (h : s64 (RK K Kp) a0 a1 m) : callw Try.prog 64 [a0, a1] m K Kp :=
  callw_text mixed Try.func64 (show Try.f64.body = some b64 by kernel_rfl) (by kernel_rfl) (by kernel_rfl) ok64 (by rw [e64]; exact h)
noncomputable def b65 : Code := match Try.f65.body with | some c => c | none => .skip
def s65 (R : CE → CM → Prop) (m : CM) : Prop :=
  alw Try.prog 24 m (fun t0 m => callw Try.prog 70 [(.int .i64 0), (.int .i64 100)] m (fun t1 m => pop (cbuild Try.prog 72 [(0, (Value.string { data := #[109, 101, 108, 116] })), (1, t1), (2, (.int .i64 20))]) m (fun t2 m => callw Try.prog 70 [(.int .i64 50), (.int .i64 150)] m (fun t3 m => pop (cbuild Try.prog 72 [(0, (Value.string { data := #[115, 116, 114, 97, 105, 110] })), (1, t3), (2, (.int .i64 20))]) m (fun t4 m => callw Try.prog 70 [(.int .i64 0), (.int .i64 30)] m (fun t5 m => pop (cbuild Try.prog 72 [(0, (Value.string { data := #[112, 111, 117, 114] })), (1, t5), (2, (.int .i64 10))]) m (fun t6 m => vop (cbuildS Try.prog 22 3 [(0, t2), (1, t4), (2, t6)] m) (fun t7 m => pop (cbuild Try.prog 24 [(0, (.int .i64 50)), (1, t7)]) m (fun t8 m => sop (cstore Try.prog 24 t0 t8 m) (fun _ m => leaveV Try.prog [.c 24 t0] [] .ret m R))))) (fun ch m => R (.pan ch) m))) (fun ch m => R (.pan ch) m))) (fun ch m => R (.pan ch) m))
def ann65 : Nat → List Nat := fun i => []
theorem e65 (R : CE → CM → Prop) (m : CM) : wpc Try.prog ann65 none b65 (leaveX Try.prog Try.f65.results.toList R) (enterA Try.f65 []) m = s65 R m := by kernel_rfl
theorem ok65 : codeOk ann65 Try.f65.ntmps b65 = true := by kernel_rfl
theorem c65 {m : CM} {K : Value → CM → Prop} {Kp : List PanicEntry → CM → Prop} (h : s65 (RK K Kp) m) : callw Try.prog 65 [] m K Kp :=
  callw_text mixed Try.func65 (show Try.f65.body = some b65 by kernel_rfl) (by kernel_rfl) (by kernel_rfl) ok65 (by rw [e65]; exact h)
noncomputable def b68 : Code := match Try.f68.body with | some c => c | none => .skip
def s68 (R : CE → CM → Prop) (m : CM) : Prop :=
  callw Try.prog 70 [(.int .i64 500), (.int .i64 520)] m (fun t1 m => pop (cbuild Try.prog 104 [(0, t1), (1, (.int .i64 1))]) m (fun t2 m => callw Try.prog 70 [(.int .i64 40), (.int .i64 60)] m (fun t3 m => pop (cbuild Try.prog 104 [(0, t3), (1, (.int .i64 3))]) m (fun t4 m => callw Try.prog 70 [(.int .i64 100), (.int .i64 110)] m (fun t5 m => pop (cbuild Try.prog 104 [(0, t5), (1, (.int .i64 2))]) m (fun t6 m => vop (cbuildS Try.prog 28 3 [(0, t2), (1, t4), (2, t6)] m) (fun t7 m => leaveV Try.prog [.v t7] [] .ret m R))) (fun ch m => R (.pan ch) m))) (fun ch m => R (.pan ch) m))) (fun ch m => R (.pan ch) m)
def ann68 : Nat → List Nat := fun i => []
theorem e68 (R : CE → CM → Prop) (m : CM) : wpc Try.prog ann68 none b68 (leaveX Try.prog Try.f68.results.toList R) (enterA Try.f68 []) m = s68 R m := by kernel_rfl
theorem ok68 : codeOk ann68 Try.f68.ntmps b68 = true := by kernel_rfl
theorem c68 {m : CM} {K : Value → CM → Prop} {Kp : List PanicEntry → CM → Prop} (h : s68 (RK K Kp) m) : callw Try.prog 68 [] m K Kp :=
  callw_text mixed Try.func68 (show Try.f68.body = some b68 by kernel_rfl) (by kernel_rfl) (by kernel_rfl) ok68 (by rw [e68]; exact h)
noncomputable def b69 : Code := match Try.f69.body with | some c => c | none => .skip
def s69 (R : CE → CM → Prop) (a0 a1 : Value) (m : CM) : Prop :=
  pop (clen Try.prog 43 a0 m) m (fun t7 m => pop (clen Try.prog 43 a1 m) m (fun t9 m => pop (cbin Try.prog BinOp.neq 3 (Operand.tmp 7) (Operand.tmp 9) t7 t9) m (fun t10 m => cnd t10 (leaveV Try.prog [.v (.bool false)] [] .ret m R) (loopA [0, 1, 5] (fun X1 ρ1 ds m => pop (clen Try.prog 43 (ρ1 0) m) m (fun t13 m => pop (cbin Try.prog BinOp.lss 3 (Operand.tmp 11) (Operand.tmp 13) (ρ1 5) t13) m (fun t14 m => cnd t14 (pop (cia Try.prog 43 (ρ1 0) (ρ1 5)) m (fun t19 _ => pop (cload Try.prog 50 t19 m) m (fun t20 _ => pop (cia Try.prog 43 (ρ1 1) (ρ1 5)) m (fun t23 _ => pop (cload Try.prog 50 t23 m) m (fun t24 _ => pop (cbin Try.prog BinOp.neq 50 (Operand.tmp 20) (Operand.tmp 24) t20 t24) m (fun t25 m => cnd t25 (leaveV Try.prog [.v (.bool false)] ds .ret m R) (pop (cbin Try.prog BinOp.add 3 (Operand.tmp 15) (Operand.const (Value.int IntKind.i64 1)) (ρ1 5) (.int .i64 1)) m (fun t16 m => X1 [(ρ1 0), (ρ1 1), t16] ds m)))))))) (leaveV Try.prog [.v (.bool true)] ds .ret m R)))) [a0, a1, (.int .i64 0)] [] m))))
def ann69 : Nat → List Nat := fun i => if i = 8 then [0, 1, 5] else if i = 13 then [8] else []
theorem e69 (R : CE → CM → Prop) (a0 a1 : Value) (m : CM) : wpc Try.prog ann69 none b69 (leaveX Try.prog Try.f69.results.toList R) (enterA Try.f69 [a0, a1]) m = s69 R a0 a1 m := by kernel_rfl
theorem ok69 : codeOk ann69 Try.f69.ntmps b69 = true := by kernel_rfl
theorem c69 {a0 a1 : Value} {m : CM} {K : Value → CM → Prop} {Kp : List PanicEntry → CM → Prop} (h : s69 (RK K Kp) a0 a1 m) : callw Try.prog 69 [a0, a1] m K Kp :=
  callw_text mixed Try.func69 (show Try.f69.body = some b69 by kernel_rfl) (by kernel_rfl) (by kernel_rfl) ok69 (by rw [e69]; exact h)
noncomputable def b72 : Code := match Try.f72.body with | some c => c | none => .skip
def s72 (R : CE → CM → Prop) (a0 a1 : Value) (m : CM) : Prop :=
  callw Try.prog 86 [a0, a1, (.func (.func 87) ⟨[]⟩ ⟨[]⟩)] m (fun t6 m => leaveV Try.prog [] [] .ret m R) (fun ch m => R (.pan ch) m)
def ann72 : Nat → List Nat := fun i => []
theorem e72 (R : CE → CM → Prop) (a0 a1 : Value) (m : CM) : wpc Try.prog ann72 none b72 (leaveX Try.prog Try.f72.results.toList R) (enterA Try.f72 [a0, a1]) m = s72 R a0 a1 m := by kernel_rfl
theorem ok72 : codeOk ann72 Try.f72.ntmps b72 = true := by kernel_rfl
theorem c72 {a0 a1 : Value} {m : CM} {K : Value → CM → Prop} {Kp : List PanicEntry → CM → Prop} (h : s72 (RK K Kp) a0 a1 m) : callw Try.prog 72 [a0, a1] m K Kp :=
  callw_text mixed Try.func72 (show Try.f72.body = some b72 by kernel_rfl) (by kernel_rfl) (by kernel_rfl) ok72 (by rw [e72]; exact h)
noncomputable def b73 : Code := match Try.f73.body with | some c => c | none => .skip
def s73 (R : CE → CM → Prop) (a0 a1 a2 : Value) (m : CM) : Prop :=
  pop (cnilc a0) m (fun t9 m => pop (cfa Try.prog 33 0 t9) m (fun t10 m => pop (cload Try.prog 25 t10 m) m (fun t11 m => pop (clen Try.prog 28 a1 m) m (fun t13 m => vop (cbuildS Try.prog 25 1 [(0, t13)] m) (fun t14 m => vop (cappend Try.prog [25, 25] t11 t14 m) (fun t15 m => pop (cnilc a0) m (fun t16 m => pop (cfa Try.prog 33 0 t16) m (fun t17 m => sop (cstore Try.prog 25 t17 t15 m) (fun _ m => loopA [0, 1, 2, 6] (fun X1 ρ1 ds m => pop (clen Try.prog 28 (ρ1 1) m) m (fun t20 m => pop (cbin Try.prog BinOp.lss 3 (Operand.tmp 18) (Operand.tmp 20) (ρ1 6) t20) m (fun t21 m => cnd t21 (pop (cia Try.prog 28 (ρ1 1) (ρ1 6)) m (fun t28 m => pop (cload Try.prog 104 t28 m) m (fun t29 m => callv Try.prog (ρ1 2) [(ρ1 0), t29] m (fun t30 m => pop (cbin Try.prog BinOp.add 3 (Operand.tmp 22) (Operand.const (Value.int IntKind.i64 1)) (ρ1 6) (.int .i64 1)) m (fun t23 m => X1 [(ρ1 0), (ρ1 1), (ρ1 2), t23] ds m)) (fun ch m => leaveV Try.prog [] ds (.pan ch) m R)))) (leaveV Try.prog [] ds .ret m R)))) [a0, a1, a2, (.int .i64 0)] [] m)))))))))
def ann73 : Nat → List Nat := fun i => if i = 4 then [0, 1, 2, 6] else []
theorem e73 (R : CE → CM → Prop) (a0 a1 a2 : Value) (m : CM) : wpc Try.prog ann73 none b73 (leaveX Try.prog Try.f73.results.toList R) (enterA Try.f73 [a0, a1, a2]) m = s73 R a0 a1 a2 m := by kernel_rfl
theorem ok73 : codeOk ann73 Try.f73.ntmps b73 = true := by kernel_rfl
theorem c73 {a0 a1 a2 : Value} {m : CM} {K : Value → CM → Prop} {Kp : List PanicEntry → CM → Prop} (h : s73 (RK K Kp) a0 a1 a2 m) : callw Try.prog 73 [a0, a1, a2] m K Kp :=
  callw_text mixed Try.func73 (show Try.f73.body = some b73 by kernel_rfl) (by kernel_rfl) (by kernel_rfl) ok73 (by rw [e73]; exact h)
noncomputable def b82 : Code := match Try.f82.body with | some c => c | none => .skip
def s82 (R : CE → CM → Prop) (a0 a1 : Value) (m : CM) : Prop :=
  pop (clen Try.prog 28 a0 m) m (fun t9 m => loopA [1, 4, 5, 8, 9, 10] (fun X1 ρ1 ds m => pop (cbin Try.prog BinOp.lss 3 (Operand.tmp 10) (Operand.tmp 9) (ρ1 10) (ρ1 9)) m (fun t11 m => cnd t11 (pop (cia Try.prog 28 (ρ1 8) (ρ1 10)) m (fun t13 m => pop (cload Try.prog 104 t13 m) m (fun t14 m => alw Try.prog 104 m (fun t7 m => sop (cstore Try.prog 104 t7 t14 m) (fun _ m => pop (cload Try.prog 104 t7 m) m (fun t17 m => callv Try.prog (ρ1 1) [(ρ1 10), t17] m (fun t18 m => pop (cbin Try.prog BinOp.neq 37 (Operand.tmp 19) (Operand.const (Value.int IntKind.i64 0)) t18 (.int .i64 0)) m (fun t20 m => cnd t20 (leaveV Try.prog [.v (ρ1 10), .v t18] ds .ret m R) (pop (cbin Try.prog BinOp.add 3 (Operand.tmp 10) (Operand.const (Value.int IntKind.i64 1)) (ρ1 10) (.int .i64 1)) m (fun t23 m => X1 [(ρ1 1), (ρ1 4), t18, (ρ1 8), (ρ1 9), t23] ds m)))) (fun ch m => leaveV Try.prog [.v (ρ1 4), .v (ρ1 5)] ds (.pan ch) m R))))))) (leaveV Try.prog [.v (.int .i64 0), .v (.int .i64 0)] ds .ret m R))) [a1, (.int .i64 0), (.int .i64 0), a0, t9, (.int .i64 0)] [] m)
def ann82 : Nat → List Nat := fun i => if i = 4 then [1, 4, 5, 8, 9, 10] else []
theorem e82 (R : CE → CM → Prop) (a0 a1 : Value) (m : CM) : wpc Try.prog ann82 none b82 (leaveX Try.prog Try.f82.results.toList R) (enterA Try.f82 [a0, a1]) m = s82 R a0 a1 m := by kernel_rfl
theorem ok82 : codeOk ann82 Try.f82.ntmps b82 = true := by kernel_rfl
theorem c82 {a0 a1 : Value} {m : CM} {K : Value → CM → Prop} {Kp : List PanicEntry → CM → Prop} (h : s82 (RK K Kp) a0 a1 m) : callw Try.prog 82 [a0, a1] m K Kp :=
  callw_text mixed Try.func82 (show Try.f82.body = some b82 by kernel_rfl) (by kernel_rfl) (by kernel_rfl) ok82 (by rw [e82]; exact h)
noncomputable def b87 : Code := match Try.f87.body with | some c => c | none => .skip
def s87 (R : CE → CM → Prop) (a0 a1 : Value) (m : CM) : Prop :=
  boxw a1 m (fun t3 m => pop (cfa Try.prog 72 0 t3) m (fun t5 m => pop (cload Try.prog 9 t5 m) m (fun t6 m => callw Try.prog 90 [a0, t6] m (fun t7 m => pop (cfa Try.prog 72 1 t3) m (fun t9 m => pop (cload Try.prog 50 t9 m) m (fun t10 m => callw Try.prog 18 [a0, t10] m (fun t11 m => pop (cfa Try.prog 72 2 t3) m (fun t13 m => pop (cload Try.prog 3 t13 m) m (fun t14 m => callw Try.prog 8 [a0, t14] m (fun t15 m => leaveV Try.prog [] [] .ret m R) (fun ch m => R (.pan ch) m)))) (fun ch m => R (.pan ch) m)))) (fun ch m => R (.pan ch) m))))
def ann87 : Nat → List Nat := fun i => []
theorem e87 (R : CE → CM → Prop) (a0 a1 : Value) (m : CM) : wpc Try.prog ann87 none b87 (leaveX Try.prog Try.f87.results.toList R) (enterA Try.f87 [a0, a1]) m = s87 R a0 a1 m := by kernel_rfl
theorem ok87 : codeOk ann87 Try.f87.ntmps b87 = true := by kernel_rfl
theorem c87 {a0 a1 : Value} {m : CM} {K : Value → CM → Prop} {Kp : List PanicEntry → CM → Prop} (h : s87 (RK K Kp) a0 a1 m) : callw Try.prog 87 [a0, a1] m K Kp :=
  callw_text mixed Try.func87 (show Try.f87.body = some b87 by kernel_rfl) (by kernel_rfl) (by kernel_rfl) ok87 (by rw [e87]; exact h)end Go.Proofs.Ytbjkpdaigckiiaa.S
