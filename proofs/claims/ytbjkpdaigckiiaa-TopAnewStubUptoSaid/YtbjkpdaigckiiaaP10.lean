/- Part 10 of 23 of the proof that the law TopAnewStub returns true and leaves its argument as it read before, for every input that the bounded statement admits (what it reads is of bulk at most 1048576). -/
import Derived.Test.YtbjkpdaigckiiaaP07
open Go Go.Proofs Go.Proofs.Ytbjkpdaigckiiaa
set_option maxRecDepth 100000
set_option linter.unusedVariables false
namespace Go.Proofs.Ytbjkpdaigckiiaa.S
noncomputable def b3 : Code := match Try.f3.body with | some c => c | none => .skip
def s3 (R : CE → CM → Prop) (a0 : Value) (m : CM) : Prop :=
  boxw a0 m (fun t1 m => alw Try.prog 33 m (fun t3 m => alw Try.prog 33 m (fun t4 m => pop (cload Try.prog 30 t1 m) m (fun t6 m => callw Try.prog 4 [t6, t3] m (fun t7 m => callw Try.prog 5 [(.func (Fn.func 6) ⟨[]⟩ ⟨[t1]⟩)] m (fun t9 m => gop (gb t9 true) (fun K => K (.func (Fn.func 11) ⟨[]⟩ ⟨[t1]⟩) m) (fun t11 m => gop (gb t9 true) (fun K => callw Try.prog 5 [t11] m K (fun ch m => R (.pan ch) m)) (fun t12 m => pop (cpick t9 t12 (.bool false)) m (fun t13 m => gop (gb t13 true) (fun K => K (.func (Fn.func 16) ⟨[]⟩ ⟨[t1]⟩) m) (fun t15 m => gop (gb t13 true) (fun K => callw Try.prog 5 [t15] m K (fun ch m => R (.pan ch) m)) (fun t16 m => pop (cpick t13 t16 (.bool false)) m (fun t17 m => gop (gb t17 true) (fun K => K (.func (Fn.func 19) ⟨[]⟩ ⟨[t1]⟩) m) (fun t19 m => gop (gb t17 true) (fun K => callw Try.prog 5 [t19] m K (fun ch m => R (.pan ch) m)) (fun t20 m => pop (cpick t17 t20 (.bool false)) m (fun t21 m => gop (gb t21 true) (fun K => K (.func (Fn.func 24) ⟨[]⟩ ⟨[t1]⟩) m) (fun t23 m => gop (gb t21 true) (fun K => callw Try.prog 5 [t23] m K (fun ch m => R (.pan ch) m)) (fun t24 m => pop (cpick t21 t24 (.bool false)) m (fun t25 m => gop (gb t25 true) (fun K => K (.func (Fn.func 26) ⟨[]⟩ ⟨[t1]⟩) m) (fun t27 m => gop (gb t25 true) (fun K => callw Try.prog 5 [t27] m K (fun ch m => R (.pan ch) m)) (fun t28 m => pop (cpick t25 t28 (.bool false)) m (fun t29 m => gop (gb t29 true) (fun K => K (.func (Fn.func 28) ⟨[]⟩ ⟨[t1]⟩) m) (fun t31 m => gop (gb t29 true) (fun K => callw Try.prog 5 [t31] m K (fun ch m => R (.pan ch) m)) (fun t32 m => pop (cpick t29 t32 (.bool false)) m (fun t33 m => pop (cload Try.prog 30 t1 m) m (fun t34 m => callw Try.prog 4 [t34, t4] m (fun t35 m => gop (gb t33 true) (fun K => pop (cload Try.prog 33 t3 m) m K) (fun t38 m => gop (gb t33 true) (fun K => pop (cload Try.prog 33 t4 m) m K) (fun t39 m => gop (gb t33 true) (fun K => callw Try.prog 31 [t38, t39] m K (fun ch m => R (.pan ch) m)) (fun t40 m => pop (cpick t33 t40 (.bool false)) m (fun t41 m => gop (gb t41 true) (fun K => callw Try.prog 32 [] m K (fun ch m => R (.pan ch) m)) (fun t43 m => pop (cpick t41 t43 (.bool false)) m (fun t44 m => leaveV Try.prog [.v t44] [] .ret m R)) m)) m) m) m) (fun ch m => R (.pan ch) m)))) m) m)) m) m)) m) m)) m) m)) m) m)) m) m) (fun ch m => R (.pan ch) m)) (fun ch m => R (.pan ch) m)))))
def ann3 : Nat → List Nat := fun i => []
theorem e3 (R : CE → CM → Prop) (a0 : Value) (m : CM) : wpc Try.prog ann3 none b3 (leaveX Try.prog Try.f3.results.toList R) (enterA Try.f3 [a0]) m = s3 R a0 m := by kernel_rfl
theorem ok3 : codeOk ann3 Try.f3.ntmps b3 = true := by kernel_rfl
theorem c3 {a0 : Value} {m : CM} {K : Value → CM → Prop} {Kp : List PanicEntry → CM → Prop} (h : s3 (RK K Kp) a0 m) : callw Try.prog 3 [a0] m K Kp :=
  callw_text mixed Try.func3 (show Try.f3.body = some b3 by kernel_rfl) (by kernel_rfl) (by kernel_rfl) ok3 (by rw [e3]; exact h)
noncomputable def b4 : Code := match Try.f4.body with | some c => c | none => .skip
def s4 (R : CE → CM → Prop) (a0 a1 : Value) (m : CM) : Prop :=
  boxw a0 m (fun t2 m => pop (cfa Try.prog 30 0 t2) m (fun t5 m => pop (cload Try.prog 24 t5 m) m (fun t6 m => callw Try.prog 33 [a1, t6] m (fun t7 m => pop (cfa Try.prog 30 1 t2) m (fun t9 m => pop (cload Try.prog 25 t9 m) m (fun t10 m => callw Try.prog 21 [a1, t10] m (fun t11 m => pop (cfa Try.prog 30 2 t2) m (fun t13 m => pop (cload Try.prog 27 t13 m) m (fun t14 m => callw Try.prog 34 [a1, t14] m (fun t15 m => pop (cfa Try.prog 30 3 t2) m (fun t17 m => pop (cload Try.prog 28 t17 m) m (fun t18 m => callw Try.prog 35 [a1, t18] m (fun t19 m => pop (cfa Try.prog 30 4 t2) m (fun t21 m => pop (cload Try.prog 3 t21 m) m (fun t22 m => callw Try.prog 8 [a1, t22] m (fun t23 m => pop (cfa Try.prog 30 5 t2) m (fun t25 m => pop (cload Try.prog 3 t25 m) m (fun t26 m => callw Try.prog 8 [a1, t26] m (fun t27 m => pop (cfa Try.prog 30 6 t2) m (fun t29 m => pop (cload Try.prog 3 t29 m) m (fun t30 m => callw Try.prog 8 [a1, t30] m (fun t31 m => leaveV Try.prog [] [] .ret m R) (fun ch m => R (.pan ch) m)))) (fun ch m => R (.pan ch) m)))) (fun ch m => R (.pan ch) m)))) (fun ch m => R (.pan ch) m)))) (fun ch m => R (.pan ch) m)))) (fun ch m => R (.pan ch) m)))) (fun ch m => R (.pan ch) m))))
def ann4 : Nat → List Nat := fun i => []
theorem e4 (R : CE → CM → Prop) (a0 a1 : Value) (m : CM) : wpc Try.prog ann4 none b4 (leaveX Try.prog Try.f4.results.toList R) (enterA Try.f4 [a0, a1]) m = s4 R a0 a1 m := by kernel_rfl
theorem ok4 : codeOk ann4 Try.f4.ntmps b4 = true := by kernel_rfl
theorem c4 {a0 a1 : Value} {m : CM} {K : Value → CM → Prop} {Kp : List PanicEntry → CM → Prop} (h : s4 (RK K Kp) a0 a1 m) : callw Try.prog 4 [a0, a1] m K Kp :=
  callw_text mixed Try.func4 (show Try.f4.body = some b4 by kernel_rfl) (by kernel_rfl) (by kernel_rfl) ok4 (by rw [e4]; exact h)
noncomputable def b5 : Code := match Try.f5.body with | some c => c | none => .skip
def s5 (R : CE → CM → Prop) (a0 : Value) (m : CM) : Prop :=
  alw Try.prog 33 m (fun t3 m => alw Try.prog 33 m (fun t4 m => callv Try.prog a0 [t3] m (fun t7 m => callv Try.prog t7 [] m (fun t9 m => callv Try.prog a0 [t4] m (fun t11 m => pop (cload Try.prog 33 t3 m) m (fun t12 m => pop (cload Try.prog 33 t4 m) m (fun t13 m => callw Try.prog 31 [t12, t13] m (fun t14 m => leaveV Try.prog [.v t14] [] .ret m R) (fun ch m => R (.pan ch) m)))) (fun ch m => R (.pan ch) m)) (fun ch m => R (.pan ch) m)) (fun ch m => R (.pan ch) m)))
def ann5 : Nat → List Nat := fun i => []
theorem e5 (R : CE → CM → Prop) (a0 : Value) (m : CM) : wpc Try.prog ann5 none b5 (leaveX Try.prog Try.f5.results.toList R) (enterA Try.f5 [a0]) m = s5 R a0 m := by kernel_rfl
theorem ok5 : codeOk ann5 Try.f5.ntmps b5 = true := by kernel_rfl
theorem c5 {a0 : Value} {m : CM} {K : Value → CM → Prop} {Kp : List PanicEntry → CM → Prop} (h : s5 (RK K Kp) a0 m) : callw Try.prog 5 [a0] m K Kp :=
  callw_text mixed Try.func5 (show Try.f5.body = some b5 by kernel_rfl) (by kernel_rfl) (by kernel_rfl) ok5 (by rw [e5]; exact h)
noncomputable def b8 : Code := match Try.f8.body with | some c => c | none => .skip
def s8 (R : CE → CM → Prop) (a0 a1 : Value) (m : CM) : Prop :=
  pop (cnilc a0) m (fun t6 m => pop (cfa Try.prog 33 0 t6) m (fun t7 m => pop (cload Try.prog 25 t7 m) m (fun t8 m => vop (cbuildS Try.prog 25 1 [(0, a1)] m) (fun t10 m => vop (cappend Try.prog [25, 25] t8 t10 m) (fun t11 m => pop (cnilc a0) m (fun t12 m => pop (cfa Try.prog 33 0 t12) m (fun t13 m => sop (cstore Try.prog 25 t13 t11 m) (fun _ m => leaveV Try.prog [] [] .ret m R))))))))
def ann8 : Nat → List Nat := fun i => []
theorem e8 (R : CE → CM → Prop) (a0 a1 : Value) (m : CM) : wpc Try.prog ann8 none b8 (leaveX Try.prog Try.f8.results.toList R) (enterA Try.f8 [a0, a1]) m = s8 R a0 a1 m := by kernel_rfl
theorem ok8 : codeOk ann8 Try.f8.ntmps b8 = true := by kernel_rfl
theorem c8 {a0 a1 : Value} {m : CM} {K : Value → CM → Prop} {Kp : List PanicEntry → CM → Prop} (h : s8 (RK K Kp) a0 a1 m) : callw Try.prog 8 [a0, a1] m K Kp :=
  callw_text mixed Try.func8 (show Try.f8.body = some b8 by kernel_rfl) (by kernel_rfl) (by kernel_rfl) ok8 (by rw [e8]; exact h)
noncomputable def b10 : Code := match Try.f10.body with | some c => c | none => .skip
def s10 (R : CE → CM → Prop) (m : CM) : Prop :=
  leaveV Try.prog [] [] .ret m R
def ann10 : Nat → List Nat := fun i => []
theorem e10 (R : CE → CM → Prop) (m : CM) : wpc Try.prog ann10 none b10 (leaveX Try.prog Try.f10.results.toList R) (enterA Try.f10 []) m = s10 R m := by kernel_rfl
theorem ok10 : codeOk ann10 Try.f10.ntmps b10 = true := by kernel_rfl
theorem c10 {m : CM} {K : Value → CM → Prop} {Kp : List PanicEntry → CM → Prop} (h : s10 (RK K Kp) m) : callw Try.prog 10 [] m K Kp :=
  callw_text mixed Try.func10 (show Try.f10.body = some b10 by kernel_rfl) (by kernel_rfl) (by kernel_rfl) ok10 (by rw [e10]; exact h)
noncomputable def b12 : Code := match Try.f12.body with | some c => c | none => .skip
noncomputable def as12_0 : Code := ((rfs b12).getD 0 (#[], .skip, .skip)).2.1
noncomputable def bd12_0 : Code := ((rfs b12).getD 0 (#[], .skip, .skip)).2.2
def j12_0 (R : CE → CM → Prop) (q0_4 : Value) (ds : List Deferred) (m : CM) : Prop :=
  pop (cload Try.prog 43 q0_4 m) m (fun t43 m => sop (cstore Try.prog 43 q0_4 t43 m) (fun _ m => leaveV Try.prog [.c 43 q0_4, .v (.int .i64 0)] ds .ret m R))
noncomputable def s12 (R : CE → CM → Prop) (a0 a1 : Value) (m : CM) : Prop :=
  boxw a0 m (fun t2 m => alw Try.prog 43 m (fun t4 m => pop (cload Try.prog 24 t2 m) m (fun t11 m => callw Try.prog 42 [t11, a1] m (fun t13 m => pop (cext t13 0) m (fun t14 m => pop (cext t13 1) m (fun t15 m => alw Try.prog 78 m (fun t6 m => sop (cstore Try.prog 78 t6 t14 m) (fun _ m => pop (cbin Try.prog BinOp.neq 37 (Operand.tmp 16) (Operand.const (Value.int IntKind.i64 0)) t15 (.int .i64 0)) m (fun t17 m => cnd t17 (sop (cstore Try.prog 43 t4 (Value.slice none 0 0) m) (fun _ m => leaveV Try.prog [.c 43 t4, .v t15] [] .ret m R)) (pop (cload Try.prog 78 t6 m) m (fun t20 m => callw Try.prog 43 [t20] m (fun t21 m => pop (cext t21 0) m (fun t22 m => pop (cext t21 1) m (fun t23 m => alw Try.prog 83 m (fun t7 m => sop (cstore Try.prog 83 t7 t22 m) (fun _ m => pop (cun Try.prog UnOp.not t23) m (fun t25 m => cnd t25 (sop (cstore Try.prog 43 t4 (Value.slice none 0 0) m) (fun _ m => leaveV Try.prog [.c 43 t4, .v (.int .i64 9)] [] .ret m R)) (pop (cload Try.prog 78 t6 m) m (fun t26 m => callw Try.prog 44 [t26] m (fun t27 m => rfO Try.prog t27 m (fun D => rfRec (((((((((((((((((((((((((enterA Try.f12 [a0, a1]).put (some 2) t2).put (some 4) t4).put (some 5) (.int .i64 0)).put (some 11) t11).put (some 12) a1).put (some 13) t13).put (some 10) t13).put (some 14) t14).put (some 15) t15).put (some 6) t6).put (some 5) t15).put (some 16) t15).put (some 17) t17).put (some 20) t20).put (some 21) t21).put (some 19) t21).put (some 22) t22).put (some 23) t23).put (some 7) t7).put (some 8) t23).put (some 24) t23).put (some 25) t25).put (some 26) t26).put (some 27) t27) #[28, 29] as12_0 bd12_0 D) (fun D12_0 => (fun e12_0 m => exE e12_0 (j12_0 R t4 [mark D12_0] m) (leaveV Try.prog [.c 43 t4, .v t15] [mark D12_0] .ret m R) (fun i12_0 => cndb (Nat.beq i12_0 0) (j12_0 R t4 [mark D12_0] m) (False)) (fun i12_0 => False) (fun ch => leaveV Try.prog [.c 43 t4, .v t15] [mark D12_0] (.pan ch) m R) (False))) (fun D12_0 => (fun ch m => leaveV Try.prog [.c 43 t4, .v t15] [mark D12_0] (.pan ch) m R))) (fun ch m => R (.pan ch) m))))))))) (fun ch m => R (.pan ch) m))))))))) (fun ch m => R (.pan ch) m))))
noncomputable def r12_0 (RY : Value → CM → Prop) (l : Nat) (A : CA) (x0 x1 : Value) (m : CM) : Prop :=
  asgE l m (fun m => pop (cload Try.prog 43 (A.ρ 4) m) m (fun t30 _ => pop (cia Try.prog 83 (A.ρ 7) (.int .i64 7)) m (fun t32 _ => pop (cia Try.prog 81 t32 x0) m (fun t33 _ => pop (cload Try.prog 3 t33 m) m (fun t34 _ => pop (cun Try.prog UnOp.neg t34) m (fun t35 _ => pop (cia Try.prog 83 (A.ρ 7) x0) m (fun t37 _ => pop (cia Try.prog 81 t37 (.int .i64 7)) m (fun t38 _ => pop (cload Try.prog 3 t38 m) m (fun t39 _ => pop (cbuild Try.prog 50 [(0, t35), (1, t39)]) m (fun t40 _ => vop (cbuildS Try.prog 43 1 [(0, t40)] m) (fun t41 m9_11 => m.le m9_11 ∧ vop (cappend Try.prog [43, 43] t30 t41 (memJ m [⟨t30, m.next, none⟩, ⟨x0, m.next, none⟩, ⟨t32, m.next, none⟩, ⟨t33, m.next, none⟩, ⟨t34, m.next, none⟩, ⟨t35, m.next, none⟩, ⟨x0, m.next, none⟩, ⟨t37, m.next, none⟩, ⟨t38, m.next, none⟩, ⟨t39, m.next, none⟩, ⟨t40, m.next, none⟩, ⟨t41, m.next, some m9_11⟩] (fun _ => true) m9_11.next)) (fun t42 m => sop (cstore Try.prog 43 (A.ρ 4) t42 m) (fun _ m => bodyE l RY .normal m)))))))))))))
def ann12 : Nat → List Nat := fun i => if i = 19 then [12] else []
theorem e12 (R : CE → CM → Prop) (a0 a1 : Value) (m : CM) : wpc Try.prog ann12 none b12 (leaveX Try.prog Try.f12.results.toList R) (enterA Try.f12 [a0, a1]) m = s12 R a0 a1 m := by kernel_rfl
theorem ok12 : codeOk ann12 Try.f12.ntmps b12 = true := by kernel_rfl
theorem c12 {a0 a1 : Value} {m : CM} {K : Value → CM → Prop} {Kp : List PanicEntry → CM → Prop} (h : s12 (RK K Kp) a0 a1 m) : callw Try.prog 12 [a0, a1] m K Kp :=
  callw_text mixed Try.func12 (show Try.f12.body = some b12 by kernel_rfl) (by kernel_rfl) (by kernel_rfl) ok12 (by rw [e12]; exact h)
theorem er12_0 (RY : Value → CM → Prop) (l D : Nat) (A : CA) (x0 x1 : Value) (m : CM) : wpc Try.prog ann12 (some l) as12_0 (assignEnd Try.prog ann12 l bd12_0 RY) (roundA (rfRec A #[28, 29] as12_0 bd12_0 D) [x0, x1]) m = r12_0 RY l A x0 x1 m := by kernel_rfl
noncomputable def b13 : Code := match Try.f13.body with | some c => c | none => .skip
def s13 (R : CE → CM → Prop) (a0 a1 : Value) (m : CM) : Prop :=
  callw Try.prog 45 [a0, a1, (.func (.func 18) ⟨[]⟩ ⟨[]⟩)] m (fun t6 m => leaveV Try.prog [] [] .ret m R) (fun ch m => R (.pan ch) m)
def ann13 : Nat → List Nat := fun i => []
theorem e13 (R : CE → CM → Prop) (a0 a1 : Value) (m : CM) : wpc Try.prog ann13 none b13 (leaveX Try.prog Try.f13.results.toList R) (enterA Try.f13 [a0, a1]) m = s13 R a0 a1 m := by kernel_rfl
theorem ok13 : codeOk ann13 Try.f13.ntmps b13 = true := by kernel_rfl
theorem c13 {a0 a1 : Value} {m : CM} {K : Value → CM → Prop} {Kp : List PanicEntry → CM → Prop} (h : s13 (RK K Kp) a0 a1 m) : callw Try.prog 13 [a0, a1] m K Kp :=
  callw_text mixed Try.func13 (show Try.f13.body = some b13 by kernel_rfl) (by kernel_rfl) (by kernel_rfl) ok13 (by rw [e13]; exact h)
noncomputable def b16 : Code := match Try.f16.body with | some c => c | none => .skip
def s16 (R : CE → CM → Prop) (a0 a1 : Value) (m : CM) : Prop :=
  pop (cfa Try.prog 30 0 a1) m (fun t7 m => pop (cload Try.prog 24 t7 m) m (fun t8 m => pop (cfa Try.prog 30 1 a1) m (fun t9 m => pop (cload Try.prog 25 t9 m) m (fun t10 m => pop (cfa Try.prog 30 4 a1) m (fun t11 m => pop (cload Try.prog 3 t11 m) m (fun t12 m => pop (cfa Try.prog 30 5 a1) m (fun t13 m => pop (cload Try.prog 3 t13 m) m (fun t14 m => callw Try.prog 17 [t8, t10, t12, t14] m (fun t15 m => pop (cext t15 0) m (fun t16 m => pop (cext t15 1) m (fun t17 m => alw Try.prog 50 m (fun t4 m => sop (cstore Try.prog 50 t4 t16 m) (fun _ m => pop (cload Try.prog 50 t4 m) m (fun t19 m => callw Try.prog 18 [a0, t19] m (fun t20 m => callw Try.prog 9 [a0, t17] m (fun t23 m => leaveV Try.prog [.v (.func (.func 10) ⟨[]⟩ ⟨[]⟩)] [] .ret m R) (fun ch m => R (.pan ch) m)) (fun ch m => R (.pan ch) m))))))) (fun ch m => R (.pan ch) m)))))))))
def ann16 : Nat → List Nat := fun i => []
theorem e16 (R : CE → CM → Prop) (a0 a1 : Value) (m : CM) : wpc Try.prog ann16 none b16 (leaveX Try.prog Try.f16.results.toList R) (enterA Try.f16 [a0, a1]) m = s16 R a0 a1 m := by kernel_rfl
theorem ok16 : codeOk ann16 Try.f16.ntmps b16 = true := by kernel_rfl
theorem c16 {a0 a1 : Value} {m : CM} {K : Value → CM → Prop} {Kp : List PanicEntry → CM → Prop} (h : s16 (RK K Kp) a0 a1 m) : callw Try.prog 16 [a0, a1] m K Kp :=
  callw_text mixed Try.func16 (show Try.f16.body = some b16 by kernel_rfl) (by kernel_rfl) (by kernel_rfl) ok16 (by rw [e16]; exact h)
noncomputable def b25 : Code := match Try.f25.body with | some c => c | none => .skip
def s25 (R : CE → CM → Prop) (a0 a1 a2 : Value) (m : CM) : Prop :=
  boxw a0 m (fun t3 m => alw Try.prog 50 m (fun t6 m => pop (cload Try.prog 24 t3 m) m (fun t12 m => callw Try.prog 42 [t12, a1] m (fun t14 m => pop (cext t14 0) m (fun t15 m => pop (cext t14 1) m (fun t16 m => alw Try.prog 78 m (fun t8 m => sop (cstore Try.prog 78 t8 t15 m) (fun _ m => pop (cbin Try.prog BinOp.neq 37 (Operand.tmp 18) (Operand.const (Value.int IntKind.i64 0)) t16 (.int .i64 0)) m (fun t19 m => cnd t19 (pop (cload Try.prog 50 t6 m) m (fun t20 m => sop (cstore Try.prog 50 t6 t20 m) (fun _ m => leaveV Try.prog [.c 50 t6, .v t16] [] .ret m R))) (pop (cfa Try.prog 78 0 t8) m (fun t23 m => pop (cfa Try.prog 24 1 t23) m (fun t24 m => pop (cload Try.prog 22 t24 m) m (fun t25 m => pop (clen Try.prog 22 t25 m) m (fun t26 m => vop (cbuildS Try.prog 25 1 [(0, a2)] m) (fun t28 m => callw Try.prog 36 [(.int .i64 0), t26, t28] m (fun t29 m => gop (gb t29 false) (fun K => K a1 m) (fun t31 m => gop (gb t29 false) (fun K => K a2 m) (fun t32 m => gop (gb t29 false) (fun K => pop (cia Try.prog 25 t31 t32) m K) (fun t33 m => gop (gb t29 false) (fun K => pop (cload Try.prog 3 t33 m) m K) (fun t34 m => gop (gb t29 false) (fun K => pop (cbin Try.prog BinOp.eql 3 (Operand.tmp 34) (Operand.const (Value.int IntKind.i64 (-1))) t34 (.int .i64 (-1))) m K) (fun t35 m => pop (cpick t29 (.bool true) t35) m (fun t36 m => cnd t36 (pop (cload Try.prog 50 t6 m) m (fun t37 m => sop (cstore Try.prog 50 t6 t37 m) (fun _ m => leaveV Try.prog [.c 50 t6, .v (.int .i64 4)] [] .ret m R))) (pop (cload Try.prog 78 t8 m) m (fun t39 m => callw Try.prog 49 [t39, a2] m (fun t41 m => callw Try.prog 43 [t41] m (fun t42 m => pop (cext t42 0) m (fun t43 m => pop (cext t42 1) m (fun t44 m => alw Try.prog 83 m (fun t9 m => sop (cstore Try.prog 83 t9 t43 m) (fun _ m => pop (cun Try.prog UnOp.not t44) m (fun t46 m => cnd t46 (pop (cload Try.prog 50 t6 m) m (fun t47 m => sop (cstore Try.prog 50 t6 t47 m) (fun _ m => leaveV Try.prog [.c 50 t6, .v (.int .i64 9)] [] .ret m R))) (pop (cia Try.prog 25 a1 a2) m (fun t50 _ => pop (cload Try.prog 3 t50 m) m (fun t51 _ => pop (cia Try.prog 83 t9 a2) m (fun t53 _ => pop (cia Try.prog 81 t53 (.int .i64 7)) m (fun t54 _ => pop (cload Try.prog 3 t54 m) m (fun t55 _ => pop (cbin Try.prog BinOp.sub 3 (Operand.tmp 51) (Operand.tmp 55) t51 t55) m (fun t56 _ => pop (cia Try.prog 25 a1 a2) m (fun t59 _ => pop (cload Try.prog 3 t59 m) m (fun t60 _ => pop (cia Try.prog 83 t9 (.int .i64 7)) m (fun t62 _ => pop (cia Try.prog 81 t62 a2) m (fun t63 _ => pop (cload Try.prog 3 t63 m) m (fun t64 _ => pop (cbin Try.prog BinOp.add 3 (Operand.tmp 60) (Operand.tmp 64) t60 t64) m (fun t65 _ => pop (cbuild Try.prog 50 [(0, t56), (1, t65)]) m (fun t66 m => sop (cstore Try.prog 50 t6 t66 m) (fun _ m => leaveV Try.prog [.c 50 t6, .v (.int .i64 0)] [] .ret m R))))))))))))))))))))) (fun ch m => R (.pan ch) m)) (fun ch m => R (.pan ch) m))))) m) m) m) m) m) (fun ch m => R (.pan ch) m))))))))))))) (fun ch m => R (.pan ch) m))))
def ann25 : Nat → List Nat := fun i => if i = 19 then [18] else []
theorem e25 (R : CE → CM → Prop) (a0 a1 a2 : Value) (m : CM) : wpc Try.prog ann25 none b25 (leaveX Try.prog Try.f25.results.toList R) (enterA Try.f25 [a0, a1, a2]) m = s25 R a0 a1 a2 m := by kernel_rfl
theorem ok25 : codeOk ann25 Try.f25.ntmps b25 = true := by kernel_rfl
theorem c25 {a0 a1 a2 : Value} {m : CM} {K : Value → CM → Prop} {Kp : List PanicEntry → CM → Prop} (h : s25 (RK K Kp) a0 a1 a2 m) : callw Try.prog 25 [a0, a1, a2] m K Kp :=
  callw_text mixed Try.func25 (show Try.f25.body = some b25 by kernel_rfl) (by kernel_rfl) (by kernel_rfl) ok25 (by rw [e25]; exact h)
noncomputable def b26 : Code := match Try.f26.body with | some c => c | none => .skip
def s26 (R : CE → CM → Prop) (a0 a1 : Value) (m : CM) : Prop :=
  pop (cfa Try.prog 30 2 a1) m (fun t7 m => pop (cload Try.prog 27 t7 m) m (fun t8 m => pop (cfa Try.prog 30 3 a1) m (fun t9 m => pop (cload Try.prog 28 t9 m) m (fun t10 m => callw Try.prog 27 [t8, t10] m (fun t11 m => pop (cext t11 0) m (fun t12 m => pop (cext t11 1) m (fun t13 m => callw Try.prog 8 [a0, t12] m (fun t16 m => callw Try.prog 9 [a0, t13] m (fun t19 m => leaveV Try.prog [.v (.func (.func 10) ⟨[]⟩ ⟨[]⟩)] [] .ret m R) (fun ch m => R (.pan ch) m)) (fun ch m => R (.pan ch) m)))) (fun ch m => R (.pan ch) m)))))
def ann26 : Nat → List Nat := fun i => []
theorem e26 (R : CE → CM → Prop) (a0 a1 : Value) (m : CM) : wpc Try.prog ann26 none b26 (leaveX Try.prog Try.f26.results.toList R) (enterA Try.f26 [a0, a1]) m = s26 R a0 a1 m := by kernel_rfl
theorem ok26 : codeOk ann26 Try.f26.ntmps b26 = true := by kernel_rfl
theorem c26 {a0 a1 : Value} {m : CM} {K : Value → CM → Prop} {Kp : List PanicEntry → CM → Prop} (h : s26 (RK K Kp) a0 a1 m) : callw Try.prog 26 [a0, a1] m K Kp :=
  callw_text mixed Try.func26 (show Try.f26.body = some b26 by kernel_rfl) (by kernel_rfl) (by kernel_rfl) ok26 (by rw [e26]; exact h)
noncomputable def b28 : Code := match Try.f28.body with | some c => c | none => .skip
def s28 (R : CE → CM → Prop) (a0 a1 : Value) (m : CM) : Prop :=
  pop (cfa Try.prog 30 2 a1) m (fun t7 m => pop (cload Try.prog 27 t7 m) m (fun t8 m => pop (cfa Try.prog 30 3 a1) m (fun t9 m => pop (cload Try.prog 28 t9 m) m (fun t10 m => callw Try.prog 29 [t8, t10] m (fun t11 m => pop (cext t11 0) m (fun t12 m => pop (cext t11 1) m (fun t13 m => alw Try.prog 25 m (fun t4 m => sop (cstore Try.prog 25 t4 t12 m) (fun _ m => pop (cload Try.prog 25 t4 m) m (fun t15 m => callw Try.prog 21 [a0, t15] m (fun t16 m => callw Try.prog 9 [a0, t13] m (fun t19 m => leaveV Try.prog [.v (.func (Fn.func 30) ⟨[]⟩ ⟨[t4]⟩)] [] .ret m R) (fun ch m => R (.pan ch) m)) (fun ch m => R (.pan ch) m))))))) (fun ch m => R (.pan ch) m)))))
def ann28 : Nat → List Nat := fun i => []
theorem e28 (R : CE → CM → Prop) (a0 a1 : Value) (m : CM) : wpc Try.prog ann28 none b28 (leaveX Try.prog Try.f28.results.toList R) (enterA Try.f28 [a0, a1]) m = s28 R a0 a1 m := by kernel_rfl
theorem ok28 : codeOk ann28 Try.f28.ntmps b28 = true := by kernel_rfl
theorem c28 {a0 a1 : Value} {m : CM} {K : Value → CM → Prop} {Kp : List PanicEntry → CM → Prop} (h : s28 (RK K Kp) a0 a1 m) : callw Try.prog 28 [a0, a1] m K Kp :=
  callw_text mixed Try.func28 (show Try.f28.body = some b28 by kernel_rfl) (by kernel_rfl) (by kernel_rfl) ok28 (by rw [e28]; exact h)
noncomputable def b33 : Code := match Try.f33.body with | some c => c | none => .skip
def s33 (R : CE → CM → Prop) (a0 a1 : Value) (m : CM) : Prop :=
  boxw a1 m (fun t3 m => pop (cfa Try.prog 24 0 t3) m (fun t5 m => pop (cload Try.prog 3 t5 m) m (fun t6 m => callw Try.prog 8 [a0, t6] m (fun t7 m => pop (cfa Try.prog 24 1 t3) m (fun t9 m => pop (cload Try.prog 22 t9 m) m (fun t10 m => callw Try.prog 72 [a0, t10] m (fun t11 m => leaveV Try.prog [] [] .ret m R) (fun ch m => R (.pan ch) m)))) (fun ch m => R (.pan ch) m))))
def ann33 : Nat → List Nat := fun i => []
theorem e33 (R : CE → CM → Prop) (a0 a1 : Value) (m : CM) : wpc Try.prog ann33 none b33 (leaveX Try.prog Try.f33.results.toList R) (enterA Try.f33 [a0, a1]) m = s33 R a0 a1 m := by kernel_rfl
theorem ok33 : codeOk ann33 Try.f33.ntmps b33 = true := by kernel_rfl
theorem c33 {a0 a1 : Value} {m : CM} {K : Value → CM → Prop} {Kp : List PanicEntry → CM → Prop} (h : s33 (RK K Kp) a0 a1 m) : callw Try.prog 33 [a0, a1] m K Kp :=
  callw_text mixed Try.func33 (show Try.f33.body = some b33 by kernel_rfl) (by kernel_rfl) (by kernel_rfl) ok33 (by rw [e33]; exact h)
noncomputable def b45 : Code := match Try.f45.body with | some c => c | none => .skip
def s45 (R : CE → CM → Prop) (a0 a1 a2 : Value) (m : CM) : Prop :=
  pop (cnilc a0) m (fun t9 m => pop (cfa Try.prog 33 0 t9) m (fun t10 m => pop (cload Try.prog 25 t10 m) m (fun t11 m => pop (clen Try.prog 43 a1 m) m (fun t13 m => vop (cbuildS Try.prog 25 1 [(0, t13)] m) (fun t14 m => vop (cappend Try.prog [25, 25] t11 t14 m) (fun t15 m => pop (cnilc a0) m (fun t16 m => pop (cfa Try.prog 33 0 t16) m (fun t17 m => sop (cstore Try.prog 25 t17 t15 m) (fun _ m => loopA [0, 1, 2, 6] (fun X1 ρ1 ds m => pop (clen Try.prog 43 (ρ1 1) m) m (fun t20 m => pop (cbin Try.prog BinOp.lss 3 (Operand.tmp 18) (Operand.tmp 20) (ρ1 6) t20) m (fun t21 m => cnd t21 (pop (cia Try.prog 43 (ρ1 1) (ρ1 6)) m (fun t28 m => pop (cload Try.prog 50 t28 m) m (fun t29 m => callv Try.prog (ρ1 2) [(ρ1 0), t29] m (fun t30 m => pop (cbin Try.prog BinOp.add 3 (Operand.tmp 22) (Operand.const (Value.int IntKind.i64 1)) (ρ1 6) (.int .i64 1)) m (fun t23 m => X1 [(ρ1 0), (ρ1 1), (ρ1 2), t23] ds m)) (fun ch m => leaveV Try.prog [] ds (.pan ch) m R)))) (leaveV Try.prog [] ds .ret m R)))) [a0, a1, a2, (.int .i64 0)] [] m)))))))))
def ann45 : Nat → List Nat := fun i => if i = 4 then [0, 1, 2, 6] else []
theorem e45 (R : CE → CM → Prop) (a0 a1 a2 : Value) (m : CM) : wpc Try.prog ann45 none b45 (leaveX Try.prog Try.f45.results.toList R) (enterA Try.f45 [a0, a1, a2]) m = s45 R a0 a1 a2 m := by kernel_rfl
theorem ok45 : codeOk ann45 Try.f45.ntmps b45 = true := by kernel_rfl
theorem c45 {a0 a1 a2 : Value} {m : CM} {K : Value → CM → Prop} {Kp : List PanicEntry → CM → Prop} (h : s45 (RK K Kp) a0 a1 a2 m) : callw Try.prog 45 [a0, a1, a2] m K Kp :=
  callw_text mixed Try.func45 (show Try.f45.body = some b45 by kernel_rfl) (by kernel_rfl) (by kernel_rfl) ok45 (by rw [e45]; exact h)
noncomputable def b47 : Code := match Try.f47.body with | some c => c | none => .skip
def s47 (R : CE → CM → Prop) (a0 : Value) (m : CM) : Prop :=
  pop (cnilc a0) m (fun t3 m => pop (cfa Try.prog 50 0 t3) m (fun t4 m => callw Try.prog 52 [t4] m (fun t5 m => pop (cnilc a0) m (fun t7 m => pop (cfa Try.prog 50 1 t7) m (fun t8 m => callw Try.prog 52 [t8] m (fun t9 m => leaveV Try.prog [] [] .ret m R) (fun ch m => R (.pan ch) m)))) (fun ch m => R (.pan ch) m)))
def ann47 : Nat → List Nat := fun i => []
theorem e47 (R : CE → CM → Prop) (a0 : Value) (m : CM) : wpc Try.prog ann47 none b47 (leaveX Try.prog Try.f47.results.toList R) (enterA Try.f47 [a0]) m = s47 R a0 m := by kernel_rfl
theorem ok47 : codeOk ann47 Try.f47.ntmps b47 = true := by kernel_rfl
theorem c47 {a0 : Value} {m : CM} {K : Value → CM → Prop} {Kp : List PanicEntry → CM → Prop} (h : s47 (RK K Kp) a0 m) : callw Try.prog 47 [a0] m K Kp :=
  callw_text mixed Try.func47 (show Try.f47.body = some b47 by kernel_rfl) (by kernel_rfl) (by kernel_rfl) ok47 (by rw [e47]; exact h)
noncomputable def b61 : Code := match Try.f61.body with | some c => c | none => .skip
def s61 (R : CE → CM → Prop) (a0 : Value) (m : CM) : Prop :=
  boxw a0 m (fun t1 m => pop (cfa Try.prog 108 1 t1) m (fun t3 m => pop (cload Try.prog 3 t3 m) m (fun t4 m => leaveV Try.prog [.v t4] [] .ret m R)))
def ann61 : Nat → List Nat := fun i => []
theorem e61 (R : CE → CM → Prop) (a0 : Value) (m : CM) : wpc Try.prog ann61 none b61 (leaveX Try.prog Try.f61.results.toList R) (enterA Try.f61 [a0]) m = s61 R a0 m := by kernel_rfl
theorem ok61 : codeOk ann61 Try.f61.ntmps b61 = true := by kernel_rfl
theorem c61 {a0 : Value} {m : CM} {K : Value → CM → Prop} {Kp : List PanicEntry → CM → Prop} (h : s61 (RK K Kp) a0 m) : callw Try.prog 61 [a0] m K Kp :=
  callw_text mixed Try.func61 (show Try.f61.body = some b61 by kernel_rfl) (by kernel_rfl) (by kernel_rfl) ok61 (by rw [e61]; exact h)
noncomputable def b63 : Code := match Try.f63.body with | some c => c | none => .skip
def s63 (R : CE → CM → Prop) (a0 : Value) (m : CM) : Prop :=
  pop (clen Try.prog 25 a0 m) m (fun t7 m => loopA [3, 6, 7, 8] (fun X1 ρ1 ds m => pop (cbin Try.prog BinOp.lss 3 (Operand.tmp 8) (Operand.tmp 7) (ρ1 8) (ρ1 7)) m (fun t9 m => cnd t9 (pop (cia Try.prog 25 (ρ1 6) (ρ1 8)) m (fun t10 m => pop (cload Try.prog 3 t10 m) m (fun t11 m => pop (cbin Try.prog BinOp.neq 3 (Operand.tmp 12) (Operand.tmp 13) t11 (ρ1 3)) m (fun t14 m => cnd t14 (leaveV Try.prog [.v t11] ds .ret m R) (pop (cbin Try.prog BinOp.add 3 (Operand.tmp 8) (Operand.const (Value.int IntKind.i64 1)) (ρ1 8) (.int .i64 1)) m (fun t16 m => X1 [(ρ1 3), (ρ1 6), (ρ1 7), t16] ds m)))))) (leaveV Try.prog [.v (ρ1 3)] ds .ret m R))) [(.int .i64 0), a0, t7, (.int .i64 0)] [] m)
def ann63 : Nat → List Nat := fun i => if i = 6 then [3, 6, 7, 8] else []
theorem e63 (R : CE → CM → Prop) (a0 : Value) (m : CM) : wpc Try.prog ann63 none b63 (leaveX Try.prog Try.f63.results.toList R) (enterA Try.f63 [a0]) m = s63 R a0 m := by kernel_rfl
theorem ok63 : codeOk ann63 Try.f63.ntmps b63 = true := by kernel_rfl
theorem c63 {a0 : Value} {m : CM} {K : Value → CM → Prop} {Kp : List PanicEntry → CM → Prop} (h : s63 (RK K Kp) a0 m) : callw Try.prog 63 [a0] m K Kp :=
  callw_text mixed Try.func63 (show Try.f63.body = some b63 by kernel_rfl) (by kernel_rfl) (by kernel_rfl) ok63 (by rw [e63]; exact h)
noncomputable def b67 : Code := match Try.f67.body with | some c => c | none => .skip
def s67 (R : CE → CM → Prop) (a0 : Value) (m : CM) : Prop :=
  alw Try.prog 27 m (fun t2 m => pop (cbuild Try.prog 27 [(0, (.int .i64 1)), (1, a0)]) m (fun t4 m => sop (cstore Try.prog 27 t2 t4 m) (fun _ m => leaveV Try.prog [.c 27 t2] [] .ret m R)))
def ann67 : Nat → List Nat := fun i => []
theorem e67 (R : CE → CM → Prop) (a0 : Value) (m : CM) : wpc Try.prog ann67 none b67 (leaveX Try.prog Try.f67.results.toList R) (enterA Try.f67 [a0]) m = s67 R a0 m := by kernel_rfl
theorem ok67 : codeOk ann67 Try.f67.ntmps b67 = true := by kernel_rfl
theorem c67 {a0 : Value} {m : CM} {K : Value → CM → Prop} {Kp : List PanicEntry → CM → Prop} (h : s67 (RK K Kp) a0 m) : callw Try.prog 67 [a0] m K Kp :=
  callw_text mixed Try.func67 (show Try.f67.body = some b67 by kernel_rfl) (by kernel_rfl) (by kernel_rfl) ok67 (by rw [e67]; exact h)
noncomputable def b71 : Code := match Try.f71.body with | some c => c | none => .skip
def s71 (R : CE → CM → Prop) (a0 a1 : Value) (m : CM) : Prop :=
  pop (clen Try.prog 25 a0 m) m (fun t7 m => pop (clen Try.prog 25 a1 m) m (fun t9 m => pop (cbin Try.prog BinOp.neq 3 (Operand.tmp 7) (Operand.tmp 9) t7 t9) m (fun t10 m => cnd t10 (leaveV Try.prog [.v (.bool false)] [] .ret m R) (loopA [0, 1, 5] (fun X1 ρ1 ds m => pop (clen Try.prog 25 (ρ1 0) m) m (fun t13 m => pop (cbin Try.prog BinOp.lss 3 (Operand.tmp 11) (Operand.tmp 13) (ρ1 5) t13) m (fun t14 m => cnd t14 (pop (cia Try.prog 25 (ρ1 0) (ρ1 5)) m (fun t19 _ => pop (cload Try.prog 3 t19 m) m (fun t20 _ => pop (cia Try.prog 25 (ρ1 1) (ρ1 5)) m (fun t23 _ => pop (cload Try.prog 3 t23 m) m (fun t24 _ => pop (cbin Try.prog BinOp.neq 3 (Operand.tmp 20) (Operand.tmp 24) t20 t24) m (fun t25 m => cnd t25 (leaveV Try.prog [.v (.bool false)] ds .ret m R) (pop (cbin Try.prog BinOp.add 3 (Operand.tmp 15) (Operand.const (Value.int IntKind.i64 1)) (ρ1 5) (.int .i64 1)) m (fun t16 m => X1 [(ρ1 0), (ρ1 1), t16] ds m)))))))) (leaveV Try.prog [.v (.bool true)] ds .ret m R)))) [a0, a1, (.int .i64 0)] [] m))))
def ann71 : Nat → List Nat := fun i => if i = 8 then [0, 1, 5] else if i = 13 then [8] else []
theorem e71 (R : CE → CM → Prop) (a0 a1 : Value) (m : CM) : wpc Try.prog ann71 none b71 (leaveX Try.prog Try.f71.results.toList R) (enterA Try.f71 [a0, a1]) m = s71 R a0 a1 m := by kernel_rfl
theorem ok71 : codeOk ann71 Try.f71.ntmps b71 = true := by kernel_rfl
theorem c71 {a0 a1 : Value} {m : CM} {K : Value → CM → Prop} {Kp : List PanicEntry → CM → Prop} (h : s71 (RK K Kp) a0 a1 m) : callw Try.prog 71 [a0, a1] m K Kp :=
  callw_text mixed Try.func71 (show Try.f71.body = some b71 by kernel_rfl) (by kernel_rfl) (by kernel_rfl) ok71 (by rw [e71]; exact h)
noncomputable def b75 : Code := match Try.f75.body with | some c => c | none => .skip
def s75 (R : CE → CM → Prop) (a0 a1 : Value) (m : CM) : Prop :=
  callw Try.prog 88 [a0, a1] m (fun t7 m => pop (cbin Try.prog BinOp.geq 3 (Operand.tmp 7) (Operand.const (Value.int IntKind.i64 0)) t7 (.int .i64 0)) m (fun t8 m => leaveV Try.prog [.v t8] [] .ret m R)) (fun ch m => R (.pan ch) m)
def ann75 : Nat → List Nat := fun i => []
theorem e75 (R : CE → CM → Prop) (a0 a1 : Value) (m : CM) : wpc Try.prog ann75 none b75 (leaveX Try.prog Try.f75.results.toList R) (enterA Try.f75 [a0, a1]) m = s75 R a0 a1 m := by kernel_rfl
theorem ok75 : codeOk ann75 Try.f75.ntmps b75 = true := by kernel_rfl
theorem c75 {a0 a1 : Value} {m : CM} {K : Value → CM → Prop} {Kp : List PanicEntry → CM → Prop} (h : s75 (RK K Kp) a0 a1 m) : callw Try.prog 75 [a0, a1] m K Kp :=
  callw_text mixed Try.func75 (show Try.f75.body = some b75 by kernel_rfl) (by kernel_rfl) (by kernel_rfl) ok75 (by rw [e75]; exact h)
noncomputable def b79 : Code := match Try.f79.body with | some c => c | none => .skip
def s79 (R : CE → CM → Prop) (a0 a1 : Value) (m : CM) : Prop :=
  pop (cbin Try.prog BinOp.neq 3 (Operand.tmp 5) (Operand.const (Value.int IntKind.i64 (-1))) a1 (.int .i64 (-1))) m (fun t6 m => gop (gb t6 true) (fun K => K a1 m) (fun t8 m => gop (gb t6 true) (fun K => vop (cbuildS Try.prog 25 1 [(0, t8)] m) K) (fun t9 m => gop (gb t6 true) (fun K => callw Try.prog 36 [(.int .i64 0), (.int .i64 1000000), t9] m K (fun ch m => R (.pan ch) m)) (fun t10 m => pop (cpick t6 t10 (.bool false)) m (fun t11 m => cnd t11 (leaveV Try.prog [.v (.int .i64 7)] [] .ret m R) (leaveV Try.prog [.v (.int .i64 0)] [] .ret m R))) m) m) m)
def ann79 : Nat → List Nat := fun i => []
theorem e79 (R : CE → CM → Prop) (a0 a1 : Value) (m : CM) : wpc Try.prog ann79 none b79 (leaveX Try.prog Try.f79.results.toList R) (enterA Try.f79 [a0, a1]) m = s79 R a0 a1 m := by kernel_rfl
theorem ok79 : codeOk ann79 Try.f79.ntmps b79 = true := by kernel_rfl
theorem c79 {a0 a1 : Value} {m : CM} {K : Value → CM → Prop} {Kp : List PanicEntry → CM → Prop} (h : s79 (RK K Kp) a0 a1 m) : callw Try.prog 79 [a0, a1] m K Kp :=
  callw_text mixed Try.func79 (show Try.f79.body = some b79 by kernel_rfl) (by kernel_rfl) (by kernel_rfl) ok79 (by rw [e79]; exact h)
noncomputable def b81 : Code := match Try.f81.body with | some c => c | none => .skip
def j81_1 (R : CE → CM → Prop) (X1 : List Value → List Deferred → CM → Prop) (q1_0 q1_4 q1_6 q1_13 q1_1 q1_3 q1_11 q1_12 : Value) (ds : List Deferred) (m : CM) : Prop :=
  pop (cload Try.prog 50 q1_6 m) m (fun t42 m => callv Try.prog q1_0 [q1_4, t42] m (fun t43 m => pop (cun Try.prog UnOp.not t43) m (fun t44 m => cnd t44 (leaveV Try.prog [] ds .ret m R) (pop (cbin Try.prog BinOp.add 3 (Operand.tmp 13) (Operand.const (Value.int IntKind.i64 1)) q1_13 (.int .i64 1)) m (fun t45 m => X1 [q1_0, q1_1, q1_3, q1_11, q1_12, t45] ds m)))) (fun ch m => leaveV Try.prog [] ds (.pan ch) m R))
def j81_0 (R : CE → CM → Prop) (X1 : List Value → List Deferred → CM → Prop) (q0_5 q0_3 q0_0 q0_4 q0_13 q0_1 q0_11 q0_12 : Value) (ds : List Deferred) (m : CM) : Prop :=
  pop (cbuild Try.prog 50 [(1, (.int .i64 1000000))]) m (fun t28 m => alw Try.prog 50 m (fun t6 m => sop (cstore Try.prog 50 t6 t28 m) (fun _ m => pop (cbin Try.prog BinOp.neq 3 (Operand.tmp 29) (Operand.const (Value.int IntKind.i64 (-1))) q0_5 (.int .i64 (-1))) m (fun t30 m => cnd t30 (pop (cbin Try.prog BinOp.sub 3 (Operand.tmp 31) (Operand.tmp 32) q0_5 q0_3) m (fun t33 m => pop (cmm Try.prog .max [(.int .i64 0), t33]) m (fun t34 m => pop (cbin Try.prog BinOp.add 3 (Operand.tmp 35) (Operand.tmp 36) q0_5 q0_3) m (fun t37 m => pop (cmm Try.prog .min [(.int .i64 1000000), t37]) m (fun t38 m => pop (cbuild Try.prog 50 [(0, t34), (1, t38)]) m (fun t39 m => sop (cstore Try.prog 50 t6 t39 m) (fun _ m => j81_1 R X1 q0_0 q0_4 t6 q0_13 q0_1 q0_3 q0_11 q0_12 ds m))))))) (j81_1 R X1 q0_0 q0_4 t6 q0_13 q0_1 q0_3 q0_11 q0_12 ds m)))))
def s81 (R : CE → CM → Prop) (a0 a1 : Value) (m : CM) : Prop :=
  pop (cfa Try.prog 78 0 a1) m (fun t7 m => pop (cfa Try.prog 24 0 t7) m (fun t8 m => pop (cload Try.prog 3 t8 m) m (fun t9 m => pop (cfa Try.prog 78 1 a1) m (fun t10 m => pop (cload Try.prog 25 t10 m) m (fun t11 m => pop (clen Try.prog 25 t11 m) m (fun t12 m => loopA [0, 1, 3, 11, 12, 13] (fun X1 ρ1 ds m => pop (cbin Try.prog BinOp.lss 3 (Operand.tmp 13) (Operand.tmp 12) (ρ1 13) (ρ1 12)) m (fun t14 m => cnd t14 (pop (cia Try.prog 25 (ρ1 11) (ρ1 13)) m (fun t16 m => pop (cload Try.prog 3 t16 m) m (fun t17 m => pop (cbin Try.prog BinOp.gtr 3 (Operand.tmp 18) (Operand.const (Value.int IntKind.i64 0)) (ρ1 13) (.int .i64 0)) m (fun t19 m => cnd t19 (pop (cfa Try.prog 78 0 (ρ1 1)) m (fun t20 m => pop (cfa Try.prog 24 1 t20) m (fun t21 m => pop (cload Try.prog 22 t21 m) m (fun t22 m => pop (cbin Try.prog BinOp.sub 3 (Operand.tmp 23) (Operand.const (Value.int IntKind.i64 1)) (ρ1 13) (.int .i64 1)) m (fun t24 m => pop (cia Try.prog 22 t22 t24) m (fun t25 m => pop (cfa Try.prog 72 2 t25) m (fun t26 m => pop (cload Try.prog 3 t26 m) m (fun t27 m => j81_0 R X1 t17 t27 (ρ1 0) (ρ1 13) (ρ1 13) (ρ1 1) (ρ1 11) (ρ1 12) ds m)))))))) (j81_0 R X1 t17 (ρ1 3) (ρ1 0) (ρ1 13) (ρ1 13) (ρ1 1) (ρ1 11) (ρ1 12) ds m))))) (leaveV Try.prog [] ds .ret m R))) [a0, a1, t9, t11, t12, (.int .i64 0)] [] m))))))
def ann81 : Nat → List Nat := fun i => if i = 4 then [0, 1, 3, 11, 12, 13] else []
theorem e81 (R : CE → CM → Prop) (a0 a1 : Value) (m : CM) : wpc Try.prog ann81 none b81 (leaveX Try.prog Try.f81.results.toList R) (enterA Try.f81 [a0, a1]) m = s81 R a0 a1 m := by kernel_rfl
theorem ok81 : codeOk ann81 Try.f81.ntmps b81 = true := by kernel_rfl
theorem c81 {a0 a1 : Value} {m : CM} {K : Value → CM → Prop} {Kp : List PanicEntry → CM → Prop} (h : s81 (RK K Kp) a0 a1 m) : callw Try.prog 81 [a0, a1] m K Kp :=
  callw_text mixed Try.func81 (show Try.f81.body = some b81 by kernel_rfl) (by kernel_rfl) (by kernel_rfl) ok81 (by rw [e81]; exact h)
noncomputable def b83 : Code := match Try.f83.body with | some c => c | none => .skip
def s83 (R : CE → CM → Prop) (a0 a1 : Value) (m : CM) : Prop :=
  boxw a1 m (fun t3 m => pop (cfa Try.prog 104 0 t3) m (fun t6 m => pop (cfa Try.prog 50 0 t6) m (fun t7 m => pop (cload Try.prog 3 t7 m) m (fun t8 m => pop (cfa Try.prog 104 0 t3) m (fun t9 m => pop (cfa Try.prog 50 1 t9) m (fun t10 m => pop (cload Try.prog 3 t10 m) m (fun t11 m => vop (cbuildS Try.prog 25 2 [(0, t8), (1, t11)] m) (fun t12 m => callw Try.prog 36 [(.int .i64 0), (.int .i64 1000000), t12] m (fun t13 m => gop (gb t13 false) (fun K => pop (cfa Try.prog 104 1 t3) m K) (fun t15 m => gop (gb t13 false) (fun K => pop (cload Try.prog 3 t15 m) m K) (fun t16 m => gop (gb t13 false) (fun K => vop (cbuildS Try.prog 25 1 [(0, t16)] m) K) (fun t17 m => gop (gb t13 false) (fun K => callw Try.prog 36 [(.int .i64 1), (.int .i64 255), t17] m K (fun ch m => R (.pan ch) m)) (fun t18 m => pop (cpick t13 (.bool true) t18) m (fun t19 m => cnd t19 (leaveV Try.prog [.v (.int .i64 7)] [] .ret m R) (pop (cfa Try.prog 104 0 t3) m (fun t21 m => pop (cfa Try.prog 50 0 t21) m (fun t22 m => pop (cload Try.prog 3 t22 m) m (fun t23 m => pop (cfa Try.prog 104 0 t3) m (fun t24 m => pop (cfa Try.prog 50 1 t24) m (fun t25 m => pop (cload Try.prog 3 t25 m) m (fun t26 m => pop (cbin Try.prog BinOp.gtr 3 (Operand.tmp 23) (Operand.tmp 26) t23 t26) m (fun t27 m => cnd t27 (leaveV Try.prog [.v (.int .i64 2)] [] .ret m R) (leaveV Try.prog [.v (.int .i64 0)] [] .ret m R))))))))))) m) m) m) m) (fun ch m => R (.pan ch) m)))))))))
def ann83 : Nat → List Nat := fun i => []
theorem e83 (R : CE → CM → Prop) (a0 a1 : Value) (m : CM) : wpc Try.prog ann83 none b83 (leaveX Try.prog Try.f83.results.toList R) (enterA Try.f83 [a0, a1]) m = s83 R a0 a1 m := by kernel_rfl
theorem ok83 : codeOk ann83 Try.f83.ntmps b83 = true := by kernel_rfl
theorem c83 {a0 a1 : Value} {m : CM} {K : Value → CM → Prop} {Kp : List PanicEntry → CM → Prop} (h : s83 (RK K Kp) a0 a1 m) : callw Try.prog 83 [a0, a1] m K Kp :=
  callw_text mixed Try.func83 (show Try.f83.body = some b83 by kernel_rfl) (by kernel_rfl) (by kernel_rfl) ok83 (by rw [e83]; exact h)
noncomputable def b85 : Code := match Try.f85.body with | some c => c | none => .skip
def s85 (R : CE → CM → Prop) (a0 : Value) (m : CM) : Prop :=
  pop (cbin Try.prog BinOp.neq 3 (Operand.tmp 3) (Operand.tmp 4) a0 a0) m (fun t5 m => leaveV Try.prog [.v t5] [] .ret m R)
def ann85 : Nat → List Nat := fun i => []
theorem e85 (R : CE → CM → Prop) (a0 : Value) (m : CM) : wpc Try.prog ann85 none b85 (leaveX Try.prog Try.f85.results.toList R) (enterA Try.f85 [a0]) m = s85 R a0 m := by kernel_rfl
theorem ok85 : codeOk ann85 Try.f85.ntmps b85 = true := by kernel_rfl
theorem c85 {a0 : Value} {m : CM} {K : Value → CM → Prop} {Kp : List PanicEntry → CM → Prop} (h : s85 (RK K Kp) a0 m) : callw Try.prog 85 [a0] m K Kp :=
  callw_text mixed Try.func85 (show Try.f85.body = some b85 by kernel_rfl) (by kernel_rfl) (by kernel_rfl) ok85 (by rw [e85]; exact h)end Go.Proofs.Ytbjkpdaigckiiaa.S
