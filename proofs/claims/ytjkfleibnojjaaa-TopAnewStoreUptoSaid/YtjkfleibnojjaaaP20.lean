/- Part 20 of 23 of the proof that the law TopAnewStore returns true and leaves its argument as it read before, for every input that the bounded statement admits (what it reads is of bulk at most 1048576). -/
import Derived.Test.YtjkfleibnojjaaaP04
import Derived.Test.YtjkfleibnojjaaaP19
namespace Go.Proofs.Ytjkfleibnojjaaa
open Go

/-! ### The same evaluator, cheaper in the kernel: small bodies, closed branches, temporaries packed at each round -/
noncomputable def evX (x : Operand) : CA → Value := @Operand.rec (fun _ => CA → Value) (fun t a => a.ρ t) (fun v _ => v) (fun _ _ => .chan none) (fun f _ => .func (.func f) #[] #[]) x
theorem evX_eq (x : Operand) (a : CA) : evX x a = a.ev x := by cases x <;> rfl
noncomputable def putX (a : CA) (dst : Option Tmp) (v : Value) (K : CA → Bool) : Bool :=
  @CA.rec (fun _ => Bool) (fun n ρ ds => @Option.rec Tmp (fun _ => Bool) (K ⟨n, ρ, ds⟩) (fun d => K ⟨n, fun u => @Bool.rec (fun _ => Value) (ρ u) v (Nat.beq u d), ds⟩) dst) a
theorem putX_eq (a : CA) (dst : Option Tmp) (v : Value) (K : CA → Bool) : putX a dst v K = K (putB a dst v) := by
  obtain ⟨n, ρ, ds⟩ := a
  cases dst with
  | none => rfl
  | some d =>
    simp only [putX, putB]
    congr 2
    funext u
    cases Nat.beq u d <;> rfl
/-- A list of temporaries laid on top: nothing changes. -/
noncomputable def packX : List Nat → CA → CA → (CA → Bool) → Bool
  | [], _, a, K => K a
  | t :: l, a0, a, K => valX (a0.ρ t) fun v => putX a (some t) v fun a => packX l a0 a K
theorem packX_eq : ∀ (l : List Nat) (a0 a : CA) (K : CA → Bool), (∀ t, a.ρ t = a0.ρ t) → packX l a0 a K = K a
  | [], a0, a, K, h => rfl
  | t :: l, a0, a, K, h => by
    simp only [packX, valX_eq, putX_eq]
    have : putB a (some t) (a0.ρ t) = a := by
      rw [putB_eq]
      obtain ⟨n, ρ, ds⟩ := a
      simp only [CA.put]
      congr 1
      funext u
      by_cases e : u = t
      · subst e; rw [if_pos rfl]; exact (h u).symm
      · rw [if_neg e]
    rw [this]
    exact packX_eq l a0 a K h
abbrev HX := Program → CB1 → YB1 → Nat → CA → CM → KB → KPB → Bool
def hB (o : Op) : HX := fun P C Y lo a m K Kp => opb P C Y lo o a m K Kp
noncomputable def popX (x : Option Value) (m : CM) (K : KB) : Bool := @Option.rec Value (fun _ => Bool) false (fun v => valX v fun v => K v m) x
theorem popX_eq (x : Option Value) (m : CM) (K : KB) : popX x m K = popb x m K := by
  cases x with
  | none => rfl
  | some v => simp only [popX, popb, valX_eq, valF_eq]
noncomputable def sopX (x : Option CM) (K : KB) : Bool := @Option.rec CM (fun _ => Bool) false (fun m => memF m fun m => K undef m) x
noncomputable def hMove (x : Operand) : HX := fun _ _ _ _ a m K _ => K (evX x a) m
noncomputable def hPick (c x y : Operand) : HX := fun _ _ _ _ a m K _ => popX (cpick (evX c a) (evX x a) (evX y a)) m K
noncomputable def hLoad (t : TypeId) (x : Operand) : HX := fun P _ _ _ a m K _ => popX (ldX P t (evX x a) m) m K
noncomputable def hStore (t : TypeId) (x y : Operand) : HX := fun P _ _ lo a m K _ => fence lo (evX x a) && sopX (stX P t (evX x a) (evX y a) m) K
noncomputable def hNil (x : Operand) : HX := fun P _ _ _ a m K _ => popX (cnilm P (evX x a)) m K
noncomputable def hBin (op : BinOp) (t : TypeId) (x y : Operand) : HX := fun P _ _ _ a m K _ => popX (cbinF P op t x y (evX x a) (evX y a)) m K
noncomputable def hUn (op : UnOp) (x : Operand) : HX := fun P _ _ _ a m K _ => popX (cun P op (evX x a)) m K
noncomputable def hFa (s : TypeId) (x : Operand) (f : Nat) : HX := fun P _ _ _ a m K _ => popX (cfa P s f (evX x a)) m K
noncomputable def hField (s : TypeId) (x : Operand) (f : Nat) : HX := fun P _ _ _ a m K _ => popX (cfield P s (evX x a) f) m K
noncomputable def hIa (s : TypeId) (x y : Operand) : HX := fun P _ _ _ a m K _ => popX (iaX P s (evX x a) (evX y a)) m K
noncomputable def hIx (s : TypeId) (x y : Operand) : HX := fun P _ _ _ a m K _ => popX (cindex P s (evX x a) (evX y a)) m K
noncomputable def hExt (x : Operand) (i : Nat) : HX := fun _ _ _ _ a m K _ => popX (cext (evX x a) i) m K
noncomputable def hAlloc (t : TypeId) : HX := fun P _ _ _ _ m K _ => @Option.rec (List Value) (fun _ => Bool) false (fun l => memF (mallocX m (.cells l 0 true)) fun m' => natF m.next fun n => K (.pointer (some ⟨n, 0, none⟩)) m') (zeroL P t)
noncomputable def hBox (x : Operand) : HX := fun _ _ _ _ a m K _ => memF (mallocX m (.cells (toL (evX x a)) 0 true)) fun m' => natF m.next fun n => K (.pointer (some ⟨n, 0, none⟩)) m'
noncomputable def hCallV (f : Operand) (args : Array Operand) : HX := fun _ C Y lo a m K Kp => callvb C Y lo (evX f a) (args.toList.map fun x => evX x a) m K Kp
noncomputable def hCall (c : Call) : HX := @Callee.rec (fun _ => HX) (fun f => hCallV f c.args) (fun _ _ => hB (.call c)) (fun _ => hB (.call c)) c.callee
noncomputable def opX (o : Op) : HX :=
  @Op.rec (fun _ => HX) hMove hMove hPick hAlloc (fun _ v => hBox v) (fun t p => hB (.build t p)) (fun t n p => hB (.buildSlice t n p)) (fun a b c d => hB (.insert a b c d))
    hLoad hStore (fun g => hB (.ready g)) (fun g => hB (.waits g)) hNil (fun op t x y _ => hBin op t x y) (fun op _ x => hUn op x) (fun s d x => hB (.convert s d x)) (fun d x => hB (.sliceToArrayPointer d x)) (fun t x => hB (.makeInterface t x)) (fun f a b => hB (.makeFunc f a b))
    (fun t r => hB (.makeMap t r)) (fun t r => hB (.makeChan t r)) (fun t x y => hB (.makeSlice t x y)) (fun t x l h mx => hB (.slice t x l h mx)) hFa hField hIa hIx (fun a b c d => hB (.lookup a b c d)) (fun a b c d => hB (.mapUpdate a b c d)) (fun a b c => hB (.mapEntry a b c)) (fun a b c d => hB (.entryStore a b c d))
    (fun a b => hB (.range a b)) (fun a b => hB (.next a b)) (fun a => hB (.entry a)) (fun a b c d => hB (.typeAssert a b c d)) hExt hCall (fun c => hB (.go c)) (fun c => hB (.defer c)) (fun c => hB (.panic c)) (fun a b => hB (.send a b)) (fun a b c => hB (.recv a b c)) (fun a b => hB (.select a b)) o
theorem opX_eq (P : Program) (C : CB1) (Y : YB1) (lo : Nat) (o : Op) (a : CA) (m : CM) (K : KB) (Kp : KPB) : opX o P C Y lo a m K Kp = opb P C Y lo o a m K Kp := by
  cases o
  case call c =>
    obtain ⟨ce, args, ts⟩ := c
    cases ce
    · show callvb C Y lo _ _ m K Kp = callvb C Y lo _ _ m K Kp
      simp only [evX_eq]
    · rfl
    · rfl
  case alloc t =>
    show @Option.rec (List Value) (fun _ => Bool) false (fun l => memF (mallocX m (.cells l 0 true)) fun m' => natF m.next fun n => K (.pointer (some ⟨n, 0, none⟩)) m') (zeroL P t) = _
    simp only [mallocX_eq, opb]
    cases zeroL P t <;> rfl
  case box t x =>
    show memF (mallocX m (.cells (toL (evX x a)) 0 true)) (fun m' => natF m.next fun n => K (.pointer (some ⟨n, 0, none⟩)) m') = _
    simp only [mallocX_eq, evX_eq, opb]
  case store t x y =>
    show (fence lo (evX x a) && sopX (stX P t (evX x a) (evX y a) m) K) = (fence lo _ && sopb _ K)
    simp only [evX_eq, stX_eq]
    cases cstore P t (a.ev x) (a.ev y) m <;> rfl
  all_goals first
    | rfl
    | (show popX _ m K = popb _ m K; simp only [popX_eq, evX_eq, ldX_eq, iaX_eq]; done)
    | (show K (evX _ a) m = K _ m; rw [evX_eq]; done)
noncomputable def defX (a : CA) (o : Oper) (r : Option Nat) (K : CA → Bool) : Bool :=
  match r.isNone && o.guard.isNone with
  | true => (match cdefer a o.op with | some d => K (putB ⟨a.n, a.ρ, d :: a.ds⟩ o.dst undef) | none => false)
  | false => false
noncomputable def guX (ops : Array Oper) (a : CA) (g : Option (Nat × Bool)) (X : KB → Bool) (K : KB) (m : CM) : Bool :=
  @Option.rec (Nat × Bool) (fun _ => Bool) (X K) (fun p => gopb (match (ops[p.1]?).bind (·.dst) with | some d => gb (a.ρ d) p.2 | none => none) X K m) g
theorem guX_eq (ops : Array Oper) (o : Oper) (a : CA) (X : KB → Bool) (K : KB) (m : CM) : guX ops a o.guard X K m = gopb (cguard ops o a) X K m := by
  unfold cguard
  cases o.guard with
  | none => rfl
  | some p => rfl
noncomputable def opsX (P : Program) (C : CB1) (Y : YB1) (lo : Nat) (r : Option Nat) (ops : Array Oper) : List Nat → QB → CA → CM → Bool
  | [], Q, a, m => Q .normal a m
  | i :: rest, Q, a, m =>
    @Option.rec Oper (fun _ => Bool) (opsX P C Y lo r ops rest Q a m)
      (fun o => @Bool.rec (fun _ => Bool)
        (guX ops a o.guard (fun K => opX o.op P C Y lo a m K (fun ch m' => Q (.panic ch) a m')) (fun v m' => putX a o.dst v fun a => opsX P C Y lo r ops rest Q a m') m)
        (defX a o r fun a => opsX P C Y lo r ops rest Q a m)
        (isDefer o.op)) (nthX ops.toList i)
section
variable {P : Program} {C : CB1} {Y : YB1} {lf : Nat} {lo : Nat} {r : Option Nat} {ops : Array Oper}
theorem opsX_eq {Q : QB} : ∀ (l : List Nat) (a : CA) (m : CM), opsX P C Y lo r ops l Q a m = opsb P C Y lo r ops l Q a m
  | [], a, m => rfl
  | i :: rest, a, m => by
    simp only [opsX, opsb, nthX_eq, Array.getElem?_toList]
    cases ops[i]? with
    | none => exact opsX_eq rest a m
    | some o =>
      simp only [opsX_eq rest, putX_eq, guX_eq, opX_eq]
      cases isDefer o.op with
      | true =>
        simp only [defX]
        cases (r.isNone && o.guard.isNone) with
        | true => simp only; cases cdefer a o.op <;> rfl
        | false => rfl
      | false => rfl
end
/-- Only the operations that made blocks. -/
noncomputable def overS (sel : Nat → Bool) (m : CM) (S : List (Nat × Ent)) : CM :=
  @List.rec (Nat × Ent) (fun _ => CM → CM) (fun m => m) (fun p _ ih m => ih (@Bool.rec (fun _ => CM) m (ovrE m p.2) (sel p.1))) S m
theorem overS_append (sel : Nat → Bool) : ∀ (S : List (Nat × Ent)) (m : CM) (p : Nat × Ent), overS sel m (S ++ [p]) = (match sel p.1 with | true => overE (overS sel m S) p.2 | false => overS sel m S)
  | [], m, p => by
    show (@Bool.rec (fun _ => CM) m (ovrE m p.2) (sel p.1)) = _
    rw [ovrE_eq]
    cases sel p.1 <;> rfl
  | q :: S, m, p => overS_append sel S (@Bool.rec (fun _ => CM) m (ovrE m q.2) (sel q.1)) p
theorem overL_append (sel : Nat → Bool) (e : Ent) : ∀ (E : List Ent) (i : Nat) (m : CM), overL sel i (E ++ [e]) m = (match sel (i + E.length) with | true => overE (overL sel i E m) e | false => overL sel i E m)
  | [], i, m => by
    simp only [List.nil_append, overL_cons]
    simp only [overL, List.length_nil, Nat.add_zero]
    cases sel i <;> rfl
  | f :: E, i, m => by
    simp only [List.cons_append, overL_cons]
    rw [overL_append sel e E (i + 1)]
    simp only [List.length_cons, Nat.add_assoc, Nat.add_comm 1]
def SE (E : List Ent) (S : List (Nat × Ent)) : Prop := ∀ sel m, overL sel 0 E m = overS sel m S
theorem SE.none {E : List Ent} {S : List (Nat × Ent)} (h : SE E S) (v : Value) (nx : Nat) : SE (E ++ [⟨v, nx, none⟩]) S := by
  intro sel m
  rw [overL_append, h sel m]
  cases sel (0 + E.length) <;> rfl
theorem SE.some {E : List Ent} {S : List (Nat × Ent)} (h : SE E S) (e : Ent) : SE (E ++ [e]) (S ++ [(E.length, e)]) := by
  intro sel m
  rw [overL_append, overS_append, h sel m, Nat.zero_add]
noncomputable def memX (f : Bool) (m0 : CM) (S : List (Nat × Ent)) (sel : Nat → Bool) (nx : Nat) : CM := @Bool.rec (fun _ => CM) ⟨m0.t, nx⟩ ⟨(overS sel m0 S).t, nx⟩ f
theorem memX_eq {f : Bool} {m0 : CM} {E : List Ent} {S : List (Nat × Ent)} (h : SE E S) (sel : Nat → Bool) (nx : Nat) : memX f m0 S sel nx = memQ f m0 E [] sel nx := by
  cases f with
  | false => rfl
  | true =>
    show (⟨(overS sel m0 S).t, nx⟩ : CM) = memL m0 E [] sel nx
    simp only [memL, layW, memJ, h sel m0]
noncomputable def drawX (P : Program) (C : CB1) (Y : YB1) (lo : Nat) (ops : Array Oper) (m0 : CM) (LI : List (Nat × Nat)) (K : CA → CM → Bool) : Nat → Nat → Bool → List Ent → List (Nat × Ent) → CA → Nat → Bool
  | 0, j0, f, E, S, a, nx => K a (memX f m0 S (fun _ => true) nx)
  | k + 1, j0, f, E, S, a, nx =>
    @Option.rec Oper (fun _ => Bool) false
      (fun o => @Option.rec Nat (fun _ => Bool)
        (@Option.rec Bool (fun _ => Bool) false
          (fun b => @Bool.rec (fun _ => Bool)
            (natF (j0 + 1) fun j1 => putX a o.dst undef fun a => drawX P C Y lo ops m0 LI K k j1 f (E ++ [⟨undef, nx, none⟩]) S a nx)
            (@Bool.rec (fun _ => Bool)
              (@Bool.rec (fun _ => Bool)
                (opX o.op P C Y nx (maskB a (looks ops o)) (memX f m0 S (fun i => Nat.testBit (preM ops j0) i) nx) (fun v m' => natF (j0 + 1) fun j1 => putX a o.dst v fun a => drawX P C Y lo ops m0 LI K k j1 true (E ++ [⟨v, nx, some m'⟩]) (S ++ [(j0, ⟨v, nx, some m'⟩)]) a m'.next) (fun _ _ => false))
                (stillSt P o.op (maskB a (looks ops o)) (memX f m0 S (fun i => Nat.testBit (preM ops j0) i) nx) && natF (j0 + 1) fun j1 => putX a o.dst undef fun a => drawX P C Y lo ops m0 LI K k j1 f (E ++ [⟨undef, nx, none⟩]) S a nx)
                (isStore o.op))
              (opX o.op P C Y lo (maskB a (looks ops o)) (memX f m0 S (fun i => Nat.testBit (preM ops j0) i) nx) (fun v _ => natF (j0 + 1) fun j1 => putX a o.dst v fun a => drawX P C Y lo ops m0 LI K k j1 f (E ++ [⟨v, nx, none⟩]) S a nx) (fun _ _ => false))
              (still o.op))
            b) (cguard ops o a))
        (fun i => drawc P C Y lo ops m0 LI K (k + 1) j0 f E [] a nx)
        (lookN LI j0)) (nthX ops.toList j0)
section
variable {P : Program} {C : CB1} {Y : YB1} {lf : Nat} {lo : Nat} {r : Option Nat} {ops : Array Oper}
theorem drawX_eq {m0 : CM} {LI : List (Nat × Nat)} {K : CA → CM → Bool} : ∀ (k j0 : Nat) (f : Bool) (E : List Ent) (S : List (Nat × Ent)) (a : CA) (nx : Nat), SE E S → j0 = E.length →
    drawX P C Y lo ops m0 LI K k j0 f E S a nx = drawc P C Y lo ops m0 LI K k j0 f E [] a nx
  | 0, j0, f, E, S, a, nx, h, _ => by simp only [drawX, drawc, memX_eq h]
  | k + 1, j0, f, E, S, a, nx, h, hj => by
    have e1 : ∀ (f : Bool) (v : Value) (a : CA), drawX P C Y lo ops m0 LI K k (j0 + 1) f (E ++ [⟨v, nx, none⟩]) S a nx = drawc P C Y lo ops m0 LI K k (j0 + 1) f (E ++ [⟨v, nx, none⟩]) [] a nx := fun f v a => drawX_eq k _ f _ _ a nx (h.none v nx) (by simp [hj])
    have e2 : ∀ (v : Value) (m' : CM) (a : CA), drawX P C Y lo ops m0 LI K k (j0 + 1) true (E ++ [⟨v, nx, some m'⟩]) (S ++ [(j0, ⟨v, nx, some m'⟩)]) a m'.next = drawc P C Y lo ops m0 LI K k (j0 + 1) true (E ++ [⟨v, nx, some m'⟩]) [] a m'.next := fun v m' a => drawX_eq k _ true _ _ a _ (by rw [hj]; exact h.some _) (by simp [hj])
    simp only [drawX, natF_eq, e1, e2, putX_eq, opX_eq, memX_eq h, nthX_eq, Array.getElem?_toList]
    cases ho : ops[j0]? with
    | none => rw [drawc]; simp only [ho]
    | some o =>
      simp only
      cases hl : lookN LI j0 with
      | some i => rfl
      | none =>
        simp only
        rw [drawc]
        simp only [ho, hl, natF_eq]
        cases cguard ops o a with
        | none => rfl
        | some b =>
          cases b with
          | false => rfl
          | true =>
            simp only
            cases still o.op with
            | true => rfl
            | false =>
              simp only
              cases isStore o.op <;> rfl
end
/-- A hint: what a piece of text reads before it writes it (only a hint: any list will do). -/
def addH (l : List Nat) (t : Nat) : List Nat := match memT l t with | true => l | false => t :: l
def rdO (s : List Nat × List Nat) (x : Operand) : List Nat × List Nat := match x with | .tmp t => (match memT s.1 t with | true => s | false => (s.1, addH s.2 t)) | _ => s
def exposeC : Code → List Nat × List Nat → List Nat × List Nat
  | .region _ ops _, s => ops.toList.foldl (fun s o => let s := o.op.operands.toList.foldl rdO s; match o.dst with | some d => (d :: s.1, s.2) | none => s) s
  | .seq x y, s => exposeC y (exposeC x s)
  | .cond c x y, s => exposeC y (exposeC x (rdO s c))
  | .block _ x, s => exposeC x s
  | .loop x, s => exposeC x s
  | .scope x, s => exposeC x s
  | .rangeFunc f _ _ bd, s => exposeC bd (rdO s f)
  | _, s => s
def hintX (x : Code) (L : List Nat) : List Nat := (exposeC x ([], [])).2.foldl addH L
noncomputable def loopX (h : List Nat) (n : Nat) (B : (CA → CM → Bool) → CA → CM → Bool) : CA → CM → Bool :=
  @Nat.rec (fun _ => CA → CM → Bool) (fun _ _ => false) (fun _ ih a m => packX h a a fun a => B ih a m) n
theorem loopX_eq (h : List Nat) (B : (CA → CM → Bool) → CA → CM → Bool) : ∀ (n : Nat) (a : CA) (m : CM), loopX h n B a m = loopb n B a m
  | 0, a, m => rfl
  | n + 1, a, m => by
    have e : loopX h n B = loopb n B := by funext a m; exact loopX_eq h B n a m
    show packX h a a (fun a => B (loopX h n B) a m) = B (fun a m => loopb n B a m) a m
    rw [packX_eq h a a _ (fun _ => rfl), e]
noncomputable def hReg (P : Program) (C : CB1) (Y : YB1) (lo : Nat) (r : Option Nat) (ops : Array Oper) (d : Bool) (Q : QB) (a : CA) (m : CM) : Bool :=
  @Bool.rec (fun _ => Bool) (opsX P C Y lo r ops (List.range ops.size) Q a m)
    (drawX P C Y lo ops m (liE ops (n1Of ops)) (fun a' m' => opsX P C Y lo r ops ((List.range ops.size).drop (n1Of ops)) Q a' m') (n1Of ops) 0 false [] [] a m.next) d
noncomputable def hCond (c : Operand) (x y : CA → CM → Bool) (a : CA) (m : CM) : Bool := match a.ev c with | .bool true => x a m | .bool false => y a m | _ => false
def hScp (Q : QB) : QB := fun e a m => match e with | .goto _ => false | e => Q e a m
noncomputable def wpX (P : Program) (C : CB1) (Y : YB1) (lf lo : Nat) (r : Option Nat) (c : Code) : List Nat → QB → CA → CM → Bool :=
  @Code.rec (fun _ => List Nat → QB → CA → CM → Bool) (fun _ Q a m => Q .normal a m) (fun _ ops d _ Q a m => hReg P C Y lo r ops d Q a m)
    (fun _ _ X Y L Q a m => X L (thenB (Y L Q) Q) a m) (fun c _ _ X Y L Q a m => hCond c (X L Q) (Y L Q) a m) (fun id _ X L Q a m => X L (inBlkB id Q) a m)
    (fun x X L Q a m => loopX (hintX x L) lf (fun K a m => X (hintX x L) (thenB K Q) a m) a m) (fun f ps as bd _ _ _ Q a m => rfb C lo r f ps as bd Q a m)
    (fun id _ Q a m => Q (.exit id) a m) (fun _ X L Q a m => X L (hScp Q) a m) (fun _ _ Q a m => Q .normal a m) (fun id _ Q a m => Q (.goto id) a m) (fun _ Q a m => Q .ret a m) (fun _ _ _ _ _ => false) c
section
variable {P : Program} {C : CB1} {Y : YB1} {lf : Nat} {lo : Nat} {r : Option Nat}
theorem wpX_eq : ∀ (c : Code) (L : List Nat) (Q : QB) (a : CA) (m : CM), wpX P C Y lf lo r c L Q a m = wpb P C Y lf lo r c Q a m
  | .skip, L, Q, a, m => rfl
  | .label _, L, Q, a, m => rfl
  | .exit id, L, Q, a, m => rfl
  | .goto id, L, Q, a, m => rfl
  | .ret, L, Q, a, m => rfl
  | .seq x y, L, Q, a, m => by
    have e : wpX P C Y lf lo r y L Q = fun a m => wpb P C Y lf lo r y Q a m := by funext a m; exact wpX_eq y L Q a m
    show wpX P C Y lf lo r x L (thenB (wpX P C Y lf lo r y L Q) Q) a m = _
    rw [e, wpX_eq x]
    simp only [wpb]
  | .cond c x y, L, Q, a, m => by
    have e1 : wpX P C Y lf lo r x L Q = wpb P C Y lf lo r x Q := by funext a m; exact wpX_eq x L Q a m
    have e2 : wpX P C Y lf lo r y L Q = wpb P C Y lf lo r y Q := by funext a m; exact wpX_eq y L Q a m
    show hCond c (wpX P C Y lf lo r x L Q) (wpX P C Y lf lo r y L Q) a m = _
    rw [e1, e2]
    simp only [wpb]
    rfl
  | .block id x, L, Q, a, m => by
    show wpX P C Y lf lo r x L (inBlkB id Q) a m = _
    rw [wpX_eq x]
    simp only [wpb]
  | .loop x, L, Q, a, m => by
    show loopX (hintX x L) lf (fun K a m => wpX P C Y lf lo r x (hintX x L) (thenB K Q) a m) a m = _
    simp only [loopX_eq, wpX_eq x, wpb]
  | .region _ ops d, L, Q, a, m => by
    show hReg P C Y lo r ops d Q a m = _
    cases d with
    | true =>
      simp only [hReg, wpb, opsX_eq]
      exact drawX_eq _ _ _ _ _ _ _ (fun _ _ => rfl) rfl
    | false => simp only [hReg, wpb, opsX_eq]
  | .rangeFunc f ps as bd, L, Q, a, m => rfl
  | .scope x, L, Q, a, m => by
    show wpX P C Y lf lo r x L (hScp Q) a m = _
    rw [wpX_eq x]
    simp only [wpb]
    rfl
  | .refuse _, L, _, _, _ => rfl
end
noncomputable def defX' (P : Program) (C : CB1) (Y : YB1) (lf lo : Nat) (g : FuncId) (args : List Value) (u : CMd) (m : CM) (K : CMd → CM → Bool) : Bool :=
  match P.funcs[g]? with
  | some fn => (match fn.body with
    | some (.seq (.region _ ⟨[o0, o1]⟩ false) rest) =>
      (match fnB fn args.length && isRec o0 o1 fn.ntmps && codeOkE fn.ntmps rest with
      | true => wpX P C Y lf lo none rest [] (fun e a m' => endB P fn (K (recA u).2 m') e a m') (((enterA fn args).put o0.dst (recA u).1).put o1.dst (recA u).1) m
      | false => false)
    | _ => false)
  | none => false
noncomputable def yX (P : Program) (C : CB1) (lf : Nat) : YB1 := fun lo l args m K =>
  match m.get l with
  | some (.loop L) =>
    (match Nat.ble lo l && Nat.beq args.length L.params.length && codeOkE L.a.n L.assign && codeOkE L.a.n L.body && L.params.all (fun t => dOk L.a.n (some t)) with
    | true => wpX P C (fun _ _ _ _ _ => false) lf lo (some l) L.assign [] (roundMid l (fun a m => wpX P C (fun _ _ _ _ _ => false) lf lo (some l) L.body [] (roundEnd l K) a m)) (roundA L args) m
    | false => false)
  | _ => false
noncomputable def bodyX (P : Program) (C : CB1) (lf : Nat) : CB1 := fun lo f args m K Kp =>
  match P.funcs[f]? with
  | some fn => (match fn.body with
    | some c => (match fnB fn args.length && codeOkE fn.ntmps c with
      | true => wpX P C (yX P C lf) lf lo none c [] (leaveXB P lo (defX' P C (yX P C lf) lf lo) fn.results.toList (RKB K Kp)) (enterA fn args) m
      | false => false)
    | none => false)
  | none => false
noncomputable def callX (P : Program) (lf : Nat) : Nat → CB1
  | 0 => fun _ _ _ _ _ _ => false
  | n + 1 => bodyX P (callX P lf n) lf
theorem defX_eq {P : Program} {C : CB1} {Y : YB1} {lf lo : Nat} : defX' P C Y lf lo = defB P C Y lf lo := by
  funext g args u m K
  unfold defX' defB
  simp only [wpX_eq]
  rfl
theorem yX_eq {P : Program} {C : CB1} {lf : Nat} : yX P C lf = yb P C lf := by
  funext lo l args m K
  unfold yX yb
  simp only [wpX_eq]
  rfl
theorem bodyX_eq {P : Program} {C : CB1} {lf : Nat} : bodyX P C lf = bodyb P C lf := by
  funext lo f args m K Kp
  unfold bodyX bodyb
  simp only [wpX_eq, yX_eq, defX_eq]
  rfl
theorem callX_eq {P : Program} {lf : Nat} : ∀ n, callX P lf n = callF P lf n
  | 0 => rfl
  | n + 1 => by simp only [callX, callF, bodyX_eq, callX_eq n]
/-- With a summary laid over some functions. -/
noncomputable def callO (P : Program) (O : CB1 → CB1) (lf : Nat) : Nat → CB1
  | 0 => fun _ _ _ _ _ _ => false
  | n + 1 => O (bodyX P (callO P O lf n) lf)
theorem callO_ok {P : Program} (hmx : P.follows .mixedOrders = true) {O : CB1 → CB1} {lf : Nat} (hO : ∀ C, CbOk P C → CbOk P (O C)) : ∀ n, CbOk P (callO P O lf n)
  | 0 => fun _ _ _ _ _ _ _ h => by cases h
  | n + 1 => by
    have h : CbOk P (bodyX P (callO P O lf n) lf) := by rw [bodyX_eq]; exact bodyb_ok hmx (callO_ok hmx hO n)
    exact hO _ h
def isTrueO : KB := fun v _ => match v with | .bool b => b | _ => false
/-- A closed call that was carried out with summaries. -/
theorem closedO {P : Program} (hmx : P.follows .mixedOrders = true) {O : CB1 → CB1} (hO : ∀ C, CbOk P C → CbOk P (O C)) {lf n : Nat} {f : FuncId} (h : callO P O lf n 0 f [] ⟨.nil, 0⟩ isTrueO (fun _ _ => false) = true) (M : CM) :
    callw P f [] M (fun v m' => v = .bool true ∧ M.le m') (fun _ _ => False) := by
  obtain ⟨e, m1, hc, hk⟩ := callO_ok (lf := lf) hmx hO n 0 f [] ⟨.nil, 0⟩ isTrueO (fun _ _ => false) (Nat.le_refl _) h
  obtain ⟨M', hM, hn, _, hfar⟩ := hc.move (M := M) (fun b => M.next + b) (fun b x hx => by simp [CM.get, T.get] at hx) (fun b hb => by simp at hb) (fun a b ha => by simp at ha) (fun b _ => by simp) (fun b x y hx => by simp [CM.get, T.get] at hx) (Nat.zero_le _)
  refine ⟨renE (fun b => M.next + b) e, M', hM, ?_⟩
  cases e with
  | ret v =>
    obtain ⟨_, hv⟩ := hk
    have : v = .bool true := by
      unfold isTrueO at hv
      split at hv
      · rename_i b; rw [hv]
      · cases hv
    subst this
    refine ⟨by simp [ren], ⟨by rw [hn]; simp, fun b hb => hfar b hb (fun c x hx => by simp [CM.get, T.get] at hx)⟩⟩
  | pan ch => obtain ⟨_, hv⟩ := hk; cases hv
end Go.Proofs.Ytjkfleibnojjaaa
