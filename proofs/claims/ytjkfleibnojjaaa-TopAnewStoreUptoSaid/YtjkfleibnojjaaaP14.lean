/- Part 14 of 23 of the proof that the law TopAnewStore returns true and leaves its argument as it read before, for every input that the bounded statement admits (what it reads is of bulk at most 1048576). -/
import Derived.Test.YtjkfleibnojjaaaP02
import Derived.Test.YtjkfleibnojjaaaP04
namespace Go.Proofs.Ytjkfleibnojjaaa
open Go

/-! ### A closed call, carried out -/
abbrev KB := Value → CM → Bool
abbrev KPB := List PanicEntry → CM → Bool
/-- The first number: what lies below it is not written. -/
abbrev CB1 := Nat → FuncId → List Value → CM → KB → KPB → Bool
abbrev YB1 := Nat → Nat → List Value → CM → KB → Bool
/-! For the kernel's sake: numbers are worked out before they are handed on. -/
def natF {α : Type} (n : Nat) (K : Nat → α) : α := match n with | .zero => K .zero | .succ n => K (.succ n)
theorem natF_eq {α : Type} (n : Nat) (K : Nat → α) : natF n K = K n := by cases n <;> rfl
def intF {α : Type} (n : Int) (K : Int → α) : α := match n with | .ofNat n => natF n fun n => K (.ofNat n) | .negSucc n => natF n fun n => K (.negSucc n)
theorem intF_eq {α : Type} (n : Int) (K : Int → α) : intF n K = K n := by cases n <;> simp only [intF, natF_eq]
def valF {α : Type} (v : Value) (K : Value → α) : α :=
  match v with
  | .int k n => intF n fun n => K (.int k n)
  | .pointer (some ⟨b, o, s⟩) => natF b fun b => natF o fun o => K (.pointer (some ⟨b, o, s⟩))
  | .slice (some ⟨b, o, s⟩) l k => natF b fun b => natF o fun o => natF l fun l => natF k fun k => K (.slice (some ⟨b, o, s⟩) l k)
  | v => K v
theorem valF_eq {α : Type} (v : Value) (K : Value → α) : valF v K = K v := by
  unfold valF
  split <;> simp only [intF_eq, natF_eq]
def memF {α : Type} (m : CM) (K : CM → α) : α := natF m.next fun n => match m.t with | .nil => K ⟨.nil, n⟩ | .node l v r => K ⟨.node l v r, n⟩
theorem memF_eq {α : Type} (m : CM) (K : CM → α) : memF m K = K m := by
  unfold memF
  rw [natF_eq]
  obtain ⟨t, n⟩ := m
  cases t <;> rfl
def iltb (a b : Int) : Bool := match a, b with | .ofNat m, .ofNat n => Nat.blt m n | .negSucc m, .negSucc n => Nat.blt n m | .negSucc _, .ofNat _ => true | .ofNat _, .negSucc _ => false
theorem iltb_eq (a b : Int) : iltb a b = decide (a < b) := by
  cases a <;> cases b <;> simp only [iltb] <;> apply Bool.eq_iff_iff.2 <;> simp [Nat.blt_eq] <;> omega
def ieqb (a b : Int) : Bool := match a, b with | .ofNat m, .ofNat n => Nat.beq m n | .negSucc m, .negSucc n => Nat.beq m n | _, _ => false
theorem ieqb_eq (a b : Int) : ieqb a b = (a == b) := by
  cases a <;> cases b <;> simp only [ieqb] <;> apply Bool.eq_iff_iff.2 <;> simp [Nat.beq_eq] <;> omega
def wrapF (n : Int) : Int :=
  match n with
  | .ofNat m => (match Nat.blt m 9223372036854775808 with | true => .ofNat m | false => IntKind.i64.wrap (.ofNat m))
  | .negSucc m => (match Nat.blt m 9223372036854775808 with | true => .negSucc m | false => IntKind.i64.wrap (.negSucc m))
theorem wrapF_eq (n : Int) : wrapF n = IntKind.i64.wrap n := by
  unfold wrapF
  cases n with
  | ofNat m =>
    simp only
    cases h : Nat.blt m 9223372036854775808 with
    | false => rfl
    | true =>
      have : m < 9223372036854775808 := by simpa [Nat.blt_eq] using h
      simp only
      exact (wrap_id (n := Int.ofNat m) (by simp only [Int.ofNat_eq_natCast]; omega) (by simp only [Int.ofNat_eq_natCast]; omega)).symm
  | negSucc m =>
    simp only
    cases h : Nat.blt m 9223372036854775808 with
    | false => rfl
    | true =>
      have : m < 9223372036854775808 := by simpa [Nat.blt_eq] using h
      simp only
      exact (wrap_id (n := Int.negSucc m) (by omega) (by omega)).symm
def cbinF (P : Program) (op : BinOp) (t : TypeId) (x y : Operand) (u v : Value) : Option Value :=
  match u, v with
  | .int .i64 a, .int .i64 b =>
    (match op with
    | .add => some (.int .i64 (wrapF (a + b)))
    | .sub => some (.int .i64 (wrapF (a - b)))
    | .mul => some (.int .i64 (wrapF (a * b)))
    | .lss => some (.bool (iltb a b))
    | .gtr => some (.bool (iltb b a))
    | .eql => some (.bool (ieqb a b))
    | .neq => some (.bool !(ieqb a b))
    | op => cbin P op t x y (.int .i64 a) (.int .i64 b))
  | .int .i32 a, .int .i32 b =>
    (match op with
    | .lss => some (.bool (iltb a b))
    | .gtr => some (.bool (iltb b a))
    | .eql => some (.bool (ieqb a b))
    | .neq => some (.bool !(ieqb a b))
    | op => cbin P op t x y (.int .i32 a) (.int .i32 b))
  | u, v => cbin P op t x y u v
theorem cbinF_eq (P : Program) (op : BinOp) (t : TypeId) (x y : Operand) (u v : Value) : cbinF P op t x y u v = cbin P op t x y u v := by
  unfold cbinF
  split
  · split <;> simp only [wrapF_eq, iltb_eq, ieqb_eq, cb_add, cb_sub, cb_mul, cb_lss, cb_gtr, cb_eql, cb_neq] <;> rfl
  · split <;> simp only [wrapF_eq, iltb_eq, ieqb_eq, cb_lss, cb_gtr, cb_eql, cb_neq] <;> rfl
  · rfl
def popb (x : Option Value) (m : CM) (K : KB) : Bool := match x with | some v => valF v fun v => K v m | none => false
def vopb (x : Option (Value × CM)) (K : KB) : Bool := match x with | some (v, m) => memF m fun m => valF v fun v => K v m | none => false
def sopb (x : Option CM) (K : KB) : Bool := match x with | some m => memF m fun m => K undef m | none => false
def panb (x : Value) (m : CM) (Kp : KPB) : Bool := match x with | .iface _ _ => Kp [{ v := x, recovered := false }] m | _ => false
def fence (lo : Nat) (v : Value) : Bool :=
  match v with
  | .slice (some a) _ _ => Nat.ble lo a.block
  | .pointer (some a) => Nat.ble lo a.block
  | .map (some b) => Nat.ble lo b
  | _ => true
def callvb (C : CB1) (Y : YB1) (lo : Nat) (fv : Value) (args : List Value) (m : CM) (K : KB) (Kp : KPB) : Bool :=
  match fv with
  | .func (.func g) ⟨f⟩ ⟨c⟩ => C lo g (f ++ args ++ c) m K Kp
  | .func (.yield l) ⟨[]⟩ ⟨[]⟩ => Y lo l args m K
  | _ => false
def bltb (P : Program) (lo : Nat) (b : Builtin) (ts : List TypeId) (args : List Value) (m : CM) (K : KB) (Kp : KPB) : Bool :=
  match b, ts, args with
  | .len, t :: _, [x] => popb (clen P t x m) m K
  | .append, ts, [x, y] => fence lo x && vopb (cappend P ts x y m) K
  | .copy, ts, [x, y] => fence lo x && vopb (ccopy P ts x y m) K
  | .min, _, args => popb (cmm P .min args) m K
  | .max, _, args => popb (cmm P .max args) m K
  | .panic, _, [x] => panb x m Kp
  | _, _, _ => false
def methb (P : Program) (C : CB1) (lo : Nat) (x : Value) (name : String) (args : List Value) (m : CM) (K : KB) (Kp : KPB) : Bool :=
  match x with
  | .iface t v => (match methD P t name with | some f => C lo f (v :: args) m K Kp | none => false)
  | _ => false
def opb (P : Program) (C : CB1) (Y : YB1) (lo : Nat) (o : Op) (a : CA) (m : CM) (K : KB) (Kp : KPB) : Bool :=
  match o with
  | .move x | .assign x => K (a.ev x) m
  | .pick c x y => popb (cpick (a.ev c) (a.ev x) (a.ev y)) m K
  | .alloc t => match zeroL P t with | some l => memF (m.alloc (.cells l 0 true)) fun m' => natF m.next fun n => K (.pointer (some ⟨n, 0, none⟩)) m' | none => false
  | .box _ x => memF (m.alloc (.cells (toL (a.ev x)) 0 true)) fun m' => natF m.next fun n => K (.pointer (some ⟨n, 0, none⟩)) m'
  | .build t ps => popb (cbuild P t (ps.toList.map fun p => (p.1, a.ev p.2))) m K
  | .buildSlice t n ps => vopb (cbuildS P t n (ps.toList.map fun p => (p.1, a.ev p.2)) m) K
  | .load t x => popb (cload P t (a.ev x) m) m K
  | .store t x y => fence lo (a.ev x) && sopb (cstore P t (a.ev x) (a.ev y) m) K
  | .nilCheck x => popb (cnilm P (a.ev x)) m K
  | .binOp op t x y _ => popb (cbinF P op t x y (a.ev x) (a.ev y)) m K
  | .unOp op _ x => popb (cun P op (a.ev x)) m K
  | .convert s d x => popb (cconv P s d (a.ev x)) m K
  | .makeInterface t x => popb (cmkI P t (a.ev x)) m K
  | .makeFunc fn f c => K (.func fn ⟨f.toList.map a.ev⟩ ⟨c.toList.map a.ev⟩) m
  | .makeSlice t l c => vopb (cmakeS P t (a.ev l) (a.ev c) m) K
  | .slice t x lo hi mx => popb (cslice P t (a.ev x) (lo.map a.ev) (hi.map a.ev) (mx.map a.ev) m) m K
  | .fieldAddr s x f => popb (cfa P s f (a.ev x)) m K
  | .field t x f => popb (cfield P t (a.ev x) f) m K
  | .indexAddr t x i => popb (cia P t (a.ev x) (a.ev i)) m K
  | .index t x i => popb (cindex P t (a.ev x) (a.ev i)) m K
  | .extract x i => popb (cext (a.ev x) i) m K
  | .typeAssert x _ t ok => popb (cassert P (a.ev x) t ok) m K
  | .range t x => vopb (crange P t (a.ev x) m) K
  | .next x isS => fence lo (a.ev x) && vopb (cnext (a.ev x) isS m) K
  | .makeMap _ none => memF (m.alloc (.map [])) fun m' => natF m.next fun n => K (.map (some n)) m'
  | .lookup t x k ok => popb (clkF P t (a.ev x) (a.ev k) ok m) m K
  | .mapUpdate t x k v => fence lo (a.ev x) && sopb (cmapUF P t (a.ev x) (a.ev k) (a.ev v) m) K
  | .panic x => panb (a.ev x) m Kp
  | .call { callee := .builtin b, args, argTypes } => bltb P lo b argTypes.toList (args.toList.map a.ev) m K Kp
  | .call { callee := .value f, args, .. } => callvb C Y lo (a.ev f) (args.toList.map a.ev) m K Kp
  | .call { callee := .invoke x name, args, .. } => methb P C lo (a.ev x) name (args.toList.map a.ev) m K Kp
  | _ => false
abbrev QB := Exit → CA → CM → Bool
def gopb (g : Option Bool) (X : KB → Bool) (K : KB) (m : CM) : Bool := match g with | some true => X K | some false => K undef m | none => false
def putB (a : CA) (dst : Option Tmp) (v : Value) : CA :=
  match dst with
  | some d => { a with ρ := fun t => match Nat.beq t d with | true => v | false => a.ρ t }
  | none => a
theorem putB_eq (a : CA) (dst : Option Tmp) (v : Value) : putB a dst v = a.put dst v := by
  cases dst with
  | none => rfl
  | some d =>
    simp only [putB, CA.put]
    congr 1
    funext t
    by_cases h : t = d
    · subst h; simp
    · have : Nat.beq t d = false := by
        cases hb : Nat.beq t d with
        | false => rfl
        | true => exact absurd (Nat.eq_of_beq_eq_true hb) h
      simp [this, h]
def opsb (P : Program) (C : CB1) (Y : YB1) (lo : Nat) (r : Option Nat) (ops : Array Oper) : List Nat → QB → CA → CM → Bool
  | [], Q, a, m => Q .normal a m
  | i :: rest, Q, a, m =>
    match ops[i]? with
    | none => opsb P C Y lo r ops rest Q a m
    | some o =>
      match isDefer o.op with
      | true => (match r.isNone && o.guard.isNone with
        | true => (match cdefer a o.op with | some d => opsb P C Y lo r ops rest Q (putB { a with ds := d :: a.ds } o.dst undef) m | none => false)
        | false => false)
      | false => gopb (cguard ops o a) (fun K => opb P C Y lo o.op a m K (fun ch m' => Q (.panic ch) a m')) (fun v m' => opsb P C Y lo r ops rest Q (putB a o.dst v) m') m
/-- Does a store change nothing? -/
def sameV : Value → Value → Bool
  | .int .i64 a, .int .i64 b => decide (a = b)
  | .bool a, .bool b => a == b
  | _, _ => false
def sameL : List Value → List Value → Bool
  | [], [] => true
  | a :: l, b :: k => sameV a b && sameL l k
  | _, _ => false
theorem sameV_eq : ∀ {a b : Value}, sameV a b = true → a = b := by
  intro a b h
  unfold sameV at h
  split at h
  · simp at h; subst h; rfl
  · simp at h; subst h; rfl
  · cases h
theorem sameL_eq : ∀ {a b : List Value}, sameL a b = true → a = b
  | [], [], _ => rfl
  | a :: l, b :: k, h => by simp only [sameL, Bool.and_eq_true] at h; rw [sameV_eq h.1, sameL_eq h.2]
  | [], _ :: _, h => by simp [sameL] at h
  | _ :: _, [], h => by simp [sameL] at h
def stillSt (P : Program) (o : Op) (a : CA) (m : CM) : Bool :=
  match o with
  | .store t x y => (match a.ev x with
    | .pointer (some ⟨b, _, none⟩) => (match cstore P t (a.ev x) (a.ev y) m with
      | some m' => (match m.get b, m'.get b with
        | some (.cells c e true), some (.cells c' e' true) => sameL c' c && Nat.beq e' e
        | _, _ => false)
      | none => false)
    | _ => false)
  | _ => false
def isMk (o : Oper) (p : Tmp) : Bool := (match o.op with | .alloc _ => true | .box _ _ => true | _ => false) && (match o.dst with | some d => Nat.beq d p | none => false)
def stTmp (o : Op) : Option Tmp := match o with | .store _ (.tmp p) _ => some p | _ => none
/-- The stores into blocks that the region itself makes, and those into old ones that may come late. -/
def liE (ops : Array Oper) (n1 : Nat) : List (Nat × Nat) :=
  (List.range n1).filterMap fun j =>
    match ops[j]? with
    | some o => (match stTmp o.op with
      | some p => (match (List.range j).find? fun i => match ops[i]? with | some o => isMk o p | none => false with
        | some i => some (j, i)
        | none => (match o.guard.isNone && lateOk ops j j with | true => some (j, j) | false => none))
      | none => none)
    | none => none
def apartB : List Value → Nat → Bool
  | [], _ => true
  | v :: l, b => (match v with | .pointer (some ⟨c, _, none⟩) => !Nat.beq c b | .tuple ⟨[]⟩ => true | _ => false) && apartB l b
theorem apartB_ok : ∀ {l : List Value} {b : Nat}, apartB l b = true → apartL l b
  | [], _, _ => trivial
  | v :: l, b, h => by
    simp only [apartB, Bool.and_eq_true] at h
    refine ⟨?_, apartB_ok h.2⟩
    have h1 := h.1
    split at h1
    · rename_i c o
      simp only [Bool.not_eq_true'] at h1
      intro e; subst e; rw [Nat.beq_refl] at h1; cases h1
    · trivial
    · cases h1
def memT (l : List Nat) (t : Nat) : Bool := match l with | [] => false | x :: l => match Nat.beq t x with | true => true | false => memT l t
theorem memT_eq : ∀ (l : List Nat) (t : Nat), memT l t = l.contains t
  | [], _ => rfl
  | x :: l, t => by
    simp only [memT, List.contains_cons]
    cases h : Nat.beq t x with
    | true => have := Nat.eq_of_beq_eq_true h; subst this; simp
    | false =>
      have : (t == x) = false := by
        cases hb : (t == x) with
        | false => rfl
        | true =>
          have : t = x := by simpa using hb
          subst this; simp at h
      rw [this, memT_eq l t]; rfl
def maskB (a : CA) (l : List Tmp) : CA := { a with ρ := fun t => match memT l t with | true => a.ρ t | false => undef }
theorem maskB_eq (a : CA) (l : List Tmp) : maskB a l = maskA a l := by
  simp only [maskB, maskA]
  congr 1
  funext t
  rw [memT_eq]
  cases l.contains t <;> rfl
def memQ (f : Bool) (m0 : CM) (E : List Ent) (W : List (Nat × Nat × CB)) (sel : Nat → Bool) (nx : Nat) : CM := match f with | true => memL m0 E W sel nx | false => ⟨m0.t, nx⟩
theorem overL_none (sel : Nat → Bool) : ∀ (E : List Ent) (i : Nat) (m : CM), (∀ e ∈ E, e.m = none) → overL sel i E m = m
  | [], _, _, _ => rfl
  | e :: E, i, m, h => by
    have he := h e (by simp)
    simp only [overL, he]
    exact overL_none sel E (i + 1) m fun x hx => h x (by simp [hx])
theorem memQ_eq {f : Bool} {m0 : CM} {E : List Ent} {W : List (Nat × Nat × CB)} (h : f = false → W = [] ∧ ∀ e ∈ E, e.m = none) (sel : Nat → Bool) (nx : Nat) : memQ f m0 E W sel nx = memL m0 E W sel nx := by
  cases f with
  | true => rfl
  | false =>
    obtain ⟨rfl, hE⟩ := h rfl
    simp only [memQ, memL, layW, memJ, overL_none sel E 0 m0 hE]
def drawb (P : Program) (C : CB1) (Y : YB1) (lo : Nat) (ops : Array Oper) (m0 : CM) (LI : List (Nat × Nat)) (K : CA → CM → Bool) : Nat → List Ent → List (Nat × Nat × CB) → CA → Nat → Bool
  | 0, E, W, a, nx => K a (memL m0 E W (fun _ => true) nx)
  | k + 1, E, W, a, nx =>
    natF E.length fun j0 =>
    match ops[j0]? with
    | none => false
    | some o =>
      match lookN LI j0 with
      | some i =>
        (match o.guard, o.op with
        | none, .store t x y =>
          (match (maskB a (looks ops o)).ev x, cstore P t ((maskB a (looks ops o)).ev x) ((maskB a (looks ops o)).ev y) (memL m0 E W (fun i => Nat.testBit (preM ops j0) i) nx) with
          | .pointer (some ⟨b, _, none⟩), some m' =>
            (match Nat.beq i j0 with
            | true => (match m'.get b with
              | some z => Nat.ble lo b && Nat.blt b m0.next && apartB ((lateT ops j0).map a.ρ) b && (W.all fun t => !Nat.beq t.2.1 b) && drawb P C Y lo ops m0 LI K k (E ++ [⟨undef, nx, none⟩]) (W ++ [(j0, b, z)]) (putB a o.dst undef) nx
              | none => false)
            | false => (match m'.get b, E[i]? with
              | some z, some e => Nat.ble e.lo b && Nat.blt b e.hi && (W.all fun t => !Nat.beq t.2.1 b) && drawb P C Y lo ops m0 LI K k (E ++ [⟨undef, nx, none⟩]) (W ++ [(j0, b, z)]) (putB a o.dst undef) nx
              | _, _ => false))
          | _, _ => false)
        | _, _ => false)
      | none =>
      match cguard ops o a with
      | none => false
      | some false => drawb P C Y lo ops m0 LI K k (E ++ [⟨undef, nx, none⟩]) W (putB a o.dst undef) nx
      | some true =>
        match still o.op with
        | true => opb P C Y lo o.op (maskB a (looks ops o)) (memL m0 E W (fun i => Nat.testBit (preM ops j0) i) nx) (fun v _ => drawb P C Y lo ops m0 LI K k (E ++ [⟨v, nx, none⟩]) W (putB a o.dst v) nx) (fun _ _ => false)
        | false =>
          match isStore o.op with
          | true => stillSt P o.op (maskB a (looks ops o)) (memL m0 E W (fun i => Nat.testBit (preM ops j0) i) nx) && drawb P C Y lo ops m0 LI K k (E ++ [⟨undef, nx, none⟩]) W (putB a o.dst undef) nx
          | false => opb P C Y nx o.op (maskB a (looks ops o)) (memL m0 E W (fun i => Nat.testBit (preM ops j0) i) nx) (fun v m' => drawb P C Y lo ops m0 LI K k (E ++ [⟨v, nx, some m'⟩]) W (putB a o.dst v) m'.next) (fun _ _ => false)
def drawc (P : Program) (C : CB1) (Y : YB1) (lo : Nat) (ops : Array Oper) (m0 : CM) (LI : List (Nat × Nat)) (K : CA → CM → Bool) : Nat → Nat → Bool → List Ent → List (Nat × Nat × CB) → CA → Nat → Bool
  | 0, j0, f, E, W, a, nx => K a (memQ f m0 E W (fun _ => true) nx)
  | k + 1, j0, f, E, W, a, nx =>
    match ops[j0]? with
    | none => false
    | some o =>
      match lookN LI j0 with
      | some i =>
        (match o.guard, o.op with
        | none, .store t x y =>
          (match (maskB a (looks ops o)).ev x, cstore P t ((maskB a (looks ops o)).ev x) ((maskB a (looks ops o)).ev y) (memQ f m0 E W (fun i => Nat.testBit (preM ops j0) i) nx) with
          | .pointer (some ⟨b, _, none⟩), some m' =>
            (match Nat.beq i j0 with
            | true => (match m'.get b with
              | some z => Nat.ble lo b && Nat.blt b m0.next && apartB ((lateT ops j0).map a.ρ) b && (W.all fun t => !Nat.beq t.2.1 b) && natF (j0 + 1) fun j1 => drawc P C Y lo ops m0 LI K k j1 true (E ++ [⟨undef, nx, none⟩]) (W ++ [(j0, b, z)]) (putB a o.dst undef) nx
              | none => false)
            | false => (match m'.get b, E[i]? with
              | some z, some e => Nat.ble e.lo b && Nat.blt b e.hi && (W.all fun t => !Nat.beq t.2.1 b) && natF (j0 + 1) fun j1 => drawc P C Y lo ops m0 LI K k j1 true (E ++ [⟨undef, nx, none⟩]) (W ++ [(j0, b, z)]) (putB a o.dst undef) nx
              | _, _ => false))
          | _, _ => false)
        | _, _ => false)
      | none =>
      match cguard ops o a with
      | none => false
      | some false => natF (j0 + 1) fun j1 => drawc P C Y lo ops m0 LI K k j1 f (E ++ [⟨undef, nx, none⟩]) W (putB a o.dst undef) nx
      | some true =>
        match still o.op with
        | true => opb P C Y lo o.op (maskB a (looks ops o)) (memQ f m0 E W (fun i => Nat.testBit (preM ops j0) i) nx) (fun v _ => natF (j0 + 1) fun j1 => drawc P C Y lo ops m0 LI K k j1 f (E ++ [⟨v, nx, none⟩]) W (putB a o.dst v) nx) (fun _ _ => false)
        | false =>
          match isStore o.op with
          | true => stillSt P o.op (maskB a (looks ops o)) (memQ f m0 E W (fun i => Nat.testBit (preM ops j0) i) nx) && natF (j0 + 1) fun j1 => drawc P C Y lo ops m0 LI K k j1 f (E ++ [⟨undef, nx, none⟩]) W (putB a o.dst undef) nx
          | false => opb P C Y nx o.op (maskB a (looks ops o)) (memQ f m0 E W (fun i => Nat.testBit (preM ops j0) i) nx) (fun v m' => natF (j0 + 1) fun j1 => drawc P C Y lo ops m0 LI K k j1 true (E ++ [⟨v, nx, some m'⟩]) W (putB a o.dst v) m'.next) (fun _ _ => false)
theorem drawc_eq {P : Program} {C : CB1} {Y : YB1} {lo : Nat} {ops : Array Oper} {m0 : CM} {LI : List (Nat × Nat)} {K : CA → CM → Bool} : ∀ (k j : Nat) (f : Bool) (E : List Ent) (W : List (Nat × Nat × CB)) (a : CA) (nx : Nat), j = E.length → (f = false → W = [] ∧ ∀ e ∈ E, e.m = none) →
    drawc P C Y lo ops m0 LI K k j f E W a nx = drawb P C Y lo ops m0 LI K k E W a nx
  | 0, j, f, E, W, a, nx, hj, hf => by simp only [drawc, drawb, memQ_eq hf]
  | k + 1, j, f, E, W, a, nx, hj, hf => by
    subst hj
    have h1 : ∀ (v : Value) (a : CA), drawc P C Y lo ops m0 LI K k (E.length + 1) f (E ++ [⟨v, nx, none⟩]) W a nx = drawb P C Y lo ops m0 LI K k (E ++ [⟨v, nx, none⟩]) W a nx := fun v a =>
      drawc_eq k _ f _ W a nx (by simp) fun h => ⟨(hf h).1, fun e he => by
        rcases List.mem_append.1 he with he | he
        · exact (hf h).2 e he
        · simp at he; rw [he]⟩
    have h2 : ∀ (x : Ent) (W' : List (Nat × Nat × CB)) (a : CA) (nx : Nat), drawc P C Y lo ops m0 LI K k (E.length + 1) true (E ++ [x]) W' a nx = drawb P C Y lo ops m0 LI K k (E ++ [x]) W' a nx := fun x W' a nx => drawc_eq k _ true _ W' a nx (by simp) fun h => by cases h
    simp only [drawc, drawb, natF_eq, memQ_eq hf, h1, h2]
def thenB (N : CA → CM → Bool) (Q : QB) : QB := fun e a m => match e with | .normal => N a m | e => Q e a m
def inBlkB (id : Nat) (Q : QB) : QB := fun e a m => match e with | .exit i => (match Nat.beq i id with | true => Q .normal a m | false => Q (.exit i) a m) | e => Q e a m
def loopb : Nat → ((CA → CM → Bool) → CA → CM → Bool) → CA → CM → Bool
  | 0, _, _, _ => false
  | n + 1, B, a, m => B (fun a m => loopb n B a m) a m
/-- The part of a drawn region whose order is firm begins here. -/
def n1Of (ops : Array Oper) : Nat := go ops.size
  where go : Nat → Nat | 0 => 0 | n + 1 => if preM ops n == 2 ^ n - 1 then go n else n + 1
def rfEb (lo l : Nat) (m : CM) (K : Exit → CM → Bool) : Bool :=
  match m.get l with
  | some (.loop L) => (match L.state with | .busy => false | _ => match pendX L.pending with | some e => Nat.ble lo l && K e (m.put l (.loop { L with state := .exhausted })) | none => false)
  | _ => false
def rfb (C : CB1) (lo : Nat) (r : Option Nat) (f : Operand) (ps : Array Tmp) (as bd : Code) (Q : QB) (a : CA) (m : CM) : Bool :=
  match a.ev f with
  | .func (.func gf) ⟨fs⟩ ⟨cs⟩ =>
    match r with
    | none => C lo gf (fs ++ [yv (m.next + 1)] ++ cs) ((m.alloc .dfr).alloc (.loop (rfRec a ps as bd m.next))) (fun _ m2 => rfEb lo (m.next + 1) m2 (fun e m3 => Q e (rfMark a m.next) m3)) (fun ch m2 => Q (.panic ch) (rfMark a m.next) m2)
    | some l0 => match m.get l0 with
      | some (.loop L0) => C lo gf (fs ++ [yv m.next] ++ cs) (m.alloc (.loop (rfRec a ps as bd L0.defers))) (fun _ m2 => rfEb lo m.next m2 (fun e m3 => Q e a m3)) (fun ch m2 => Q (.panic ch) a m2)
      | _ => false
  | _ => false
def codeOkE (n : Nat) : Code → Bool
  | .seq x y => codeOkE n x && codeOkE n y
  | .cond c x y => opdOk c && codeOkE n x && codeOkE n y
  | .block _ x => codeOkE n x
  | .loop x => codeOkE n x
  | .region _ ops d => (ops.toList.all fun o => dOk n o.dst) && (if d then drawOk ops (n1Of ops) && (liE ops (n1Of ops)).all (fun p => lateOk ops p.2 p.1) else ops.toList.all fun o => opOk o.op || isDefer o.op)
  | .scope x => codeOkE n x
  | .rangeFunc f ps as bd => opdOk f && codeOkE n as && codeOkE n bd && ps.toList.all (fun t => dOk n (some t))
  | _ => true
def wpb (P : Program) (C : CB1) (Y : YB1) (lf lo : Nat) (r : Option Nat) : Code → QB → CA → CM → Bool
  | .skip, Q, a, m => Q .normal a m
  | .label _, Q, a, m => Q .normal a m
  | .exit id, Q, a, m => Q (.exit id) a m
  | .goto id, Q, a, m => Q (.goto id) a m
  | .ret, Q, a, m => Q .ret a m
  | .seq x y, Q, a, m => wpb P C Y lf lo r x (thenB (fun a m => wpb P C Y lf lo r y Q a m) Q) a m
  | .cond c x y, Q, a, m => match a.ev c with | .bool true => wpb P C Y lf lo r x Q a m | .bool false => wpb P C Y lf lo r y Q a m | _ => false
  | .block id x, Q, a, m => wpb P C Y lf lo r x (inBlkB id Q) a m
  | .loop x, Q, a, m => loopb lf (fun K a m => wpb P C Y lf lo r x (thenB K Q) a m) a m
  | .region _ ops d, Q, a, m => match d with
    | true => drawc P C Y lo ops m (liE ops (n1Of ops)) (fun a' m' => opsb P C Y lo r ops ((List.range ops.size).drop (n1Of ops)) Q a' m') (n1Of ops) 0 false [] [] a m.next
    | false => opsb P C Y lo r ops (List.range ops.size) Q a m
  | .rangeFunc f ps as bd, Q, a, m => rfb C lo r f ps as bd Q a m
  | .scope x, Q, a, m => wpb P C Y lf lo r x (fun e a m => match e with | .goto _ => false | e => Q e a m) a m
  | .refuse _, _, _, _ => false
def resB (P : Program) (m : CM) : List RV → (List Value → Bool) → Bool
  | [], K => K []
  | .v x :: l, K => resB P m l (fun vs => K (x :: vs))
  | .c t p :: l, K => popb (cload P t p m) m (fun v _ => resB P m l (fun vs => K (v :: vs)))
def RKB (K : KB) (Kp : KPB) (e : CE) (m : CM) : Bool := match e with | .ret v => K v m | .pan ch => Kp ch m
def leaveB (P : Program) (lo : Nat) (D : FuncId → List Value → CMd → CM → (CMd → CM → Bool) → Bool) (rv : List RV) : List Deferred → CMd → CM → (CE → CM → Bool) → Bool
  | [], .ret, m, R => resB P m rv (fun vs => R (.ret (tupL vs)) m)
  | [], .pan ch, m, R => R (.pan ch) m
  | d :: ds, u, m, R =>
    match d.target with
    | .collected B => (match m.get B with | some .dfr => Nat.ble lo B && leaveB P lo D rv ds u (m.set B none) R | _ => false)
    | .fn (.func g) ⟨cs⟩ => D g (d.args.toList ++ cs) u m (fun u' m' => leaveB P lo D rv ds (csettle u') m' R)
    | _ => false
def leaveXB (P : Program) (lo : Nat) (D : FuncId → List Value → CMd → CM → (CMd → CM → Bool) → Bool) (rv : List ResultVar) (R : CE → CM → Bool) : QB := fun e a m =>
  match e with
  | .normal => leaveB P lo D (rv.map (rvOf a.ρ)) a.ds .ret m R
  | .ret => leaveB P lo D (rv.map (rvOf a.ρ)) a.ds .ret m R
  | .panic ch => leaveB P lo D (rv.map (rvOf a.ρ)) a.ds (.pan ch) m R
  | _ => false
/-- May a function be carried out? -/
def fnB (fn : Func) (n : Nat) : Bool := !(fn.name == "runtime.NumGoroutine") && Nat.ble n fn.ntmps
/-- A deferred literal that begins with recover(). -/
def isRec (o0 o1 : Oper) (n : Nat) : Bool :=
  match o0.op, o0.guard, o0.dst, o1.op, o1.guard with
  | .call { callee := .builtin .recover, args := ⟨[]⟩, .. }, none, some d, .assign (.tmp d'), none => Nat.beq d d' && dOk n (some d) && dOk n o1.dst
  | _, _, _, _, _ => false
def endB (P : Program) (fn : Func) (k : Bool) : QB := fun e a m' =>
  match e with
  | .normal => (match a.ds, cresV P a.ρ m' fn.results.toList with | [], some _ => k | _, _ => false)
  | .ret => (match a.ds, cresV P a.ρ m' fn.results.toList with | [], some _ => k | _, _ => false)
  | _ => false
def defB (P : Program) (C : CB1) (Y : YB1) (lf lo : Nat) (g : FuncId) (args : List Value) (u : CMd) (m : CM) (K : CMd → CM → Bool) : Bool :=
  match P.funcs[g]? with
  | some fn => (match fn.body with
    | some (.seq (.region _ ⟨[o0, o1]⟩ false) rest) =>
      (match fnB fn args.length && isRec o0 o1 fn.ntmps && codeOkE fn.ntmps rest with
      | true => wpb P C Y lf lo none rest (fun e a m' => endB P fn (K (recA u).2 m') e a m') (((enterA fn args).put o0.dst (recA u).1).put o1.dst (recA u).1) m
      | false => false)
    | _ => false)
  | none => false
/-- One round. -/
def roundEnd (l : Nat) (K : KB) : QB := fun e _ m =>
  match jumpOf e with
  | some j => (match m.get l with | some (.loop L) => K (.bool j.isNone) (m.put l (.loop { L with state := if j.isNone then .ready else .done, pending := j })) | _ => false)
  | none => false
def roundMid (l : Nat) (B : CA → CM → Bool) : QB := fun e a m =>
  match e with
  | .normal => (match m.get l with
    | some (.loop L) => (match L.state with | .ready => B a (m.put l (.loop { L with state := .busy })) | _ => false)
    | _ => false)
  | _ => false
def yb (P : Program) (C : CB1) (lf : Nat) : YB1 := fun lo l args m K =>
  match m.get l with
  | some (.loop L) =>
    (match Nat.ble lo l && Nat.beq args.length L.params.length && codeOkE L.a.n L.assign && codeOkE L.a.n L.body && L.params.all (fun t => dOk L.a.n (some t)) with
    | true => wpb P C (fun _ _ _ _ _ => false) lf lo (some l) L.assign (roundMid l (fun a m => wpb P C (fun _ _ _ _ _ => false) lf lo (some l) L.body (roundEnd l K) a m)) (roundA L args) m
    | false => false)
  | _ => false
def bodyb (P : Program) (C : CB1) (lf : Nat) : CB1 := fun lo f args m K Kp =>
  match P.funcs[f]? with
  | some fn => (match fn.body with
    | some c => (match fnB fn args.length && codeOkE fn.ntmps c with
      | true => wpb P C (yb P C lf) lf lo none c (leaveXB P lo (defB P C (yb P C lf) lf lo) fn.results.toList (RKB K Kp)) (enterA fn args) m
      | false => false)
    | none => false)
  | none => false
def callF (P : Program) (lf : Nat) : Nat → CB1
  | 0 => fun _ _ _ _ _ _ => false
  | n + 1 => bodyb P (callF P lf n) lf
end Go.Proofs.Ytjkfleibnojjaaa
