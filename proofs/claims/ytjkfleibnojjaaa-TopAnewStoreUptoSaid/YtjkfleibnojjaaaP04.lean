/- Part 4 of 23 of the proof that the law TopAnewStore returns true and leaves its argument as it read before, for every input that the bounded statement admits (what it reads is of bulk at most 1048576). -/
import Derived.RangeFuncLeaves
import Derived.Laws.Entries
import Derived.Test.YtjkfleibnojjaaaP03
section
namespace Go.Proofs.Ytjkfleibnojjaaa
open Go

/-! ### Code -/
def thenC (N : CA → CM → Prop) (Q : Exit → CA → CM → Prop) : Exit → CA → CM → Prop := fun e a m =>
  match e with
  | .normal => N a m
  | .exit i => Q (.exit i) a m
  | .goto i => Q (.goto i) a m
  | .ret => Q .ret a m
  | .panic ch => Q (.panic ch) a m
  | .outgrown => Q .outgrown a m
structure cnd (v : Value) (A B : Prop) : Prop where
  h : match v with | .bool true => A | .bool false => B | _ => False
def inBlk (id : Nat) (Q : Exit → CA → CM → Prop) : Exit → CA → CM → Prop := fun e a m =>
  match e with
  | .normal => Q .normal a m
  | .exit i => match Nat.beq i id with | true => Q .normal a m | false => Q (.exit i) a m
  | .goto i => Q (.goto i) a m
  | .ret => Q .ret a m
  | .panic ch => Q (.panic ch) a m
  | .outgrown => Q .outgrown a m

def firstId : Code → Nat
  | .region id _ _ => id
  | .seq x y => match firstId x with | 0 => firstId y | n => n
  | .cond _ x y => match firstId x with | 0 => firstId y | n => n
  | .block _ x => firstId x
  | .loop x => firstId x
  | .scope x => firstId x
  | .rangeFunc _ _ x y => match firstId x with | 0 => firstId y | n => n
  | _ => 0
/-- How many operations of a drawn region come before the part whose order is firm. -/
def n1of (ann : Nat → List Nat) (id : Nat) : Nat := (ann (2 * id + 1)).headD 0
/-- The late stores, each with the operation that makes its block. -/
def pairs : List Nat → List (Nat × Nat)
  | j :: i :: l => (j, i) :: pairs l
  | _ => []
def liOf (ann : Nat → List Nat) (id : Nat) : List (Nat × Nat) := pairs ((ann (2 * id + 1)).drop 1)
/-- A loop, whose live temporaries are L. -/
structure loopA (L : List Nat) (B : (List Value → List Deferred → CM → Prop) → (Nat → Value) → List Deferred → CM → Prop) (s : List Value) (ds : List Deferred) (m : CM) : Prop where
  h : ∀ X : List Value → List Deferred → CM → Prop, (∀ s ds m, (∀ ρ, L.map ρ = s → B X ρ ds m) → X s ds m) → X s ds m

/-- A choice that the text makes. -/
def cndb (b : Bool) (A B : Prop) : Prop := match b with | true => A | false => B
def wpc (P : Program) (ann : Nat → List Nat) (r : Option Nat) : Code → (Exit → CA → CM → Prop) → CA → CM → Prop
  | .skip, Q, a, m => Q .normal a m
  | .label _, Q, a, m => Q .normal a m
  | .exit id, Q, a, m => Q (.exit id) a m
  | .goto id, Q, a, m => Q (.goto id) a m
  | .ret, Q, a, m => Q .ret a m
  | .seq x y, Q, a, m => wpc P ann r x (thenC (fun a m => wpc P ann r y Q a m) Q) a m
  | .cond c x y, Q, a, m => cnd (a.ev c) (wpc P ann r x Q a m) (wpc P ann r y Q a m)
  | .block id x, Q, a, m => wpc P ann r x (inBlk id Q) a m
  | .loop x, Q, a, m => loopA (ann (2 * firstId x)) (fun X ρ ds m => wpc P ann r x (thenC (fun a' m => X ((ann (2 * firstId x)).map a'.ρ) a'.ds m) Q) ⟨a.n, ρ, ds⟩ m) ((ann (2 * firstId x)).map a.ρ) a.ds m
  | .region id ops d, Q, a, m => match d with | true => drawGo P ops m (liOf ann id) (fun a' m' => wpcOps P r ops ((List.range ops.size).drop (n1of ann id)) Q a' m') (n1of ann id) [] [] a m.next | false => wpcOps P r ops (List.range ops.size) Q a m
  | .rangeFunc f ps as bd, Q, a, m => rfw P r f ps as bd Q a m
  | .scope x, Q, a, m => wpc P ann r x (fun e a m => (∀ l, e ≠ .goto l) ∧ Q e a m) a m
  | .refuse _, _, _, _ => False

def codeOk (ann : Nat → List Nat) (n : Nat) : Code → Bool
  | .seq x y => codeOk ann n x && codeOk ann n y
  | .cond c x y => opdOk c && codeOk ann n x && codeOk ann n y
  | .block _ x => codeOk ann n x
  | .loop x => codeOk ann n x
  | .region id ops d => (ops.toList.all fun o => dOk n o.dst) && (if d then drawOk ops (n1of ann id) && (liOf ann id).all (fun p => lateOk ops p.2 p.1) else ops.toList.all fun o => opOk o.op || isDefer o.op)
  | .scope x => codeOk ann n x
  | .rangeFunc f ps as bd => opdOk f && codeOk ann n as && codeOk ann n bd && ps.toList.all (fun t => dOk n (some t))
  | _ => true

section
variable {P : Program} {r : Option Nat}
theorem wpIn_scope' {F : Fence} {n : Nat} {Q : Exit → Act → World → Prop} {a : Act} {w : World} {c : Code} (h : c.wpIn F n P (fun e a w => (∀ l, e ≠ .goto l) ∧ Q e a w) a w) : (Code.scope c).wpIn F n P Q a w := by
  intro b k cs hro hb hr
  have h0 : (lone (b.atR a (.code (.scope c) :: k)) cs w).fenced P F := fenced_calm hb hr rfl
  obtain ⟨e, a₁, w₁, ⟨hng, hq⟩, harr⟩ := h b (.inScope c :: k) cs hro hb hr
  have hs1 : step P (lone (b.atR a (.code (.scope c) :: k)) cs w) = .next (lone (b.atR a (.code c :: .inScope c :: k)) cs w) :=
    step_lone_go (by simp [stepG, stepG.exec, Frame.atR])
  have hs2 : ∀ a w, step P (lone (b.atR a (.inScope c :: k)) cs w) = .next (lone (b.atR a k) cs w) :=
    fun a w => step_lone_go (by simp [stepG, stepG.exec, Frame.atR])
  cases e with
  | normal => exact ⟨.normal, a₁, w₁, hq, .head h0 hs1 (StepsIn.trans harr (.one (fenced_calm hb hr rfl) (hs2 _ _)))⟩
  | exit id =>
    have hx : exitTo id (.inScope c :: k) = exitTo id k := by simp [exitTo]
    exact ⟨.exit id, a₁, w₁, hq, fun k' hk => .head h0 hs1 (harr.1 k' (by rw [hx]; exact hk)),
      fun hr' hk => let ⟨k₁, h1, h2⟩ := harr.2 hr' (by rw [hx]; exact hk); ⟨k₁, h1, .head h0 hs1 h2⟩⟩
  | goto l => exact absurd rfl (hng l)
  | ret => exact ⟨_, a₁, w₁, hq, .of_steps (.one h0 hs1) harr⟩
  | panic ch => exact ⟨_, a₁, w₁, hq, .of_steps (.one h0 hs1) harr⟩
  | outgrown => exact ⟨_, a₁, w₁, hq, .of_steps (.one h0 hs1) harr⟩

theorem wpc_sound (hmx : P.follows .mixedOrders = true) {n : Nat} {ann : Nat → List Nat} : ∀ (c : Code) (Q : Exit → CA → CM → Prop) (a : CA) (m : CM), codeOk ann n c = true → a.n = n → wpc P ann r c Q a m → ∃ e a' m', CEvC P r c a m e a' m' ∧ a'.n = n ∧ Q e a' m'
  | .skip, Q, a, m, _, hn, h => ⟨_, _, _, cev_skip a m, hn, h⟩
  | .label l, Q, a, m, _, hn, h => ⟨_, _, _, cev_label l a m, hn, h⟩
  | .exit l, Q, a, m, _, hn, h => ⟨_, _, _, cev_exit l a m, hn, h⟩
  | .goto l, Q, a, m, _, hn, h => ⟨_, _, _, cev_goto l a m, hn, h⟩
  | .ret, Q, a, m, _, hn, h => ⟨_, _, _, cev_ret a m, hn, h⟩
  | .seq x y, Q, a, m, hok, hn, h => by
    simp only [codeOk, Bool.and_eq_true] at hok
    obtain ⟨e, a1, m1, h1, hn1, h2⟩ := wpc_sound hmx x _ a m hok.1 hn h
    cases e with
    | normal =>
      obtain ⟨e2, a2, m2, h3, h4⟩ := wpc_sound hmx y _ a1 m1 hok.2 hn1 h2
      exact ⟨_, _, _, cev_seq h1 h3, h4⟩
    | exit i => exact ⟨_, _, _, cev_seq_out (by simp) h1, hn1, h2⟩
    | goto i => exact ⟨_, _, _, cev_seq_out (by simp) h1, hn1, h2⟩
    | ret => exact ⟨_, _, _, cev_seq_out (by simp) h1, hn1, h2⟩
    | panic i => exact ⟨_, _, _, cev_seq_out (by simp) h1, hn1, h2⟩
    | outgrown => exact ⟨_, _, _, cev_seq_out (by simp) h1, hn1, h2⟩
  | .cond c x y, Q, a, m, hok, hn, h => by
    simp only [codeOk, Bool.and_eq_true] at hok
    have h := h.h
    split at h
    · rename_i hv
      obtain ⟨e, a1, m1, h1, h2⟩ := wpc_sound hmx x _ a m hok.1.2 hn h
      exact ⟨_, _, _, cev_cond hok.1.1 hv h1, h2⟩
    · rename_i hv
      obtain ⟨e, a1, m1, h1, h2⟩ := wpc_sound hmx y _ a m hok.2 hn h
      exact ⟨_, _, _, cev_cond hok.1.1 hv h1, h2⟩
    · exact h.elim
  | .block id x, Q, a, m, hok, hn, h => by
    simp only [codeOk] at hok
    obtain ⟨e, a1, m1, h1, hn1, h2⟩ := wpc_sound hmx x _ a m hok hn h
    refine ⟨_, _, _, cev_block h1, hn1, ?_⟩
    cases e with
    | exit i =>
      simp only [inBlk, inBlkE] at h2 ⊢
      split
      · rename_i e; subst e; simp only [Nat.beq_refl] at h2; exact h2
      · rename_i e
        have : Nat.beq i id = false := by
          cases hb : Nat.beq i id with
          | false => rfl
          | true => exact absurd (Nat.eq_of_beq_eq_true hb) e
        simp only [this] at h2; exact h2
    | _ => exact h2
  | .loop x, Q, a, m, hok, hn, h => by
    simp only [codeOk] at hok
    obtain ⟨e, a', m', h1, h2⟩ := h.h (fun s ds m => ∀ ρ, (ann (2 * firstId x)).map ρ = s → ∃ e a' m', LoopRuns P r x ⟨a.n, ρ, ds⟩ m e a' m' ∧ a'.n = n ∧ Q e a' m') (fun s ds m hw ρ hρ => by
      obtain ⟨e, a1, m1, h1, hn1, h2⟩ := wpc_sound hmx x _ ⟨a.n, ρ, ds⟩ m hok hn (hw ρ hρ)
      cases e with
      | normal =>
        obtain ⟨e2, a2, m2, h3, h4⟩ := h2 a1.ρ rfl
        have : (⟨a.n, a1.ρ, a1.ds⟩ : CA) = a1 := by rw [hn, ← hn1]
        rw [this] at h3
        exact ⟨e2, a2, m2, .next h1 h3, h4⟩
      | exit i => exact ⟨_, _, _, .last (by simp) h1, hn1, h2⟩
      | goto i => exact ⟨_, _, _, .last (by simp) h1, hn1, h2⟩
      | ret => exact ⟨_, _, _, .last (by simp) h1, hn1, h2⟩
      | panic i => exact ⟨_, _, _, .last (by simp) h1, hn1, h2⟩
      | outgrown => exact ⟨_, _, _, .last (by simp) h1, hn1, h2⟩) a.ρ rfl
    exact ⟨e, a', m', cev_loop h1, h2⟩
  | .region id ops d, Q, a, m, hok, hn, h => by
    simp only [codeOk, Bool.and_eq_true, List.all_eq_true] at hok
    cases d with
    | true =>
      simp only [if_true, Bool.and_eq_true] at hok
      obtain ⟨e, a', m', h1, h2, h3⟩ := drw_of (r := r) (id := id) (Q := Q) _ _ hok.2.2 hmx hok.2.1 (by rw [hn]; simpa only [List.all_eq_true] using hok.1) h
      exact ⟨e, a', m', h1, h2.trans hn, h3⟩
    | false =>
      simp only [Bool.false_eq_true, if_false, List.all_eq_true, Bool.or_eq_true] at hok
      obtain ⟨e, a', m', h1, h2⟩ := wpcOps_sound hok.2 hok.1 _ _ _ _ hn h
      exact ⟨e, a', m', cev_region h1, h2⟩
  | .rangeFunc f ps as bd, Q, a, m, _, hn, h => by
    obtain ⟨e, a', m', h1, h2, h3⟩ := rfw_sound h
    exact ⟨e, a', m', h1, h2.trans hn, h3⟩
  | .scope x, Q, a, m, hok, hn, h => by
    simp only [codeOk] at hok
    obtain ⟨e, a1, m1, h1, hn1, hng, h2⟩ := wpc_sound hmx x _ a m hok hn h
    refine ⟨e, a1, m1, fun ι w aw F hr ha hF => wpIn_scope' (wpIn_mono (h1 ι w aw F hr ha hF) ?_), hn1, h2⟩
    intro e' aw' w' hh
    refine ⟨fun l hl => ?_, hh⟩
    obtain ⟨_, _, _, _, hx, _⟩ := hh
    subst hl
    cases e <;> simp only [XRel] at hx
    exact hng _ rfl
  | .refuse _, _, _, _, _, _, h => h.elim

/-! ### One round of a range over a function -/
def jumpOf : Exit → Option (Option Code)
  | .normal => some none
  | .ret => some (some .ret)
  | .exit i => some (some (.exit i))
  | .goto i => some (some (.goto i))
  | _ => none
def roundA (L : CL) (args : List Value) : CA := (L.params.zip args).foldl (fun a (t, v) => a.put (some t) v) { L.a with ds := [] }

theorem roundA_rel {ι : Inj} : ∀ (ps : List Tmp) (args args' : List Value) (a : CA) (aw : Act), (∀ t ∈ ps, dOk a.n (some t) = true) → RelA ι a aw → trL ι args = some args' →
    RelA ι ((ps.zip args).foldl (fun a (t, v) => a.put (some t) v) a) { tmps := (ps.zip args').foldl (fun tmps (t, v) => tmps.setIfInBounds t v) aw.tmps, defers := aw.defers }
  | [], args, args', a, aw, _, ha, _ => by simpa using ha
  | t :: ps, [], args', a, aw, hd, ha, ht => by simp [trL] at ht; subst ht; simpa using ha
  | t :: ps, v :: args, args', a, aw, hd, ha, ht => by
    simp only [trL] at ht
    split at ht
    · rename_i v2 l2 h1 h2
      cases ht
      have := ha.put (some t) (hd t (by simp)) h1
      exact roundA_rel ps args l2 _ _ (fun u hu => by rw [put_n]; exact hd u (by simp [hu])) this h2
    · cases ht

structure bodyE (l : Nat) (K : Value → CM → Prop) (e : Exit) (m : CM) : Prop where
  h : ∃ j L, jumpOf e = some j ∧ m.get l = some (.loop L) ∧ K (.bool j.isNone) (m.put l (.loop { L with state := if j.isNone then .ready else .done, pending := j }))
def bodyEnd (l : Nat) (K : Value → CM → Prop) (e : Exit) (_ : CA) (m : CM) : Prop := bodyE l K e m
structure asgE (l : Nat) (m : CM) (K : CM → Prop) : Prop where
  h : ∃ L, m.get l = some (.loop L) ∧ L.state = .ready ∧ K (m.put l (.loop { L with state := .busy }))
def assignEnd (P : Program) (ann : Nat → List Nat) (l : Nat) (bd : Code) (K : Value → CM → Prop) (e : Exit) (a : CA) (m : CM) : Prop :=
  match e with
  | .normal => asgE l m (fun m => wpc P ann (some l) bd (bodyEnd l K) a m)
  | .exit _ => False
  | .goto _ => False
  | .ret => False
  | .panic _ => False
  | .outgrown => False
/-- A code's ranges over functions, in order. -/
def rfs : Code → List (Array Tmp × Code × Code)
  | .seq x y => rfs x ++ rfs y
  | .cond _ x y => rfs x ++ rfs y
  | .block _ x => rfs x
  | .loop x => rfs x
  | .scope x => rfs x
  | .rangeFunc _ ps x y => (ps, x, y) :: (rfs x ++ rfs y)
  | _ => []

theorem run_setLoop' {w : World} {l : Nat} {L : Loop} {o' : Obj} (h : w.heap[l]? = some (.loop L)) : (setObj l o').run P w = .ok () { w with heap := w.heap.setIfInBounds l o' } := run_setLoop h (by simp)

theorem run_beginRound' {w : World} {l : Nat} {L : Loop} (h : w.heap[l]? = some (.loop L)) (hs : L.state = .ready) :
    (Instr.beginRound l).run P w = .ok () { w with heap := w.heap.setIfInBounds l (.loop { L with state := .busy }) } := by
  simp only [Instr.beginRound, Sem.run_bind, run_getLoop h, Result.andThen_ok, run_setLoop' h, hs, Sem.run_pure]
theorem run_endRound' {w : World} {l : Nat} {L : Loop} (h : w.heap[l]? = some (.loop L)) (j : Option Code) :
    (Instr.endRound l j).run P w = .ok (.bool j.isNone) { w with heap := w.heap.setIfInBounds l (.loop { L with state := if j.isNone then .ready else .done, pending := j }) } := by
  simp only [Instr.endRound, Sem.run_bind, run_getLoop h, Result.andThen_ok, run_setLoop' h, Sem.run_pure]

theorem roundA_n (L : CL) (args : List Value) : (roundA L args).n = L.a.n := by
  have : ∀ (l : List (Tmp × Value)) (a : CA), (l.foldl (fun a (t, v) => a.put (some t) v) a).n = a.n := by
    intro l; induction l with
    | nil => intro a; rfl
    | cons x l ih => intro a; rw [List.foldl_cons, ih, put_n]
  exact this _ _

theorem yieldw_of' {l : Nat} {args : List Value} {m : CM} {K : Value → CM → Prop} {L : CL} (hl : m.get l = some (.loop L)) (hn : args.length = L.params.length) (hps : L.params.all (fun t => dOk L.a.n (some t)) = true)
    (h : ∃ a1 m1, CEvC P (some l) L.assign (roundA L args) m .normal a1 m1 ∧ ∃ L1, m1.get l = some (.loop L1) ∧ L1.state = .ready ∧ ∃ e2 a2 m2, CEvC P (some l) L.body a1 (m1.put l (.loop { L1 with state := .busy })) e2 a2 m2 ∧
      ∃ j L2, jumpOf e2 = some j ∧ m2.get l = some (.loop L2) ∧ K (.bool j.isNone) (m2.put l (.loop { L2 with state := if j.isNone then .ready else .done, pending := j }))) : yieldw P l args m K := by
  obtain ⟨a1, m1, h1, L1, hl1, hs1, e2, a2, m2, h3, j, L2, hj, hl2, hk⟩ := h
  refine ⟨.bool j.isNone, _, ?_, hk⟩
  intro ι w args' p hr hp hargs
  obtain ⟨q, hq, Lw, hw, hrel⟩ := hr.blk _ _ hl
  rw [hp] at hq; cases hq
  have hlen : args'.length = Lw.params.size := by rw [trL_length hargs, hn, ← hrel.params]; simp
  have hy : (Instr.yield p.blk ⟨args'⟩).run P w = .ok (.round p.blk Lw.fn ((Lw.params.zip ⟨args'⟩).foldl (fun tmps (t, v) => tmps.setIfInBounds t v) Lw.tmps) Lw.assign Lw.body) w := by
    simp [Instr.yield, run_getLoop hw, hlen]
  refine ⟨Lw.fn, _, Lw.assign, Lw.body, hy, roundIn_of_wpIn trivial ?_⟩
  rw [hrel.assign, hrel.body]
  have hra : RelA ι (roundA L args) { tmps := (Lw.params.zip ⟨args'⟩).foldl (fun tmps (t, v) => tmps.setIfInBounds t v) Lw.tmps, defers := [] } := by
    have h0 : RelA ι { L.a with ds := [] } { tmps := Lw.tmps, defers := [] } := ⟨hrel.size, hrel.tmps, by simp [trDs]⟩
    have := roundA_rel L.params args args' _ _ (by simpa [List.all_eq_true] using hps) h0 hargs
    have e : (Lw.params.zip ⟨args'⟩).foldl (fun tmps (t, v) => tmps.setIfInBounds t v) Lw.tmps = (L.params.zip args').foldl (fun tmps (t, v) => tmps.setIfInBounds t v) Lw.tmps := by
      rw [← Array.foldl_toList, Array.toList_zip, hrel.params]
    rw [e]
    exact this
  refine wpIn_mono (h1 ι w _ _ hr hra ⟨p, hp, rfl⟩) ?_
  rintro e' aw1 w1 ⟨ι1, hle1, hr1, ha1, hx, hf1⟩
  cases e' <;> simp only [XRel] at hx
  show ∃ w₂, _
  have hp1 := hle1 _ _ hp
  obtain ⟨Lw1, hw1, hrel1, hb1, hb2⟩ := hr1.setLoop (L2 := { L1 with state := .busy }) hl1 hp1 ⟨rfl, rfl, rfl, rfl, rfl⟩
  have hpd : ({ Lw1 with state := LoopState.busy, pending := L1.pending } : Loop) = { Lw1 with state := .busy } := by rw [← hrel1.pending]
  simp only [hpd] at hb1 hb2
  refine ⟨_, run_beginRound' hw1 (hrel1.state.trans hs1), ?_⟩
  refine wpIn_mono (h3 ι1 _ aw1 _ hb1 ha1 ⟨p, hp1, rfl⟩) ?_
  rintro e' aw2 w2 ⟨ι2, hle2, hr2, ha2, hx2, hf2⟩
  have hp2 := hle2 _ _ hp1
  obtain ⟨Lw2, hw2, hrel2, hc1, hc2⟩ := hr2.setLoop (L2 := { L2 with state := if j.isNone then .ready else .done, pending := j }) hl2 hp2 ⟨rfl, rfl, rfl, rfl, rfl⟩
  have hend : ∀ jj : Option Code, jj = j → ∃ v w', (Instr.endRound p.blk jj).run P w2 = .ok v w' ∧ Ended ι m w (.ret (.bool j.isNone)) (m2.put l (.loop { L2 with state := if j.isNone then .ready else .done, pending := j })) (.returned v) w' := by
    rintro jj rfl
    refine ⟨.bool jj.isNone, _, run_endRound' hw2 jj, ι2, hle1.trans hle2, hc1, by simp [ERel, tr], ?_⟩
    exact (hf1.trans hr hr1 hle1 (hb2.trans hr1 hb1 (.refl _) hf2)).trans hr hr2 (hle1.trans hle2) hc2
  cases e2 <;> cases e' <;> simp only [XRel] at hx2 <;> simp [jumpOf] at hj
  · exact hend none hj
  · subst hx2; exact hend _ hj
  · subst hx2; exact hend _ hj
  · exact hend _ hj

theorem yieldw_of (hmx : P.follows .mixedOrders = true) {ann : Nat → List Nat} {l : Nat} {args : List Value} {m : CM} {K : Value → CM → Prop} {L : CL} (hl : m.get l = some (.loop L)) (hn : args.length = L.params.length) (hok1 : codeOk ann L.a.n L.assign = true) (hok2 : codeOk ann L.a.n L.body = true) (hps : L.params.all (fun t => dOk L.a.n (some t)) = true)
    (h : wpc P ann (some l) L.assign (assignEnd P ann l L.body K) (roundA L args) m) : yieldw P l args m K := by
  obtain ⟨e1, a1, m1, h1, hn1, he1⟩ := wpc_sound hmx _ _ _ _ hok1 (roundA_n ..) h
  cases e1 <;> simp only [assignEnd] at he1
  obtain ⟨L1, hl1, hs1, h2⟩ := he1
  obtain ⟨e2, a2, m2, h3, hn2, j, L2, hj, hl2, hk⟩ := wpc_sound hmx _ _ _ _ hok2 hn1 h2
  exact yieldw_of' hl hn hps ⟨a1, m1, h1, L1, hl1, hs1, e2, a2, m2, h3, j, L2, hj, hl2, hk⟩

/-! ### How a function is left -/
inductive CMd where
  | ret
  | pan (ch : List PanicEntry)

def cresV (P : Program) (a : Nat → Value) (m : CM) : List ResultVar → Option (List Value)
  | [] => some []
  | .tmp t :: l => (cresV P a m l).map fun vs => a t :: vs
  | .cell d t :: l => match cload P t (a d) m, cresV P a m l with | some v, some vs => some (v :: vs) | _, _ => none
def tupL (l : List Value) : Value := match l with | [v] => v | l => .tuple ⟨l⟩

def resF (tmps : Array Value) : ResultVar → Sem Value
  | .tmp t => pure (tmps.getD t undef)
  | .cell a t => do loadVar t (← asAddr (tmps.getD a undef))
theorem run_results {ι : Inj} {m : CM} {w : World} (hr : Rel ι m w) {ρ : Nat → Value} {tmps : Array Value} (ht : ∀ t, tr ι (ρ t) = some (tmps.getD t undef)) : ∀ {l : List ResultVar} {vs : List Value}, cresV P ρ m l = some vs →
    ∃ vs', (l.mapM (resF tmps)).run P w = .ok vs' w ∧ trL ι vs = some vs'
  | [], vs, h => by simp [cresV] at h; subst h; exact ⟨[], by simp, by simp [trL]⟩
  | .tmp t :: l, vs, h => by
    simp only [cresV] at h
    cases h1 : cresV P ρ m l with
    | none => simp [h1] at h
    | some vs0 =>
      simp [h1] at h; subst h
      obtain ⟨vs', hrun, hv⟩ := run_results hr ht h1
      refine ⟨tmps.getD t undef :: vs', ?_, by simp [trL, ht t, hv]⟩
      simp only [List.mapM_cons, resF, Sem.run_bind, Sem.run_pure, Result.andThen_ok, hrun]
  | .cell d t :: l, vs, h => by
    simp only [cresV] at h
    cases h0 : cload P t (ρ d) m with
    | none => simp [h0] at h
    | some v =>
      cases h1 : cresV P ρ m l with
      | none => simp [h0, h1] at h
      | some vs0 =>
        simp [h0, h1] at h; subst h
        obtain ⟨vs', hrun, hv⟩ := run_results hr ht h1
        have hd := ht d
        obtain ⟨b, off, hb⟩ : ∃ b off, ρ d = .pointer (some ⟨b, off, none⟩) := by
          unfold cload at h0; split at h0
          · rename_i b off hb; exact ⟨b, off, hb⟩
          · cases h0
        rw [hb] at hd h0
        obtain ⟨p, hp, e⟩ := tr_pointer hd
        obtain ⟨v', hl, hv'⟩ := run_loadVar hr hp h0
        refine ⟨v' :: vs', ?_, by simp [trL, hv', hv]⟩
        have hr1 : (resF tmps (.cell d t)).run P w = .ok v' w := by
          simp only [resF, Sem.run_bind, Sem.run_pure, e, asAddr, Result.andThen_ok, hl]
        simp only [List.mapM_cons, Sem.run_bind, Sem.run_pure, hr1, Result.andThen_ok, hrun]

theorem tr_tupL {ι : Inj} {vs vs' : List Value} (h : trL ι vs = some vs') : tr ι (tupL vs) = some (tupL vs') := by
  have hl := trL_length h
  cases vs with
  | nil => simp [trL] at h; subst h; simp [tupL, tr, trL]
  | cons v l =>
    cases l with
    | nil =>
      simp only [trL] at h
      cases h1 : tr ι v with
      | none => simp [h1] at h
      | some v' => simp [h1] at h; subst h; simp [tupL, h1]
    | cons u l =>
      cases vs' with
      | nil => simp at hl
      | cons v' l' =>
        cases l' with
        | nil => simp at hl
        | cons u' l' => simp [tupL, tr, h]

theorem run_results' {ι : Inj} {m : CM} {w : World} (hr : Rel ι m w) {ρ : Nat → Value} {tmps : Array Value} (ht : ∀ t, tr ι (ρ t) = some (tmps.getD t undef)) {fn : Func} {vs : List Value} (h : cresV P ρ m fn.results.toList = some vs) :
    ∃ v', (results fn tmps).run P w = .ok v' w ∧ tr ι (tupL vs) = some v' := by
  obtain ⟨vs', hrun, hv⟩ := run_results hr ht h
  refine ⟨tupL vs', ?_, tr_tupL hv⟩
  have hres : results fn tmps = (do let vs ← fn.results.mapM (resF tmps); pure (if h : vs.size = 1 then vs[0] else .tuple vs)) := by
    unfold results
    congr 1
  rw [hres, Array.mapM_eq_mapM_toList]
  simp only [Sem.run_bind, Sem.run_map]
  rw [hrun]
  simp only [Result.andThen_ok, Sem.run_pure]
  congr 1
  cases vs' with
  | nil => rfl
  | cons a l => cases l <;> rfl

/-- How a deferred call leaves: on returning, or on unwinding after a panic. -/
def URel (ι : Inj) : CMd → FrameMode → Prop
  | .ret, .returning => True
  | .pan c, .panicking c' => trPs ι c = some c'
  | _, _ => False
def csettle : CMd → CMd
  | .pan ({ recovered := true, .. } :: older) => match older.dropWhile (!·.goexit) with | [] => .ret | rest => .pan rest
  | m => m
def CEvDef (P : Program) (g : FuncId) (args : List Value) (u : CMd) (m : CM) (u' : CMd) (m' : CM) : Prop :=
  isGo P g = true ∧ ∀ ι w args' uw, Rel ι m w → trL ι args = some args' → URel ι u uw → CallsDIn Fence.wide 0 P g ⟨args'⟩ uw w (fun e' uw' w' => ∃ v ι', e' = .returned v ∧ ι.le ι' ∧ Rel ι' m' w' ∧ URel ι' u' uw' ∧ Fr ι m w ι' m' w')
def defw (P : Program) (g : FuncId) (args : List Value) (u : CMd) (m : CM) (R : CMd → CM → Prop) : Prop := ∃ u' m', CEvDef P g args u m u' m' ∧ R u' m'

def resW (P : Program) (ρ : Nat → Value) (m : CM) : List ResultVar → (List Value → Prop) → Prop
  | [], K => K []
  | .tmp t :: l, K => resW P ρ m l (fun vs => K (ρ t :: vs))
  | .cell d t :: l, K => pop (cload P t (ρ d) m) m (fun v _ => resW P ρ m l (fun vs => K (v :: vs)))
theorem resW_sound {P : Program} {ρ : Nat → Value} {m : CM} : ∀ (l : List ResultVar) (K : List Value → Prop), resW P ρ m l K → ∃ vs, cresV P ρ m l = some vs ∧ K vs
  | [], K, h => ⟨[], rfl, h⟩
  | .tmp t :: l, K, h => by
    obtain ⟨vs, h1, h2⟩ := resW_sound l _ h
    exact ⟨_, by simp [cresV, h1], h2⟩
  | .cell d t :: l, K, h => by
    obtain ⟨v, hv, h⟩ := h
    obtain ⟨vs, h1, h2⟩ := resW_sound l _ h
    exact ⟨_, by simp only [cresV, h1, hv], h2⟩

def leaveD (P : Program) (rv : List ResultVar) (ρ : Nat → Value) : List Deferred → CMd → CM → (CE → CM → Prop) → Prop
  | [], .ret, m, R => resW P ρ m rv (fun vs => R (.ret (tupL vs)) m)
  | [], .pan ch, m, R => R (.pan ch) m
  | d :: ds, u, m, R =>
    match d.target with
    | .collected D => m.get D = some .dfr ∧ leaveD P rv ρ ds u (m.set D none) R
    | .fn (.func g) ⟨cs⟩ => defw P g (d.args.toList ++ cs) u m (fun u' m' => leaveD P rv ρ ds (csettle u') m' R)
    | _ => False
/-- A result: a value, or what stands in a variable. -/
inductive RV where
  | v (x : Value)
  | c (t : TypeId) (p : Value)
def rvOf (ρ : Nat → Value) : ResultVar → RV
  | .tmp t => .v (ρ t)
  | .cell d t => .c t (ρ d)
def resV (P : Program) (m : CM) : List RV → (List Value → Prop) → Prop
  | [], K => K []
  | .v x :: l, K => resV P m l (fun vs => K (x :: vs))
  | .c t p :: l, K => pop (cload P t p m) m (fun v _ => resV P m l (fun vs => K (v :: vs)))
theorem resV_eq (P : Program) (ρ : Nat → Value) (m : CM) : ∀ (l : List ResultVar) (K : List Value → Prop), resV P m (l.map (rvOf ρ)) K = resW P ρ m l K
  | [], K => rfl
  | .tmp t :: l, K => by simp only [List.map_cons, rvOf, resV, resW]; exact resV_eq P ρ m l _
  | .cell d t :: l, K => by
    simp only [List.map_cons, rvOf, resV, resW]
    congr 1
    funext v _
    exact resV_eq P ρ m l _
def leaveV (P : Program) (rv : List RV) : List Deferred → CMd → CM → (CE → CM → Prop) → Prop
  | [], .ret, m, R => resV P m rv (fun vs => R (.ret (tupL vs)) m)
  | [], .pan ch, m, R => R (.pan ch) m
  | d :: ds, u, m, R =>
    match d.target with
    | .collected D => m.get D = some .dfr ∧ leaveV P rv ds u (m.set D none) R
    | .fn (.func g) ⟨cs⟩ => defw P g (d.args.toList ++ cs) u m (fun u' m' => leaveV P rv ds (csettle u') m' R)
    | _ => False
theorem leaveV_eq (P : Program) (rv : List ResultVar) (ρ : Nat → Value) : ∀ (ds : List Deferred) (u : CMd) (m : CM) (R : CE → CM → Prop), leaveV P (rv.map (rvOf ρ)) ds u m R = leaveD P rv ρ ds u m R
  | [], .ret, m, R => by simp only [leaveV, leaveD]; exact resV_eq ..
  | [], .pan ch, m, R => rfl
  | d :: ds, u, m, R => by
    simp only [leaveV, leaveD]
    split
    · rw [leaveV_eq P rv ρ ds]
    · congr 1; funext u' m'; exact leaveV_eq P rv ρ ds _ _ _
    · rfl
def leaveX (P : Program) (rv : List ResultVar) (R : CE → CM → Prop) : Exit → CA → CM → Prop := fun e a m =>
  match e with
  | .normal => leaveV P (rv.map (rvOf a.ρ)) a.ds .ret m R
  | .exit _ => False
  | .goto _ => False
  | .ret => leaveV P (rv.map (rvOf a.ρ)) a.ds .ret m R
  | .panic ch => leaveV P (rv.map (rvOf a.ρ)) a.ds (.pan ch) m R
  | .outgrown => False

theorem settle_rel {ι : Inj} {u : CMd} {uw : FrameMode} (h : URel ι u uw) : URel ι (csettle u) (settle uw) := by
  have dw : ∀ {l l' : List PanicEntry}, trPs ι l = some l' → trPs ι (l.dropWhile (!·.goexit)) = some (l'.dropWhile (!·.goexit)) := by
    intro l
    induction l with
    | nil => intro l' h; simp [trPs] at h; subst h; simp [trPs]
    | cons e l ih =>
      intro l' h
      simp only [trPs] at h
      split at h
      · rename_i e2 l2 h1 h2
        cases h
        have hg : e2.goexit = e.goexit := by
          simp only [trP] at h1
          cases hv : tr ι e.v with
          | none => simp [hv] at h1
          | some v => simp [hv] at h1; rw [← h1]
        simp only [List.dropWhile_cons, hg]
        split
        · exact ih h2
        · simp [trPs, h1, h2]
      · cases h
  cases u with
  | ret => cases uw <;> simp_all [URel, csettle, settle]
  | pan c =>
    cases uw with
    | returning => exact h.elim
    | run => exact h.elim
    | panicking c' =>
      cases c with
      | nil => simp only [URel, trPs] at h; cases h; simp [csettle, settle, URel, trPs]
      | cons e older =>
        simp only [URel, trPs] at h
        split at h
        · rename_i e2 l2 h1 h2
          cases h
          have hg : e2.recovered = e.recovered := by
            simp only [trP] at h1
            cases hv : tr ι e.v with
            | none => simp [hv] at h1
            | some v => simp [hv] at h1; rw [← h1]
          obtain ⟨v, rec, ge⟩ := e
          obtain ⟨v2, rec2, ge2⟩ := e2
          simp only at hg
          subst hg
          cases rec2 with
          | false => simp [csettle, settle, URel, trPs, h1, h2]
          | true =>
            simp only [csettle, settle]
            have hd := dw h2
            cases hx : older.dropWhile (!·.goexit) with
            | nil => rw [hx] at hd; simp [trPs] at hd; rw [hd]; trivial
            | cons x xs =>
              rw [hx] at hd
              cases hy : l2.dropWhile (!·.goexit) with
              | nil =>
                rw [hy] at hd
                simp only [trPs] at hd
                split at hd <;> cases hd
              | cons y ys => rw [hy] at hd; exact hd
        · cases h

theorem run_takeDeferred {w : World} {l : Nat} (h : w.heap[l]? = some (.deferred (some []))) : (Instr.takeDeferred l).run P w = .ok [] { w with heap := w.heap.setIfInBounds l (.deferred none) } := by
  simp [Instr.takeDeferred, getObj, setObj, Sem.run, h]

/-- A block that is no longer looked at: whatever it holds. -/
theorem Rel.dropBlock {ι : Inj} {m : CM} {w w' : World} (hr : Rel ι m w) {b : Nat} {x : CB} (hb : m.get b = some x) (ho : x.own = true) {p : Pl} (hp : ι b = some p)
    (hother : ∀ B, B ≠ p.blk → w'.heap[B]? = w.heap[B]?) (hsz : w'.heap.size = w.heap.size) (hos : w'.os = w.os) (htp : w'.tape = w.tape) (hout : w'.output = w.output) :
    Rel ι (m.set b none) w' ∧ Fr ι m w ι (m.set b none) w' := by
  have hget : ∀ {c y}, (m.set b none).get c = some y → c ≠ b ∧ m.get c = some y := by
    intro c y hy
    rw [CM.get_set] at hy
    by_cases e : c = b
    · rw [if_pos e] at hy; cases hy
    · rw [if_neg e] at hy; exact ⟨e, hy⟩
  constructor
  · refine ⟨fun c hc => hr.fresh c (by simpa using hc), fun c q hq => by rw [hsz]; exact hr.low _ _ hq, fun c y hy => ?_, fun c c' y y' q q' hy hy' hne hoy hl hq hq' => hr.apart _ _ _ _ _ _ (hget hy).2 (hget hy').2 hne hoy hl hq hq'⟩
    obtain ⟨e, hy⟩ := hget hy
    obtain ⟨q, hq, hbq⟩ := hr.blk _ _ hy
    refine ⟨q, hq, ?_⟩
    by_cases hl : y.live = true
    · exact hbq.mono (.refl ι) (hother _ (fun h => hr.apart _ _ _ _ _ _ hb hy (fun h => e h.symm) ho hl hp hq h.symm))
    · cases y with
      | cells cc esz own =>
        simp [CB.live] at hl
        obtain ⟨rfl, rfl⟩ := hl
        obtain ⟨h1, h2, h3, h4⟩ := hbq
        exact ⟨h1, h2, fun i v hv => by simp at hv, fun h => by cases h⟩
      | map es => simp [CB.live] at hl
      | loop l => simp [CB.live] at hl
      | dfr => simp [CB.live] at hl
      | siter s pos => simp [CB.live] at hl
  · refine ⟨hos, htp, hout, by omega, fun B hB hno => hother B (fun e => hno _ _ _ hb ho hp e.symm), fun c y q hy hq => .inr ⟨c, y, q, (hget hy).2, hq, rfl, .inl rfl⟩, fun c y y' hy hy' => by
      have := (hget hy').2; rw [hy] at this; cases this; rfl, by simp, fun c hc hg => ?_, fun _ _ => rfl⟩
    rw [CM.get_set]; split
    · rfl
    · exact hg

theorem leaveD_sound {fn : Func} {ρ : Nat → Value} {R : CE → CM → Prop} : ∀ (ds : List Deferred) (u : CMd) (m : CM), leaveD P fn.results.toList ρ ds u m R →
    ∃ e m', R e m' ∧ ∀ ι w tmps dsw uw, Rel ι m w → (∀ t, tr ι (ρ t) = some (tmps.getD t undef)) → trDs ι ds = some dsw → URel ι u uw → LeavesInM Fence.wide 0 P fn tmps (Ended ι m w e m') dsw uw w
  | [], .ret, m, h => by
    obtain ⟨vs, hv, hR⟩ := resW_sound _ _ h
    refine ⟨_, _, hR, ?_⟩
    intro ι w tmps dsw uw hr ht hd hu
    simp [trDs] at hd; subst hd
    cases uw <;> simp only [URel] at hu
    obtain ⟨v', hrun, htv⟩ := run_results' hr ht hv
    exact ⟨v', hrun, ι, .refl ι, hr, htv, .refl ..⟩
  | [], .pan ch, m, h => by
    refine ⟨.pan ch, m, h, ?_⟩
    intro ι w tmps dsw uw hr ht hd hu
    simp [trDs] at hd; subst hd
    cases uw <;> simp only [URel] at hu
    exact ⟨ι, .refl ι, hr, hu, .refl ..⟩
  | d :: ds, u, m, h => by
    simp only [leaveD] at h
    have hmode : ∀ {ι uw}, URel ι u uw → uw ≠ .run := by
      intro ι uw hu e; subst e; cases u <;> exact hu
    split at h
    · rename_i D hD
      obtain ⟨hg, hk⟩ := h
      obtain ⟨e, m', hR, hh⟩ := leaveD_sound ds u _ hk
      refine ⟨e, m', hR, ?_⟩
      intro ι w tmps dsw uw hr ht hd hu
      obtain ⟨p, hp, hw⟩ := hr.blk _ _ hg
      have hw : w.heap[p.blk]? = some (.deferred (some [])) := hw
      simp only [trDs] at hd
      split at hd
      · rename_i d2 ds2 h1 h2
        cases hd
        have hd2 : d2 = { target := .collected p.blk, args := d.args } := by
          simp only [trD, hD, hp] at h1; simpa using h1.symm
        subst hd2
        have hdrop := hr.dropBlock (w' := { w with heap := w.heap.setIfInBounds p.blk (.deferred none) }) hg rfl hp (fun B hB => by simp [Ne.symm hB]) (by simp) rfl rfl rfl
        refine ⟨hmode hu, .inl ⟨p.blk, _, rfl, run_takeDeferred hw, ?_⟩⟩
        have := hh ι _ tmps ds2 uw hdrop.1 ht h2 hu
        -- what is left from the later world is left from the earlier one
        have conv : ∀ e0 w0, Ended ι (m.set D none) { w with heap := w.heap.setIfInBounds p.blk (.deferred none) } e m' e0 w0 → Ended ι m w e m' e0 w0 := by
          rintro e0 w0 ⟨ι', hle, hr', he, hf⟩
          exact ⟨ι', hle, hr', he, hdrop.2.trans hr hdrop.1 (.refl ι) hf⟩
        exact leavesInM_mono conv _ _ _ this
      · cases hd
    · rename_i g cs hD
      obtain ⟨u', m1, hc, hk⟩ := h
      obtain ⟨e, m', hR, hh⟩ := leaveD_sound ds (csettle u') m1 hk
      refine ⟨e, m', hR, ?_⟩
      intro ι w tmps dsw uw hr ht hd hu
      simp only [trDs] at hd
      split at hd
      · rename_i d2 ds2 h1 h2
        cases hd
        simp only [trD, hD, trFn] at h1
        cases e1 : trL ι cs with
        | none => simp [e1] at h1
        | some cs' =>
          cases e2 : trL ι d.args.toList with
          | none => simp [e1, e2] at h1
          | some as' =>
            simp [e1, e2] at h1; subst h1
            refine ⟨hmode hu, .inr ⟨fun hh => by simp [Fence.wide] at hh, .func g, ⟨cs'⟩, g, ⟨as' ++ cs'⟩, rfl, ?_, fun _ _ => trivial, ?_⟩⟩
            · have e3 : (⟨as'⟩ : Array Value) ++ ⟨cs'⟩ = ⟨as' ++ cs'⟩ := Array.ext' (by simp)
              simp only [invoke]; rw [e3]; exact run_callFunc hc.1 _ _
            · refine callsDIn_mono (hc.2 ι w _ uw hr (trL_append e2 e1) hu) ?_
              rintro e0 uw' w' ⟨v, ι', rfl, hle, hr', hu', hf⟩
              have := hh ι' w' tmps ds2 (settle uw') hr' (fun t => tr_mono hle _ _ (ht t)) (trDs_mono hle h2) (settle_rel hu')
              have conv : ∀ e0 w0, Ended ι' m1 w' e m' e0 w0 → Ended ι m w e m' e0 w0 := by
                rintro e0 w0 ⟨ι2, hle2, hr2, he2, hf2⟩
                exact ⟨ι2, hle.trans hle2, hr2, he2, hf.trans hr hr' hle hf2⟩
              exact leavesInM_mono conv _ _ _ this
      · cases hd
    · exact h.elim
  where
  callsDIn_mono {F : Fence} {n : Nat} {f : FuncId} {args : Array Value} {u : FrameMode} {w : World} {R R' : Ending → FrameMode → World → Prop} (h : CallsDIn F n P f args u w R) (hr : ∀ e u' w', R e u' w' → R' e u' w') : CallsDIn F n P f args u w R' :=
    ⟨h.1, fun c cs hu hroom => let ⟨e, u', w', fr, r, rest⟩ := h.2 c cs hu hroom; ⟨e, u', w', fr, hr _ _ _ r, rest⟩⟩
  leavesInM_mono {fn : Func} {tmps : Array Value} {R R' : Ending → World → Prop} (hr : ∀ e w, R e w → R' e w) : ∀ (ds : List Deferred) (u : FrameMode) (w : World), LeavesInM Fence.wide 0 P fn tmps R ds u w → LeavesInM Fence.wide 0 P fn tmps R' ds u w
    | [], u, w, h => by
      cases u with
      | run => exact h
      | returning => obtain ⟨v, h1, h2⟩ := h; exact ⟨v, h1, hr _ _ h2⟩
      | panicking c => exact hr _ _ h
    | d :: ds, u, w, h => by
      obtain ⟨h1, h2⟩ := h
      refine ⟨h1, h2.imp (fun ⟨r, w', a, b, c⟩ => ⟨r, w', a, b, leavesInM_mono hr ds u w' c⟩) (fun ⟨hn, fv, cap, f, args, a, b, c, d⟩ => ⟨hn, fv, cap, f, args, a, b, c, callsDIn_mono d ?_⟩)⟩
      rintro e u' w' h3
      cases e with
      | returned v => exact leavesInM_mono hr ds _ w' h3
      | panicked c => exact leavesInM_mono hr ds _ w' h3
      | outgrown => exact hr _ _ h3

/-- The frame at a function's begin. -/
def enterA (fn : Func) (args : List Value) : CA := { n := fn.ntmps, ρ := fun t => args.getD t undef, ds := [] }

/-- A FUNCTION's CONTRACT OUT OF ITS BODY. -/
theorem callw_of' {f : FuncId} {fn : Func} {c : Code} {args : List Value} {m : CM} {R : CE → CM → Prop} (hf : P.funcs[f]? = some fn) (hb : fn.body = some c) (hn : fn.name ≠ "runtime.NumGoroutine") (hl : args.length ≤ fn.ntmps) 
    (h : ∃ e a' m1, CEvC P none c (enterA fn args) m e a' m1 ∧ leaveX P fn.results.toList R e a' m1) : ∃ e m', CEvCall P f args m e m' ∧ R e m' := by
  obtain ⟨e, a', m1, h1, h2⟩ := h
  have hgo : isGo P f = true := by simp [isGo, hf, hb, hn]
  have fin : ∀ {u : CMd}, leaveD P fn.results.toList a'.ρ a'.ds u m1 R → (∀ ι e', XRel ι e e' → (e' = .normal ∨ e' = .ret) ∧ u = .ret ∨ ∃ ch', e' = .panic ch' ∧ ∃ ch, u = .pan ch ∧ trPs ι ch = some ch') → ∃ e m', CEvCall P f args m e m' ∧ R e m' := by
    intro u hlv hx
    obtain ⟨ce, m', hR, hh⟩ := leaveD_sound _ _ _ hlv
    refine ⟨ce, m', ⟨hgo, ?_⟩, hR⟩
    intro ι w args' hr hargs
    refine callsIn_of_wp_marks hf hb trivial ?_
    have hra : RelA ι (enterA fn args) { tmps := ⟨args'⟩ ++ Array.replicate (fn.ntmps - (⟨args'⟩ : Array Value).size) undef, defers := [] } := by
      have hlen := trL_length hargs
      refine ⟨by simp [enterA]; omega, fun t => ?_, by simp [enterA, trDs]⟩
      simp only [enterA, Array.getD_eq_getD_getElem?]
      by_cases ht : t < args.length
      · rw [Array.getElem?_append_left (by simp; omega)]
        obtain ⟨v', hv', htr⟩ := trL_get hargs t args[t] (List.getElem?_eq_getElem ht)
        simp [hv', htr, List.getD_eq_getElem?_getD, List.getElem?_eq_getElem ht]
      · rw [Array.getElem?_append_right (by simp; omega)]
        have : (Array.replicate (fn.ntmps - (⟨args'⟩ : Array Value).size) undef)[t - (⟨args'⟩ : Array Value).size]?.getD undef = undef := by
          rw [Array.getElem?_replicate]; split <;> rfl
        rw [this]
        simp [List.getD_eq_getElem?_getD, List.getElem?_eq_none (Nat.le_of_not_lt ht), undef, tr, trL]
    refine wpIn_mono (h1 ι w _ Fence.wide hr hra rfl) ?_
    rintro e' aw1 w1 ⟨ι1, hle1, hr1, ha1, hxe, hf1⟩
    have conv : ∀ e0 w0, Ended ι1 m1 w1 ce m' e0 w0 → Ended ι m w ce m' e0 w0 := by
      rintro e0 w0 ⟨ι2, hle2, hr2, he2, hf2⟩
      exact ⟨ι2, hle1.trans hle2, hr2, he2, hf1.trans hr hr1 hle1 hf2⟩
    rcases hx ι1 e' hxe with ⟨h0, rfl⟩ | ⟨ch', rfl, ch, rfl, hch⟩
    · have := hh ι1 w1 aw1.tmps aw1.defers .returning hr1 ha1.tmps ha1.ds trivial
      rcases h0 with rfl | rfl
      · exact leaveD_sound.leavesInM_mono conv _ _ _ this
      · exact leaveD_sound.leavesInM_mono conv _ _ _ this
    · have := hh ι1 w1 aw1.tmps aw1.defers (.panicking ch') hr1 ha1.tmps ha1.ds hch
      exact leaveD_sound.leavesInM_mono conv _ _ _ this
  cases e with
  | normal => exact fin (u := .ret) (by simpa only [leaveX, leaveV_eq] using h2) (fun ι e' hx => by cases e' <;> simp_all [XRel])
  | ret => exact fin (u := .ret) (by simpa only [leaveX, leaveV_eq] using h2) (fun ι e' hx => by cases e' <;> simp_all [XRel])
  | panic ch => exact fin (u := .pan ch) (by simpa only [leaveX, leaveV_eq] using h2) (fun ι e' hx => by cases e' <;> simp_all [XRel])
  | exit i => exact h2.elim
  | goto i => exact h2.elim
  | outgrown => exact h2.elim
theorem callw_of (hmx : P.follows .mixedOrders = true) {ann : Nat → List Nat} {f : FuncId} {fn : Func} {c : Code} {args : List Value} {m : CM} {R : CE → CM → Prop} (hf : P.funcs[f]? = some fn) (hb : fn.body = some c) (hn : fn.name ≠ "runtime.NumGoroutine") (hl : args.length ≤ fn.ntmps) (hok : codeOk ann fn.ntmps c = true)
    (h : wpc P ann none c (leaveX P fn.results.toList R) (enterA fn args) m) : ∃ e m', CEvCall P f args m e m' ∧ R e m' := by
  obtain ⟨e, a', m1, h1, _, h2⟩ := wpc_sound hmx c _ _ _ hok rfl h
  exact callw_of' hf hb hn hl ⟨e, a', m1, h1, h2⟩
end
end Go.Proofs.Ytjkfleibnojjaaa
end

section
namespace Go.Proofs.Ytjkfleibnojjaaa
open Go

/-! ### A deferred function that asks recover first -/
def recA : CMd → Value × CMd
  | .pan ({ v, recovered := false, goexit := false } :: older) => (v, .pan ({ v, recovered := true, goexit := false } :: older))
  | u => (.nilIface, u)

theorem recoverD_rel {ι : Inj} {u : CMd} {uw : FrameMode} (hu : URel ι u uw) (c₀ : Frame) (cs : List Frame) (hc : c₀.mode = uw) :
    ∃ v' uw', tr ι (recA u).1 = some v' ∧ URel ι (recA u).2 uw' ∧
      ((recoverD (c₀ :: cs) = some (v', { c₀ with mode := uw' } :: cs)) ∨ (recoverD (c₀ :: cs) = none ∧ v' = .nilIface ∧ uw' = uw)) := by
  subst hc
  have hnone : ∀ {u : CMd}, URel ι u c₀.mode → recA u = (.nilIface, u) → recoverD (c₀ :: cs) = none → ∃ v' uw', tr ι (recA u).1 = some v' ∧ URel ι (recA u).2 uw' ∧
      ((recoverD (c₀ :: cs) = some (v', { c₀ with mode := uw' } :: cs)) ∨ (recoverD (c₀ :: cs) = none ∧ v' = .nilIface ∧ uw' = c₀.mode)) := by
    intro u hu h1 h2
    rw [h1]
    exact ⟨.nilIface, c₀.mode, by simp [tr], hu, .inr ⟨h2, rfl, rfl⟩⟩
  cases u with
  | ret =>
    refine hnone hu rfl ?_
    cases hm : c₀.mode <;> rw [hm] at hu <;> first | exact hu.elim | simp [recoverD, hm]
  | pan c =>
    cases hm : c₀.mode with
    | returning => rw [hm] at hu; exact hu.elim
    | run => rw [hm] at hu; exact hu.elim
    | panicking c' =>
      rw [hm] at hu
      cases c with
      | nil =>
        simp only [URel, trPs] at hu; cases hu
        rw [← hm]
        exact hnone (by rw [hm]; simp [URel, trPs]) rfl (by simp [recoverD, hm])
      | cons e older =>
        have hu0 := hu
        simp only [URel, trPs] at hu
        split at hu
        · rename_i e2 l2 h1 h2
          cases hu
          have he : ∃ v2, tr ι e.v = some v2 ∧ e2 = { e with v := v2 } := by
            simp only [trP] at h1
            cases hv : tr ι e.v with
            | none => simp [hv] at h1
            | some v => simp [hv] at h1; exact ⟨v, rfl, h1.symm⟩
          obtain ⟨v2, hv2, rfl⟩ := he
          obtain ⟨v, rc, ge⟩ := e
          cases rc with
          | true =>
            rw [← hm]
            exact hnone (by rw [hm]; exact hu0) rfl (by simp [recoverD, hm])
          | false =>
            cases ge with
            | true =>
              rw [← hm]
              exact hnone (by rw [hm]; exact hu0) rfl (by simp [recoverD, hm])
            | false =>
              refine ⟨v2, .panicking ({ v := v2, recovered := true, goexit := false } :: l2), hv2, ?_, .inl ?_⟩
              · simp only [recA, URel, trPs, trP]
                simp only at hv2
                rw [hv2, h2]
                rfl
              · simp [recoverD, hm]
        · cases hu

theorem defw_of' {P : Program} {g : FuncId} {fn : Func} {id : Nat} {o0 o1 : Oper} {rest : Code} {args : List Value} {u : CMd} {m : CM} {R : CMd → CM → Prop} {ts : Array TypeId} {d : Tmp}
    (hf : P.funcs[g]? = some fn) (hb : fn.body = some (.seq (.region id #[o0, o1] false) rest)) (hn : fn.name ≠ "runtime.NumGoroutine") (hl : args.length ≤ fn.ntmps)
    (h0 : o0.op = .call { callee := .builtin .recover, args := #[], argTypes := ts }) (hg0 : o0.guard = none) (hd : o0.dst = some d) (hdn : d < fn.ntmps) (h1 : o1.op = .assign (.tmp d)) (hg1 : o1.guard = none) (hd1 : dOk fn.ntmps o1.dst = true) 
    (h : ∃ e a m', CEvC P none rest (((enterA fn args).put o0.dst (recA u).1).put o1.dst (recA u).1) m e a m' ∧ (e = .normal ∨ e = .ret) ∧ a.ds = [] ∧ (∃ vs, cresV P a.ρ m' fn.results.toList = some vs) ∧ R (recA u).2 m') : defw P g args u m R := by
  obtain ⟨e, a', m1, hc, he, hds, ⟨vs, hvs⟩, hR⟩ := h
  refine ⟨(recA u).2, m1, ⟨by simp [isGo, hf, hb, hn], ?_⟩, hR⟩
  intro ι w args' uw hr hargs hu
  refine callsDIn_of_wpSIn hf hb trivial ?_
  intro c₀ cs hmode
  have hra : RelA ι (enterA fn args) { tmps := ⟨args'⟩ ++ Array.replicate (fn.ntmps - (⟨args'⟩ : Array Value).size) undef, defers := [] } := by
    have hlen := trL_length hargs
    refine ⟨by simp [enterA]; omega, fun t => ?_, by simp [enterA, trDs]⟩
    simp only [enterA, Array.getD_eq_getD_getElem?]
    by_cases ht : t < args.length
    · rw [Array.getElem?_append_left (by simp; omega)]
      obtain ⟨v', hv', htr⟩ := trL_get hargs t args[t] (List.getElem?_eq_getElem ht)
      simp [hv', htr, List.getD_eq_getElem?_getD, List.getElem?_eq_getElem ht]
    · rw [Array.getElem?_append_right (by simp; omega)]
      have : (Array.replicate (fn.ntmps - (⟨args'⟩ : Array Value).size) undef)[t - (⟨args'⟩ : Array Value).size]?.getD undef = undef := by
        rw [Array.getElem?_replicate]; split <;> rfl
      rw [this]
      simp [List.getD_eq_getElem?_getD, List.getElem?_eq_none (Nat.le_of_not_lt ht), undef, tr, trL]
  obtain ⟨v', uw', hv', hu', hrec⟩ := recoverD_rel hu c₀ cs hmode
  -- what stands behind the two operations
  have hrest : ∀ (aw : Act), RelA ι (((enterA fn args).put o0.dst (recA u).1).put o1.dst (recA u).1) aw →
      rest.wpSIn Fence.wide 0 P (bodyPostS P fn c₀ cs fun e' uw' w' => ∃ v ι', e' = .returned v ∧ ι.le ι' ∧ Rel ι' m1 w' ∧ URel ι' (recA u).2 uw' ∧ Fr ι m w ι' m1 w') aw ({ c₀ with mode := uw' } :: cs) w := by
    intro aw haw
    refine wpSIn_of_wpIn rfl (wpIn_mono (hc ι w aw Fence.wide hr haw rfl) ?_)
    rintro e' aw1 w1 ⟨ι1, hle1, hr1, ha1, hx, hf1⟩
    obtain ⟨rv, hrun, htv⟩ := run_results' hr1 ha1.tmps (fn := fn) hvs
    have hdw : aw1.defers = [] := by
      have := ha1.ds; rw [hds] at this; simpa [trDs] using this.symm
    have hURel : URel ι1 (recA u).2 uw' := by
      cases hq : (recA u).2 with
      | ret => rw [hq] at hu'; cases uw' <;> exact hu'
      | pan c =>
        rw [hq] at hu'
        cases uw' with
        | returning => exact hu'.elim
        | run => exact hu'.elim
        | panicking c' => exact trPs_mono hle1 hu'
    have hpost : aw1.defers = [] ∧ ∃ u', ({ c₀ with mode := uw' } : Frame) :: cs = { c₀ with mode := u' } :: cs ∧ ∃ v, (results fn aw1.tmps).run P w1 = .ok v w1 ∧ ∃ v0 ι', Ending.returned v = .returned v0 ∧ ι.le ι' ∧ Rel ι' m1 w1 ∧ URel ι' (recA u).2 u' ∧ Fr ι m w ι' m1 w1 :=
      ⟨hdw, uw', rfl, rv, hrun, rv, ι1, rfl, hle1, hr1, hURel, hf1⟩
    rcases he with rfl | rfl
    · cases e' <;> simp only [XRel] at hx; exact hpost
    · cases e' <;> simp only [XRel] at hx; exact hpost
  have hd0 : dOk (enterA fn args).n o0.dst = true := by rw [hd]; simpa [dOk, enterA] using hdn
  have haw2 := (hra.put o0.dst hd0 hv').put o1.dst (by rw [put_n]; exact hd1) hv'
  refine wpSIn_seq (wpSIn_region ?_)
  have hrange : List.range (#[o0, o1] : Array Oper).size = [0, 1] := rfl
  rw [hrange]
  have hrun0 : ∀ aw : Act, (execOp aw.eval o0).run P w = .ok .recover w := by
    intro aw; simp [execOp, h0, resolve, invoke, builtin]
  have hw0 : ∀ t : Array Value, Region.wanted o0 (yielded #[o0, o1] t) = true := by intro aw; simp [Region.wanted, hg0]
  have hw1 : ∀ t : Array Value, Region.wanted o1 (yielded #[o0, o1] t) = true := by intro aw; simp [Region.wanted, hg1]
  have hrun1 : ∀ aw : Act, (execOp aw.eval o1).run P w = .ok (.value (aw.tmps.getD d undef)) w := by
    intro aw; simp [execOp, h1, Act.eval]
  have hdst : ((({ tmps := ⟨args'⟩ ++ Array.replicate (fn.ntmps - (⟨args'⟩ : Array Value).size) undef, defers := [] } : Act).put o0.dst v').tmps.getD d undef) = v' := by
    have h2 := (hra.put o0.dst hd0 hv').tmps d
    have e2 : ((enterA fn args).put o0.dst (recA u).1).ρ d = (recA u).1 := by
      simp [hd, CA.put, enterA]
    rw [e2, hv'] at h2
    exact (Option.some.inj h2).symm
  have e0 : (#[o0, o1] : Array Oper)[0]? = some o0 := rfl
  have e1 : (#[o0, o1] : Array Oper)[1]? = some o1 := rfl
  simp only [wpOpsSIn, e0, e1]
  refine ⟨fun _ _ => trivial, ?_⟩
  rw [if_pos (hw0 _), hrun0]
  rcases hrec with hrec | ⟨hrec, rfl, rfl⟩
  · simp only [hrec]
    refine ⟨fun _ _ => trivial, ?_⟩
    rw [if_pos (hw1 _), hrun1]
    simp only []
    rw [hdst]
    exact hrest _ haw2
  · simp only [hrec]
    refine ⟨fun _ _ => trivial, ?_⟩
    rw [if_pos (hw1 _), hrun1]
    simp only []
    rw [hdst]
    have hm : ({ c₀ with mode := uw' } : Frame) = c₀ := by rw [← hmode]
    have := hrest _ haw2
    rw [hm] at this
    exact this

theorem defw_of {P : Program} (hmx : P.follows .mixedOrders = true) {ann : Nat → List Nat} {g : FuncId} {fn : Func} {id : Nat} {o0 o1 : Oper} {rest : Code} {args : List Value} {u : CMd} {m : CM} {R : CMd → CM → Prop} {ts : Array TypeId} {d : Tmp}
    (hf : P.funcs[g]? = some fn) (hb : fn.body = some (.seq (.region id #[o0, o1] false) rest)) (hn : fn.name ≠ "runtime.NumGoroutine") (hl : args.length ≤ fn.ntmps)
    (h0 : o0.op = .call { callee := .builtin .recover, args := #[], argTypes := ts }) (hg0 : o0.guard = none) (hd : o0.dst = some d) (hdn : d < fn.ntmps) (h1 : o1.op = .assign (.tmp d)) (hg1 : o1.guard = none) (hd1 : dOk fn.ntmps o1.dst = true) (hok : codeOk ann fn.ntmps rest = true)
    (h : wpc P ann none rest (fun e a m' => (e = .normal ∨ e = .ret) ∧ a.ds = [] ∧ (∃ vs, cresV P a.ρ m' fn.results.toList = some vs) ∧ R (recA u).2 m') (((enterA fn args).put o0.dst (recA u).1).put o1.dst (recA u).1) m) : defw P g args u m R := by
  obtain ⟨e, a', m1, hc, hnn, he, hds, hvs, hR⟩ := wpc_sound hmx _ _ _ _ hok (by rw [put_n, put_n]; rfl) h
  exact defw_of' hf hb hn hl h0 hg0 hd hdn h1 hg1 hd1 ⟨e, a', m1, hc, he, hds, hvs, hR⟩

/-! ### Words for the printed texts -/
def dfn (f : Value) (xs : List Value) : Deferred := match f with | .func fn ⟨fs⟩ cs => { target := .fn fn cs, args := ⟨fs ++ xs⟩ } | _ => { target := .collected 0, args := #[] }
def CA.dfr (a : CA) (d : Deferred) : CA := { a with ds := d :: a.ds }
end Go.Proofs.Ytjkfleibnojjaaa
end

section
namespace Go.Proofs.Ytjkfleibnojjaaa
open Go

/-- What follows a call, for each of its two endings. -/
def RK (K : Value → CM → Prop) (Kp : List PanicEntry → CM → Prop) (e : CE) (m : CM) : Prop := match e with | .ret v => K v m | .pan ch => Kp ch m

theorem callw_text {P : Program} (hmx : P.follows .mixedOrders = true) {ann : Nat → List Nat} {f : FuncId} {fn : Func} {c : Code} {args : List Value} {m : CM} {K : Value → CM → Prop} {Kp : List PanicEntry → CM → Prop}
    (hf : P.funcs[f]? = some fn) (hb : fn.body = some c) (hn : (fn.name == "runtime.NumGoroutine") = false) (hl : Nat.ble args.length fn.ntmps = true) (hok : codeOk ann fn.ntmps c = true)
    (h : wpc P ann none c (leaveX P fn.results.toList (RK K Kp)) (enterA fn args) m) : callw P f args m K Kp := by
  obtain ⟨e, m', h1, h2⟩ := callw_of hmx hf hb (by simpa using hn) (Nat.le_of_ble_eq_true hl) hok h
  exact ⟨e, m', h1, by cases e <;> exact h2⟩

theorem yield_text {P : Program} (hmx : P.follows .mixedOrders = true) {ann : Nat → List Nat} {l D : Nat} {A : CA} {ps : Array Tmp} {as bd : Code} {args : List Value} {m : CM} {RY : Value → CM → Prop}
    (hl : m.get l = some (.loop (rfRec A ps as bd D))) (hn : Nat.beq args.length ps.toList.length = true) (hok1 : codeOk ann A.n as = true) (hok2 : codeOk ann A.n bd = true) (hps : ps.toList.all (fun t => dOk A.n (some t)) = true)
    (h : wpc P ann (some l) as (assignEnd P ann l bd RY) (roundA (rfRec A ps as bd D) args) m) : yieldw P l args m RY :=
  yieldw_of hmx hl (Nat.eq_of_beq_eq_true hn) hok1 hok2 hps h
end Go.Proofs.Ytjkfleibnojjaaa
end

section
namespace Go.Proofs.Ytjkfleibnojjaaa
open Go

/-! ### Steps -/
section
variable {P : Program} {m : CM} {K : Value → CM → Prop} {Kp : List PanicEntry → CM → Prop}
theorem pop_some {v : Value} : pop (some v) m K ↔ K v m := ⟨fun ⟨_, h, k⟩ => by cases h; exact k, fun h => ⟨v, rfl, h⟩⟩
theorem vop_some {v : Value} {m' : CM} : vop (some (v, m')) K ↔ K v m' := ⟨fun ⟨_, _, h, k⟩ => by cases h; exact k, fun h => ⟨v, m', rfl, h⟩⟩
theorem sop_some {m' : CM} : sop (some m') K ↔ K undef m' := ⟨fun ⟨_, h, k⟩ => by cases h; exact k, fun h => ⟨m', rfl, h⟩⟩
theorem boxw_iff {v : Value} : boxw v m K ↔ K (.pointer (some ⟨m.next, 0, none⟩)) (m.alloc (.cells (toL v) 0 true)) := ⟨fun h => h.h, fun h => ⟨h⟩⟩
theorem alw_iff {t : TypeId} {l : List Value} (h : zeroL P t = some l) : alw P t m K ↔ K (.pointer (some ⟨m.next, 0, none⟩)) (m.alloc (.cells l 0 true)) := ⟨fun ⟨_, h', k⟩ => by rw [h] at h'; cases h'; exact k, fun k => ⟨l, h, k⟩⟩
theorem gb_bool {b w : Bool} : gb (.bool b) w = some (b == w) := rfl
theorem gb_undef {w : Bool} : gb undef w = some false := rfl
theorem gop_true {X : (Value → CM → Prop) → Prop} : gop (some true) X K m ↔ X K := ⟨fun h => h.h, fun h => ⟨h⟩⟩
theorem gop_false {X : (Value → CM → Prop) → Prop} : gop (some false) X K m ↔ K undef m := ⟨fun h => h.h, fun h => ⟨h⟩⟩
theorem cnd_true {A B : Prop} : cnd (.bool true) A B ↔ A := ⟨fun h => h.h, fun h => ⟨h⟩⟩
theorem cnd_false {A B : Prop} : cnd (.bool false) A B ↔ B := ⟨fun h => h.h, fun h => ⟨h⟩⟩
theorem cnd_bool {b : Bool} {A B : Prop} : cnd (.bool b) A B ↔ if b then A else B := by cases b <;> simp [cnd_true, cnd_false]
theorem cpick_bool {b : Bool} {x y : Value} : cpick (.bool b) x y = some (if b then x else y) := rfl
theorem dgs_true {X : (Value → Prop) → Prop} {K : Value → Prop} : dgs (some true) X K ↔ X K := ⟨fun h => h.h, fun h => ⟨h⟩⟩
theorem dgs_false {X : (Value → Prop) → Prop} {K : Value → Prop} : dgs (some false) X K ↔ K undef := ⟨fun h => h.h, fun h => ⟨h⟩⟩
theorem dgo_true {X : (Value → Option CM → Nat → Prop) → Prop} {K : Value → Option CM → Nat → Prop} {nx : Nat} : dgo (some true) X K nx ↔ X K := ⟨fun h => h.h, fun h => ⟨h⟩⟩
theorem dgo_false {X : (Value → Option CM → Nat → Prop) → Prop} {K : Value → Option CM → Nat → Prop} {nx : Nat} : dgo (some false) X K nx ↔ K undef none nx := ⟨fun h => h.h, fun h => ⟨h⟩⟩
theorem RK_ret {v : Value} : RK K Kp (.ret v) m = K v m := rfl
theorem RK_pan {ch : List PanicEntry} : RK K Kp (.pan ch) m = Kp ch m := rfl
theorem leave1 {v : Value} {R : CE → CM → Prop} : leaveV P [.v v] [] .ret m R = R (.ret v) m := rfl
theorem leave2 {v u : Value} {R : CE → CM → Prop} : leaveV P [.v v, .v u] [] .ret m R = R (.ret (.tuple ⟨[v, u]⟩)) m := rfl
theorem leave3 {v u w : Value} {R : CE → CM → Prop} : leaveV P [.v v, .v u, .v w] [] .ret m R = R (.ret (.tuple ⟨[v, u, w]⟩)) m := rfl
theorem leave0 {R : CE → CM → Prop} : leaveV P [] [] .ret m R = R (.ret (.tuple ⟨[]⟩)) m := rfl
theorem leavep {l : List RV} {ch : List PanicEntry} {R : CE → CM → Prop} : leaveV P l [] (.pan ch) m R = R (.pan ch) m := rfl
theorem pop_congr {x y : Option Value} (h : x = y) : pop x m K = pop y m K := by rw [h]
theorem vop_congr {x y : Option (Value × CM)} (h : x = y) : vop x K = vop y K := by rw [h]
theorem sop_congr {x y : Option CM} (h : x = y) : sop x K = sop y K := by rw [h]
theorem gop_congr {g g' : Option Bool} {X : (Value → CM → Prop) → Prop} (h : g = g') : gop g X K m = gop g' X K m := by rw [h]
theorem cnd_congr {v v' : Value} {A B : Prop} (h : v = v') : cnd v A B = cnd v' A B := by rw [h]
theorem callw_congr {f : FuncId} {a a' : List Value} {m' : CM} (h : a = a') (h2 : m = m') : callw P f a m K Kp = callw P f a' m' K Kp := by rw [h, h2]
theorem callv_congr {f f' : Value} {a a' : List Value} {m' : CM} (h0 : f = f') (h : a = a') (h2 : m = m') : callv P f a m K Kp = callv P f' a' m' K Kp := by rw [h0, h, h2]
theorem callw_mono {f : FuncId} {a : List Value} {K' : Value → CM → Prop} {Kp' : List PanicEntry → CM → Prop} (h : callw P f a m K Kp) (h1 : ∀ v m', K v m' → K' v m') (h2 : ∀ c m', Kp c m' → Kp' c m') : callw P f a m K' Kp' := by
  obtain ⟨e, m', hc, hk⟩ := h
  exact ⟨e, m', hc, by cases e with | ret v => exact h1 _ _ hk | pan c => exact h2 _ _ hk⟩
theorem callv_mono {f : Value} {a : List Value} {K' : Value → CM → Prop} {Kp' : List PanicEntry → CM → Prop} (h : callv P f a m K Kp) (h1 : ∀ v m', K v m' → K' v m') (h2 : ∀ c m', Kp c m' → Kp' c m') : callv P f a m K' Kp' := by
  unfold callv at h ⊢
  split at h
  · exact callw_mono h h1 h2
  · obtain ⟨v, m', hc, hk⟩ := h; exact ⟨v, m', hc, h1 _ _ hk⟩
  · obtain ⟨t, v, f, rv, h3, h4, h5⟩ := h; exact ⟨t, v, f, rv, h3, h4, callw_mono h5 h1 h2⟩
  · exact h.elim
/-- A loop, by a measure. -/
theorem loopA_of {L : List Nat} {B : (List Value → List Deferred → CM → Prop) → (Nat → Value) → List Deferred → CM → Prop} (Inv : List Value → List Deferred → CM → Prop) (μ : List Value → CM → Nat)
    {s : List Value} {ds : List Deferred} {m : CM} (h0 : Inv s ds m)
    (h : ∀ X : List Value → List Deferred → CM → Prop, ∀ ρ ds m, Inv (L.map ρ) ds m → (∀ s' ds' m', Inv s' ds' m' → μ s' m' < μ (L.map ρ) m → X s' ds' m') → B X ρ ds m) : loopA L B s ds m := by
  refine ⟨fun X hX => ?_⟩
  have : ∀ k s ds m, μ s m ≤ k → Inv s ds m → X s ds m := by
    intro k
    induction k with
    | zero =>
      intro s ds m hk hi
      refine hX s ds m (fun ρ hρ => h X ρ ds m (by rw [hρ]; exact hi) (fun s' ds' m' hi' hlt => ?_))
      rw [hρ] at hlt; omega
    | succ k ih =>
      intro s ds m hk hi
      refine hX s ds m (fun ρ hρ => h X ρ ds m (by rw [hρ]; exact hi) (fun s' ds' m' hi' hlt => ?_))
      rw [hρ] at hlt
      exact ih s' ds' m' (by omega) hi'
  exact this _ s ds m (Nat.le_refl _) h0
end
theorem get_alloc_eq {m : CM} {x : CB} {b : Nat} (h : b = m.next) : (m.alloc x).get b = some x := by rw [CM.get_alloc, if_pos h]
theorem get_alloc_ne {m : CM} {x : CB} {b : Nat} (h : b < m.next) : (m.alloc x).get b = m.get b := by rw [CM.get_alloc, if_neg (by omega)]
theorem get_put_eq {m : CM} {x : CB} {b c : Nat} (h : b = c) : (m.put c x).get b = some x := by rw [CM.get_put, if_pos h]
theorem get_put_ne {m : CM} {x : CB} {b c : Nat} (h : b ≠ c) : (m.put c x).get b = m.get b := by rw [CM.get_put, if_neg h]
/-- One cell. -/
def ld (m : CM) (b o : Nat) : Option Value := match m.get b with | some (.cells c _ _) => c[o]? | _ => none
/-- Some cells. -/
def ldA (m : CM) (b o n : Nat) : Option Value := match m.get b with | some (.cells c _ _) => if ((c.drop o).take n).length = n then some (.agg ⟨(c.drop o).take n⟩) else none | _ => none
theorem cload_s {P : Program} {t : TypeId} {b o : Nat} {m : CM} (h : aggB P t = some false) : cload P t (.pointer (some ⟨b, o, none⟩)) m = ld m b o := by
  simp only [cload, ld]
  cases m.get b with
  | none => rfl
  | some x => cases x <;> simp [h]
theorem cload_a {P : Program} {t : TypeId} {b o n : Nat} {m : CM} (h : aggB P t = some true) (hs : szOf P t = some n) : cload P t (.pointer (some ⟨b, o, none⟩)) m = ldA m b o n := by
  simp only [cload, ldA]
  cases m.get b with
  | none => rfl
  | some x => cases x <;> simp [h, hs]
end Go.Proofs.Ytjkfleibnojjaaa
end

section
namespace Go.Proofs.Ytjkfleibnojjaaa
open Go
section
variable {P : Program} {t : TypeId} {x y : Operand} {k : IntKind} {a b : Int}
theorem eqg {op : BinOp} {v : Value} : eqGuard op t x y (.int k a) v = pure () := by cases op <;> rfl
theorem pr_pure {α : Type} (v : α) : pureRun P (pure v : Sem α) = some v := rfl
theorem cb_add : cbin P .add t x y (.int k a) (.int k b) = some (.int k (k.wrap (a + b))) := by simp [cbin, plainV, eqg, binOp_add, Op.intArith, pr_pure, chk]
theorem cb_sub : cbin P .sub t x y (.int k a) (.int k b) = some (.int k (k.wrap (a - b))) := by simp [cbin, plainV, eqg, binOp_sub, Op.intArith, pr_pure, chk]
theorem cb_mul : cbin P .mul t x y (.int k a) (.int k b) = some (.int k (k.wrap (a * b))) := by simp [cbin, plainV, eqg, binOp_mul, Op.intArith, pr_pure, chk]
theorem cb_lss : cbin P .lss t x y (.int k a) (.int k b) = some (.bool (decide (a < b))) := by simp [cbin, plainV, eqg, binOp_lss, pr_pure, chk]
theorem cb_leq : cbin P .leq t x y (.int k a) (.int k b) = some (.bool (decide (a ≤ b))) := by simp [cbin, plainV, eqg, binOp_leq, pr_pure, chk]
theorem cb_gtr : cbin P .gtr t x y (.int k a) (.int k b) = some (.bool (decide (b < a))) := by simp [cbin, plainV, eqg, binOp_gtr, pr_pure, chk]
theorem cb_geq : cbin P .geq t x y (.int k a) (.int k b) = some (.bool (decide (b ≤ a))) := by simp [cbin, plainV, eqg, binOp_geq, pr_pure, chk]
theorem cb_eql : cbin P .eql t x y (.int k a) (.int k b) = some (.bool (a == b)) := by simp [cbin, plainV, eqg, binOp_eql, pr_pure, chk]
theorem cb_neq : cbin P .neq t x y (.int k a) (.int k b) = some (.bool (a != b)) := by simp [cbin, plainV, eqg, binOp_neq, pr_pure, chk]
theorem cun_not {c : Bool} : cun P .not (.bool c) = some (.bool !c) := by cases c <;> rfl
end
theorem wrap_id {n : Int} (h1 : -9223372036854775808 ≤ n) (h2 : n < 9223372036854775808) : IntKind.i64.wrap n = n := by
  simp [IntKind.wrap, IntKind.signed, IntKind.bits]; omega
end Go.Proofs.Ytjkfleibnojjaaa
end

section
namespace Go.Proofs.Ytjkfleibnojjaaa
open Go

/-! ### What a memory holds -/
/-- From one cell of a block on there stand some values. -/
def Cel (m : CM) (b o : Nat) (l : List Value) : Prop :=
  b < m.next ∧ ∃ c e own, m.get b = some (.cells c e own) ∧ ∀ j, j < l.length → c[o + j]? = l[j]?
/-- A block of the call's own, whole. -/
def Own (m : CM) (b : Nat) (c : List Value) (e : Nat) : Prop := b < m.next ∧ m.get b = some (.cells c e true)
theorem Cel.le {m m' : CM} {b o : Nat} {l : List Value} (h : Cel m b o l) (k : m.le m') : Cel m' b o l := by
  obtain ⟨h1, c, e, own, h2, h3⟩ := h
  exact ⟨Nat.lt_of_lt_of_le h1 k.1, c, e, own, by rw [k.2 b h1]; exact h2, h3⟩
theorem Own.le {m m' : CM} {b e : Nat} {l : List Value} (h : Own m b l e) (k : m.le m') : Own m' b l e :=
  ⟨Nat.lt_of_lt_of_le h.1 k.1, by rw [k.2 b h.1]; exact h.2⟩
theorem Own.cel {m : CM} {b e : Nat} {l : List Value} (h : Own m b l e) : Cel m b 0 l := ⟨h.1, l, e, true, h.2, fun j _ => by simp⟩

section
variable {P : Program} {t E T : TypeId} {m : CM} {b o e n : Nat} {l : List Value}
theorem Cel.s (h : Cel m b o l) (ha : aggB P t = some false) {j : Nat} {v : Value} (hv : l[j]? = some v) : cload P t (.pointer (some ⟨b, o + j, none⟩)) m = some v := by
  obtain ⟨h1, c, e, own, h2, h3⟩ := h
  have hj : j < l.length := (List.getElem?_eq_some_iff.1 hv).1
  simp only [cload, h2, ha]
  rw [h3 j hj, hv]
theorem Cel.z (h : Cel m b 0 l) (ha : aggB P t = some false) {j : Nat} {v : Value} (hv : l[j]? = some v) : cload P t (.pointer (some ⟨b, j, none⟩)) m = some v := by
  have := h.s ha hv
  simpa using this
theorem take_drop_of {c l : List Value} {o j k : Nat} (h : ∀ j, j < l.length → c[o + j]? = l[j]?) (hk : j + k ≤ l.length) : (c.drop (o + j)).take k = (l.drop j).take k := by
  apply List.ext_getElem?
  intro i
  simp only [List.getElem?_take, List.getElem?_drop]
  split
  · rename_i hi
    have := h (j + i) (by omega)
    rw [← this]; congr 1; omega
  · rfl
theorem Cel.a (h : Cel m b o l) (ha : aggB P t = some true) {k : Nat} (hs : szOf P t = some k) {j : Nat} (hk : j + k ≤ l.length) : cload P t (.pointer (some ⟨b, o + j, none⟩)) m = some (.agg ⟨(l.drop j).take k⟩) := by
  obtain ⟨h1, c, e, own, h2, h3⟩ := h
  simp only [cload, h2, ha, hs]
  rw [take_drop_of h3 hk, if_pos (by simp; omega)]
theorem Cel.za (h : Cel m b 0 l) (ha : aggB P t = some true) {k : Nat} (hs : szOf P t = some k) {j : Nat} (hk : j + k ≤ l.length) : cload P t (.pointer (some ⟨b, j, none⟩)) m = some (.agg ⟨(l.drop j).take k⟩) := by
  have := h.a ha hs hk
  simpa using this

/-- A slice of n elements, whose cells are row i. -/
def Sl (e : Nat) (m : CM) (v : Value) (n : Nat) (row : Nat → List Value) : Prop :=
  (v = .slice none 0 0 ∧ n = 0) ∨ (∃ b o k c own, v = .slice (some ⟨b, o, none⟩) n k ∧ b < m.next ∧ m.get b = some (.cells c e own) ∧
    ∀ i, i < n → (row i).length = e ∧ ∀ j, j < e → c[o + i * e + j]? = (row i)[j]?) ∨ ∃ b, v = .slice (some ⟨b, 0, some 0⟩) 0 0 ∧ b < m.next ∧ n = 0
theorem Sl.le {v : Value} {row : Nat → List Value} {m' : CM} (h : Sl e m v n row) (k : m.le m') : Sl e m' v n row := by
  rcases h with h | ⟨b, o, q, c, own, h1, h2, h3, h4⟩ | ⟨b, h1, h2, h3⟩
  · exact .inl h
  · exact .inr (.inl ⟨b, o, q, c, own, h1, Nat.lt_of_lt_of_le h2 k.1, by rw [k.2 b h2]; exact h3, h4⟩)
  · exact .inr (.inr ⟨b, h1, Nat.lt_of_lt_of_le h2 k.1, h3⟩)
theorem Sl.len {v : Value} {row : Nat → List Value} (h : Sl e m v n row) (un : P.underlying T = some (.slice E)) (m' : CM) : clen P T v m' = some (.int .i64 n) := by
  rcases h with ⟨rfl, rfl⟩ | ⟨b, o, q, c, own, rfl, _⟩ | ⟨b, rfl, _, rfl⟩ <;> simp [clen, un, goInt]
/-- An element's place. -/
theorem Sl.at {v : Value} {row : Nat → List Value} (h : Sl e m v n row) (un : P.underlying T = some (.slice E)) (sz : szOf P E = some e) {i : Int} (h0 : 0 ≤ i) (h1 : i < n) :
    ∃ b o, cia P T v (.int .i64 i) = some (.pointer (some ⟨b, o, none⟩)) ∧ Cel m b o (row i.toNat) ∧ (row i.toNat).length = e := by
  rcases h with ⟨rfl, rfl⟩ | ⟨b, o, q, c, own, rfl, h2, h3, h4⟩ | ⟨b, rfl, _, rfl⟩
  · omega
  rotate_left
  · omega
  · obtain ⟨h5, h6⟩ := h4 i.toNat (by omega)
    exact ⟨b, o + i.toNat * e, by simp [cia, un, sz, h0, h1], ⟨h2, c, e, own, h3, fun j hj => h6 j (by omega)⟩, h5⟩
theorem Sl.pre {v : Value} {row : Nat → List Value} (h : Sl e m v n row) (un : P.underlying T = some (.slice E)) (sz : szOf P E = some e) (he : 0 < e) {i : Int} (h0 : 0 ≤ i) (h1 : i ≤ n) (hn : 0 < n) {m' : CM} (hm : m.le m') :
    ∃ v', cslice P T v none (some (.int .i64 i)) none m' = some v' ∧ Sl e m v' i.toNat row := by
  rcases h with ⟨rfl, rfl⟩ | ⟨b, o, q, c, own, rfl, h2, h3, h4⟩ | ⟨b, rfl, _, rfl⟩
  · omega
  rotate_left
  · omega
  · obtain ⟨e', rfl⟩ : ∃ e', e = e' + 1 := ⟨e - 1, by omega⟩
    have hg : m'.get b = some (.cells c (e' + 1) own) := by rw [hm.2 b h2]; exact h3
    refine ⟨.slice (some ⟨b, o, none⟩) i.toNat q, ?_, .inr (.inl ⟨b, o, q, c, own, rfl, h2, h3, fun j hj => h4 j (by omega)⟩)⟩
    have hi : i.toNat ≤ n := by omega
    simp only [cslice, un, sz, hg, bnd, h0, if_true]
    rw [if_pos ⟨Nat.zero_le _, hi⟩]
    by_cases hq : q = 0
    · subst hq; simp
    · simp [hq]
end

/-- How an element is read. -/
def elv (a : Bool) (r : List Value) : Value := match a with | true => .agg ⟨r⟩ | false => r.headD undef
theorem Cel.elv {P : Program} {E : TypeId} {m : CM} {b o e : Nat} {r : List Value} {a : Bool} (h : Cel m b o r) (ha : aggB P E = some a) (hs : szOf P E = some e) (hr : r.length = e) (he : a = false → e = 1) :
    cload P E (.pointer (some ⟨b, o, none⟩)) m = some (elv a r) := by
  cases a with
  | true =>
    have := h.a (j := 0) ha hs (by omega)
    simp only [Nat.add_zero, List.drop_zero] at this
    rw [this, ← hr, List.take_length]; rfl
  | false =>
    have h1 : r.length = 1 := by rw [hr]; exact he rfl
    match r, h1 with
    | [v], _ => have := h.s (j := 0) (v := v) ha rfl; simpa [Ytjkfleibnojjaaa.elv] using this

/-! ### Steps that change the memory -/
section
variable {P : Program} {t E T : TypeId} {m : CM} {b o e n : Nat} {l : List Value} {K : Value → CM → Prop} {Kp : List PanicEntry → CM → Prop}
theorem box_of {v : Value} (h : ∀ b m', m.le m' → m.next ≤ b → Own m' b (toL v) 0 → K (.pointer (some ⟨b, 0, none⟩)) m') : boxw v m K :=
  ⟨h _ _ (CM.le_alloc ..) (Nat.le_refl _) ⟨by simp, by rw [CM.get_alloc, if_pos rfl]⟩⟩
theorem alw_of (hz : zeroL P t = some l) (h : ∀ b m', m.le m' → m.next ≤ b → Own m' b l 0 → K (.pointer (some ⟨b, 0, none⟩)) m') : alw P t m K :=
  ⟨l, hz, h _ _ (CM.le_alloc ..) (Nat.le_refl _) ⟨by simp, by rw [CM.get_alloc, if_pos rfl]⟩⟩
theorem splice_all {l vs : List Value} (h : vs.length = l.length) : splice l 0 vs = vs := by
  simp only [splice, List.take_zero, List.nil_append, Nat.zero_add]
  rw [List.drop_eq_nil_of_le (by omega)]; simp
/-- One store into a block of one's own. -/
theorem Own.store {c : List Value} (h : Own m b c e) {v : Value} {o : Nat} (hs : szOf P t = some (toL v).length) (ho : o + (toL v).length ≤ c.length) (h1 : (toL v).all one = true)
    (hk : ∀ m', m'.next = m.next → (∀ x, x ≠ b → m'.get x = m.get x) → Own m' b (splice c o (toL v)) e → K undef m') : sop (cstore P t (.pointer (some ⟨b, o, none⟩)) v m) K := by
  refine ⟨m.put b (.cells (splice c o (toL v)) e true), by simp [cstore, hs, cstoreL, h.2, ho]; simpa using h1, hk _ rfl (fun x hx => by rw [CM.get_put, if_neg hx]) ⟨h.1, by rw [CM.get_put, if_pos rfl]⟩⟩
theorem le_of_put {m0 m m' : CM} (h : m0.le m) (hb : m0.next ≤ b) (hn : m'.next = m.next) (hx : ∀ x, x ≠ b → m'.get x = m.get x) : m0.le m' :=
  ⟨by rw [hn]; exact h.1, fun x hl => by rw [hx x (by omega)]; exact h.2 x hl⟩
/-- A new variable with a value. -/
theorem var_of {v : Value} {F : Value → Value → CM → Prop} (hz : zeroL P t = some l) (hs : szOf P t = some (toL v).length) (hl : (toL v).length = l.length) (h1 : (toL v).all one = true)
    (h : ∀ b m', m.le m' → m.next ≤ b → Own m' b (toL v) 0 → F (.pointer (some ⟨b, 0, none⟩)) undef m') : alw P t m (fun p m1 => sop (cstore P t p v m1) (fun u m2 => F p u m2)) := by
  refine alw_of hz fun b m1 hle hb ho => ?_
  refine ho.store hs (by omega) h1 fun m2 hn hx ho2 => ?_
  rw [splice_all hl] at ho2
  exact h b m2 (le_of_put hle hb hn hx) hb ho2
end
end Go.Proofs.Ytjkfleibnojjaaa
end

section
namespace Go.Proofs.Ytjkfleibnojjaaa
open Go

/-! ### What is kept -/
abbrev Keep := Nat → Option (Option CB)
def FW (F : Keep) (m : CM) : Prop := ∀ x y, F x = some y → x < m.next ∧ m.get x = y
def Keep.add (F : Keep) (b : Nat) (y : Option CB) : Keep := fun x => if x = b then some y else F x
/-- All of a memory is kept, but one block. -/
def keepBut (m : CM) (h : Nat) : Keep := fun x => if x < m.next ∧ x ≠ h then some (m.get x) else none
def keepAll (m : CM) : Keep := fun x => if x < m.next then some (m.get x) else none
theorem FW.le {F : Keep} {m m' : CM} (h : FW F m) (k : m.le m') : FW F m' := fun x y hx => ⟨Nat.lt_of_lt_of_le (h x y hx).1 k.1, by rw [k.2 x (h x y hx).1]; exact (h x y hx).2⟩
theorem fw_keepAll (m : CM) : FW (keepAll m) m := fun x y h => by
  unfold keepAll at h
  split at h
  · rename_i hx; cases h; exact ⟨hx, rfl⟩
  · cases h
def SlF (F : Keep) (e : Nat) (v : Value) (n : Nat) (row : Nat → List Value) : Prop := ∀ m, FW F m → Sl e m v n row

/-! ### Kinds of cells, and how many numbers and strings they are -/
inductive CT where
  | i | s | b
  | sl (row : List CT)
def sumN (ks : Nat → Nat) : Nat → Nat
  | 0 => 0
  | n + 1 => sumN ks n + ks n
theorem sumN_le {ks : Nat → Nat} {i n : Nat} (h : i ≤ n) : sumN ks i ≤ sumN ks n := by
  induction n with
  | zero => have : i = 0 := by omega
            subst this; exact Nat.le_refl _
  | succ n ih =>
    by_cases e : i = n + 1
    · subst e; exact Nat.le_refl _
    · have := ih (by omega); simp only [sumN]; omega
mutual
inductive WT (F : Keep) : CT → Nat → Value → Prop where
  | i (n : Int) : WT F .i 1 (.int .i64 n)
  | s (x : ByteArray) : WT F .s 1 (.string x)
  | b (x : Bool) : WT F .b 1 (.bool x)
  | sl {tys : List CT} {v : Value} {n : Nat} {row : Nat → List Value} {ks : Nat → Nat} (h : SlF F tys.length v n row) (hp : 0 < tys.length) (hr : ∀ i, i < n → WTL F tys (ks i) (row i)) : WT F (.sl tys) (1 + sumN ks n) v
inductive WTL (F : Keep) : List CT → Nat → List Value → Prop where
  | nil : WTL F [] 0 []
  | cons {c : CT} {k k' : Nat} {v : Value} {cs : List CT} {l : List Value} (h : WT F c k v) (t : WTL F cs k' l) : WTL F (c :: cs) (k + k') (v :: l)
end
theorem WTL.length {F : Keep} : ∀ {tys : List CT} {k : Nat} {l : List Value}, WTL F tys k l → l.length = tys.length
  | [], _, _, .nil => rfl
  | _ :: _, _, _, .cons _ t => by simp [t.length]
theorem WT.pos {F : Keep} {c : CT} {k : Nat} {v : Value} (h : WT F c k v) : 1 ≤ k := by
  cases h <;> omega
theorem WTL.pos {F : Keep} : ∀ {tys : List CT} {k : Nat} {l : List Value}, WTL F tys k l → tys.length ≤ k
  | [], _, _, .nil => Nat.le_refl _
  | _ :: _, _, _, .cons h t => by have := h.pos; have := t.pos; simp only [List.length_cons]; omega
theorem sumN_ge {ks : Nat → Nat} : ∀ {n : Nat}, (∀ i, i < n → 1 ≤ ks i) → n ≤ sumN ks n
  | 0, _ => Nat.zero_le _
  | n + 1, h => by have := sumN_ge (ks := ks) fun i hi => h i (Nat.lt_succ_of_lt hi); have := h n (by omega); simp only [sumN]; omega
theorem WT.one {F : Keep} {c : CT} {k : Nat} {v : Value} {m : CM} (hm : FW F m) (h : WT F c k v) : Ytjkfleibnojjaaa.one v = true := by
  cases h with
  | i => rfl
  | s => rfl
  | b => rfl
  | sl h _ _ => rcases h m hm with ⟨rfl, _⟩ | ⟨b, o, q, c, own, rfl, _⟩ | ⟨b, rfl, _⟩ <;> rfl
theorem WTL.all {F : Keep} {m : CM} (hm : FW F m) : ∀ {tys : List CT} {k : Nat} {l : List Value}, WTL F tys k l → l.all Ytjkfleibnojjaaa.one = true
  | [], _, _, .nil => rfl
  | _ :: _, _, _, .cons h t => by simp [h.one hm, t.all hm]
theorem toL_one {x : Value} (h : Ytjkfleibnojjaaa.one x = true) : toL x = [x] := by cases x <;> simp_all [Ytjkfleibnojjaaa.one, toL]

/-! ### The heap -/
inductive HV (m : CM) : Value → Option Nat → List Value → Prop where
  | nil : HV m (.slice none 0 0) none []
  | blk {b : Nat} {c : List Value} (h : Own m b c 1) : HV m (.slice (some ⟨b, 0, none⟩) c.length 0) (some b) c
theorem HV.of_get {m m' : CM} {v : Value} {b : Option Nat} {c : List Value} (h : HV m v b c) (hn : m.next ≤ m'.next) (hg : ∀ y, b = some y → m'.get y = m.get y) : HV m' v b c := by
  cases h with
  | nil => exact .nil
  | blk h => exact .blk ⟨Nat.lt_of_lt_of_le h.1 hn, by rw [hg _ rfl]; exact h.2⟩
theorem HV.lt {m : CM} {v : Value} {b : Option Nat} {c : List Value} (h : HV m v b c) {y : Nat} (e : b = some y) : y < m.next := by
  cases h with
  | nil => cases e
  | blk h => cases e; exact h.1
def lim : Nat := 1099511627776
section
variable {P : Program} {T E : TypeId} {m : CM} {K : Value → CM → Prop}
theorem app1 {v x z : Value} {bn : Option Nat} {cn : List Value} {by' : Nat} (un : P.underlying T = some (.slice E)) (sz : szOf P E = some 1) (ze : zeroL P E = some [z]) (ha : appArg P T = true) (hby : bytesOf' P E = by') (h0 : 0 < by') (h16 : by' ≤ 16)
    (hv : HV m v bn cn) (hx : one x = true) (hB : cn.length + 1 ≤ lim)
    (hK : ∀ b' m', m.next ≤ b' → m.next ≤ m'.next → (∀ y, y < m.next → bn ≠ some y → m'.get y = m.get y) → Own m' b' (cn ++ [x]) 1 → K (.slice (some ⟨b', 0, none⟩) (cn ++ [x]).length 0) m') :
    vop (cbuildS P T 1 [(0, x)] m) (fun t m1 => vop (cappend P [T, T] v t m1) K) := by
  have hb : cbuildS P T 1 [(0, x)] m = some (.slice (some ⟨m.next, 0, none⟩) 1 0, m.alloc (.cells [x] 1 true)) := by
    simp [cbuildS, un, sz, ze, zeros, cfill, toL_one hx, splice]
  refine ⟨_, _, hb, ?_⟩
  have hl : bytesOf' P E * (2 * (cn.length + 1) + 1024) ≤ 2 ^ 48 := by
    rw [hby]
    have : by' * (2 * (cn.length + 1) + 1024) ≤ 16 * (2 * lim + 1024) := Nat.mul_le_mul h16 (by omega)
    exact Nat.le_trans this (by decide)
  have hr : readS (m.alloc (.cells [x] 1 true)) (.slice (some ⟨m.next, 0, none⟩) 1 0) 1 1 = some [x] := by
    simp [readS, CM.get_alloc]
  cases hv with
  | nil =>
    have ha : cappend P [T, T] (.slice none 0 0) (.slice (some ⟨m.next, 0, none⟩) 1 0) (m.alloc (.cells [x] 1 true)) = some (.slice (some ⟨m.next + 1, 0, none⟩) 1 0, (m.alloc (.cells [x] 1 true)).alloc (.cells [x] 1 true)) := by
      have hl' : (2 * 1 + 1024) * by' ≤ 2 ^ 48 := by rw [hby] at hl; simp only [List.length_nil, Nat.zero_add] at hl; rw [Nat.mul_comm]; exact hl
      simp only [cappend, un, ha, if_true, sz, ze, lenV, hr]
      simp only [List.length_singleton, Nat.zero_add, Nat.mul_one, List.all_cons, hx, List.all_nil, Bool.and_self, and_self, if_true, hby, if_false, Nat.one_ne_zero, CM.next_alloc]
      rw [if_pos ⟨hl', h0⟩]
    refine ⟨_, _, ha, ?_⟩
    refine hK (m.next + 1) _ (by omega) (by simp; omega) (fun y hy _ => ?_) ⟨by simp, ?_⟩
    · rw [CM.get_alloc, if_neg (by simp; omega), CM.get_alloc, if_neg (by omega)]
    · rw [CM.get_alloc, if_pos (by simp)]; rfl
  | blk ho =>
    rename_i b
    have hbl := ho.1
    have hg : (m.alloc (.cells [x] 1 true)).get b = some (.cells cn 1 true) := by rw [CM.get_alloc, if_neg (by omega)]; exact ho.2
    have ha : cappend P [T, T] (.slice (some ⟨b, 0, none⟩) cn.length 0) (.slice (some ⟨m.next, 0, none⟩) 1 0) (m.alloc (.cells [x] 1 true)) =
        some (.slice (some ⟨m.next + 1, 0, none⟩) (cn.length + 1) 0, ((m.alloc (.cells [x] 1 true)).set b none).alloc (.cells (cn ++ [x]) 1 true)) := by
      have hl' : (2 * (cn.length + 1) + 1024) * by' ≤ 2 ^ 48 := by rw [hby] at hl; rw [Nat.mul_comm]; exact hl
      simp only [cappend, un, ha, if_true, sz, ze, lenV, hr]
      simp only [List.length_singleton, Nat.zero_add, Nat.mul_one, List.all_cons, hx, List.all_nil, Bool.and_self, and_self, if_true, hby, hg, CM.next_alloc]
      rw [if_pos ⟨trivial, hl', h0⟩]
    refine ⟨_, _, ha, ?_⟩
    have e : cn.length + 1 = (cn ++ [x]).length := by simp
    rw [e]
    refine hK (m.next + 1) _ (by omega) (by simp; omega) (fun y hy hn => ?_) ⟨by simp, ?_⟩
    · rw [CM.get_alloc, if_neg (by simp; omega), CM.get_set, if_neg (fun e => hn (by rw [e])), CM.get_alloc, if_neg (by omega)]
    · rw [CM.get_alloc, if_pos (by simp)]
end

/-- The block h is a heap: two slices, each nil or of its own block, of numbers, of strings; at most B of each; F is kept. -/
structure Hp (F : Keep) (h B : Nat) (m : CM) : Prop where
  ex : ∃ vn vs bn bs cn cs, HV m vn bn cn ∧ HV m vs bs cs ∧ Own m h [vn, vs] 0 ∧ (bn ≠ some h ∧ bs ≠ some h ∧ (∀ y, bn = some y → bs ≠ some y)) ∧ (cn.length ≤ B ∧ cs.length ≤ B) ∧ (∀ u ∈ cn, ∃ n, u = .int .i64 n) ∧ (∀ u ∈ cs, ∃ n, u = .string n) ∧
    ∀ x y, F x = some y → (x < m.next ∧ m.get x = y) ∧ x ≠ h ∧ bn ≠ some x ∧ bs ≠ some x
theorem Hp.fw {F : Keep} {h B : Nat} {m : CM} (k : Hp F h B m) : FW F m := by
  obtain ⟨vn, vs, bn, bs, cn, cs, h1, h2, h3, h4, h5, h6, h7, h8⟩ := k.ex
  exact fun x y hx => (h8 x y hx).1
theorem Hp.le {F : Keep} {h B : Nat} {m m' : CM} (k : Hp F h B m) (l : m.le m') : Hp F h B m' := by
  obtain ⟨vn, vs, bn, bs, cn, cs, h1, h2, h3, h4, h5, h6, h7, h8⟩ := k.ex
  exact ⟨vn, vs, bn, bs, cn, cs, h1.of_get l.1 (fun y e => l.2 y (h1.lt e)), h2.of_get l.1 (fun y e => l.2 y (h2.lt e)), h3.le l, h4, h5, h6, h7, fun x y hx => ⟨⟨Nat.lt_of_lt_of_le (h8 x y hx).1.1 l.1, by rw [l.2 x (h8 x y hx).1.1]; exact (h8 x y hx).1.2⟩, (h8 x y hx).2⟩⟩
theorem Hp.up {F : Keep} {h B B' : Nat} {m : CM} (k : Hp F h B m) (l : B ≤ B') : Hp F h B' m := by
  obtain ⟨vn, vs, bn, bs, cn, cs, h1, h2, h3, h4, h5, h6, h7, h8⟩ := k.ex
  exact ⟨vn, vs, bn, bs, cn, cs, h1, h2, h3, h4, ⟨by omega, by omega⟩, h6, h7, h8⟩
/-- A new block is kept, too. -/
theorem Hp.add {F : Keep} {h B b : Nat} {m m' : CM} (k : Hp F h B m) (l : m.le m') (hb : m.next ≤ b) (hb' : b < m'.next) : Hp (F.add b (m'.get b)) h B m' := by
  obtain ⟨vn, vs, bn, bs, cn, cs, h1, h2, h3, h4, h5, h6, h7, h8⟩ := k.ex
  obtain ⟨g1, g2, g3, g4, g5, g6, g7, g8⟩ := (k.le l).ex
  refine ⟨vn, vs, bn, bs, cn, cs, h1.of_get l.1 (fun y e => l.2 y (h1.lt e)), h2.of_get l.1 (fun y e => l.2 y (h2.lt e)), h3.le l, h4, h5, h6, h7, fun x y hx => ?_⟩
  unfold Keep.add at hx
  split at hx
  · rename_i e; subst e; cases hx
    exact ⟨⟨hb', rfl⟩, fun e => by have := h3.1; omega, fun e => by have := h1.lt e; omega, fun e => by have := h2.lt e; omega⟩
  · exact ⟨⟨Nat.lt_of_lt_of_le (h8 x y hx).1.1 l.1, by rw [l.2 x (h8 x y hx).1.1]; exact (h8 x y hx).1.2⟩, (h8 x y hx).2⟩
theorem Hp.sub {F F' : Keep} {h B : Nat} {m : CM} (k : Hp F' h B m) (l : ∀ x y, F x = some y → F' x = some y) : Hp F h B m := by
  obtain ⟨vn, vs, bn, bs, cn, cs, h1, h2, h3, h4, h5, h6, h7, h8⟩ := k.ex
  exact ⟨vn, vs, bn, bs, cn, cs, h1, h2, h3, h4, h5, h6, h7, fun x y hx => h8 x y (l x y hx)⟩
theorem Keep.le_add {F : Keep} {m : CM} (h : FW F m) {b : Nat} (hb : m.next ≤ b) (y : Option CB) : ∀ x z, F x = some z → F.add b y x = some z := by
  intro x z hx
  have := (h x z hx).1
  unfold Keep.add; rw [if_neg (by omega)]; exact hx
theorem SlF.mono {F F' : Keep} {e n : Nat} {v : Value} {row : Nat → List Value} (h : SlF F e v n row) (l : ∀ x y, F x = some y → F' x = some y) : SlF F' e v n row :=
  fun m hm => h m fun x y hx => hm x y (l x y hx)
mutual
theorem WT.mono {F F' : Keep} (l : ∀ x y, F x = some y → F' x = some y) : ∀ {c : CT} {k : Nat} {v : Value}, WT F c k v → WT F' c k v
  | _, _, _, .i n => .i n
  | _, _, _, .s n => .s n
  | _, _, _, .b n => .b n
  | _, _, _, .sl h hn hr => .sl (h.mono l) hn fun i hi => WTL.mono l (hr i hi)
theorem WTL.mono {F F' : Keep} (l : ∀ x y, F x = some y → F' x = some y) : ∀ {c : List CT} {k : Nat} {v : List Value}, WTL F c k v → WTL F' c k v
  | _, _, _, .nil => .nil
  | _, _, _, .cons h t => .cons (WT.mono l h) (WTL.mono l t)
end

/-- A function that puts a value into a heap. -/
def PutOk (P : Program) (g : FuncId) (tys : List CT) (a : Bool) : Prop := ∀ (F : Keep) (h B : Nat) (m : CM) (l : List Value) (k : Nat) (K : Value → CM → Prop) (Kp : List PanicEntry → CM → Prop), Hp F h B m → WTL F tys k l → B + k ≤ lim →
  (∀ u m', Hp F h (B + k) m' → K u m') → callw P g [.pointer (some ⟨h, 0, none⟩), elv a l] m K Kp

section
variable {P : Program} {T E S I : TypeId}
/-- One number or one string more: the text. -/
def sPut1 (P : Program) (S : TypeId) (f : Nat) (T : TypeId) (R : CE → CM → Prop) (a0 a1 : Value) (m : CM) : Prop :=
  pop (cnilm P a0) m (fun t6 m => pop (cfa P S f t6) m (fun t7 m => pop (cload P T t7 m) m (fun t8 m => vop (cbuildS P T 1 [(0, a1)] m) (fun t10 m => vop (cappend P [T, T] t8 t10 m) (fun t11 m => pop (cnilm P a0) m (fun t12 m => pop (cfa P S f t12) m (fun t13 m => sop (cstore P T t13 t11 m) (fun _ m => leaveV P [] [] .ret m R))))))))
theorem get?_pair (a b : Value) : ([a, b] : List Value)[0]? = some a ∧ ([a, b] : List Value)[1]? = some b := ⟨rfl, rfl⟩
/-- What the two puts share: the heap's field f holds one more. -/
theorem addN {F : Keep} {h B : Nat} {m : CM} {x z : Value} {by' : Nat} (un : P.underlying T = some (.slice E)) (sz : szOf P E = some 1) (ze : zeroL P E = some [z]) (ha : appArg P T = true) (hby : bytesOf' P E = by') (h0 : 0 < by') (h16 : by' ≤ 16)
    (szT : szOf P T = some 1) (agT : aggB P T = some false) (cfa0 : ∀ b o, cfa P S 0 (.pointer (some ⟨b, o, none⟩)) = some (.pointer (some ⟨b, o, none⟩)))
    (hp : Hp F h B m) (hx : ∃ n, x = .int .i64 n) (hB : B + 1 ≤ lim) {K : Value → CM → Prop} (hK : ∀ m', Hp F h (B + 1) m' → K undef m') :
    pop (cfa P S 0 (.pointer (some ⟨h, 0, none⟩))) m (fun t7 m => pop (cload P T t7 m) m (fun t8 m => vop (cbuildS P T 1 [(0, x)] m) (fun t10 m => vop (cappend P [T, T] t8 t10 m) (fun t11 m => pop (cnilc (.pointer (some ⟨h, 0, none⟩))) m (fun t12 m => pop (cfa P S 0 t12) m (fun t13 m => sop (cstore P T t13 t11 m) K)))))) := by
  obtain ⟨vn, vs, bn, bs, cn, cs, h1, h2, h3, h4, h5, h6, h7, h8⟩ := hp.ex
  have hx1 : one x = true := by obtain ⟨n, rfl⟩ := hx; rfl
  rw [cfa0, pop_some, h3.cel.z agT (get?_pair vn vs).1, pop_some]
  refine app1 un sz ze ha hby h0 h16 h1 hx1 (by omega) fun b' m' hb hn hg ho => ?_
  simp only [cnilm, cnilc, pop_some, cfa0]
  have hh : h < m.next := h3.1
  have ho' : Own m' h [vn, vs] 0 := ⟨by omega, by rw [hg h hh h4.1]; exact h3.2⟩
  refine ho'.store (by simp [toL, szT]) (by simp [toL]) (by simp [toL, one]) fun m2 hn2 hx2 ho2 => hK m2 ?_
  have e : splice [vn, vs] 0 (toL (.slice (some ⟨b', 0, none⟩) (cn ++ [x]).length 0)) = [.slice (some ⟨b', 0, none⟩) (cn ++ [x]).length 0, vs] := by simp [splice, toL]
  rw [e] at ho2
  refine ⟨_, vs, some b', bs, cn ++ [x], cs, .blk ⟨by rw [hn2]; exact ho.1, by rw [hx2 b' (by omega)]; exact ho.2⟩, h2.of_get (by omega) (fun y ey => ?_), ho2, ⟨fun e => by cases e; omega, h4.2.1, fun y e ey => by cases e; have := h2.lt ey; omega⟩, ⟨by simp; omega, by omega⟩, fun u hu => ?_, h7, fun z y hz => ?_⟩
  · have := h2.lt ey
    rw [hx2 y (fun e => h4.2.1 (by rw [ey, e])), hg y this (fun en => h4.2.2 y en ey)]
  · rcases List.mem_append.1 hu with hu | hu
    · exact h6 u hu
    · simp at hu; subst hu; exact hx
  · obtain ⟨⟨q1, q2⟩, q3, q4, q5⟩ := h8 z y hz
    exact ⟨⟨by omega, by rw [hx2 z q3, hg z q1 q4]; exact q2⟩, q3, fun e => by cases e; omega, q5⟩
theorem addS {F : Keep} {h B : Nat} {m : CM} {x z : Value} {by' : Nat} (un : P.underlying T = some (.slice E)) (sz : szOf P E = some 1) (ze : zeroL P E = some [z]) (ha : appArg P T = true) (hby : bytesOf' P E = by') (h0 : 0 < by') (h16 : by' ≤ 16)
    (szT : szOf P T = some 1) (agT : aggB P T = some false) (cfa1 : ∀ b o, cfa P S 1 (.pointer (some ⟨b, o, none⟩)) = some (.pointer (some ⟨b, o + 1, none⟩)))
    (hp : Hp F h B m) (hx : ∃ n, x = .string n) (hB : B + 1 ≤ lim) {K : Value → CM → Prop} (hK : ∀ m', Hp F h (B + 1) m' → K undef m') :
    pop (cfa P S 1 (.pointer (some ⟨h, 0, none⟩))) m (fun t7 m => pop (cload P T t7 m) m (fun t8 m => vop (cbuildS P T 1 [(0, x)] m) (fun t10 m => vop (cappend P [T, T] t8 t10 m) (fun t11 m => pop (cnilc (.pointer (some ⟨h, 0, none⟩))) m (fun t12 m => pop (cfa P S 1 t12) m (fun t13 m => sop (cstore P T t13 t11 m) K)))))) := by
  obtain ⟨vn, vs, bn, bs, cn, cs, h1, h2, h3, h4, h5, h6, h7, h8⟩ := hp.ex
  have hx1 : one x = true := by obtain ⟨n, rfl⟩ := hx; rfl
  rw [cfa1, pop_some, h3.cel.z agT (get?_pair vn vs).2, pop_some]
  refine app1 un sz ze ha hby h0 h16 h2 hx1 (by omega) fun b' m' hb hn hg ho => ?_
  simp only [cnilm, cnilc, pop_some, cfa1]
  have hh : h < m.next := h3.1
  have ho' : Own m' h [vn, vs] 0 := ⟨by omega, by rw [hg h hh h4.2.1]; exact h3.2⟩
  refine ho'.store (by simp [toL, szT]) (by simp [toL]) (by simp [toL, one]) fun m2 hn2 hx2 ho2 => hK m2 ?_
  have e : splice [vn, vs] (0 + 1) (toL (.slice (some ⟨b', 0, none⟩) (cs ++ [x]).length 0)) = [vn, .slice (some ⟨b', 0, none⟩) (cs ++ [x]).length 0] := by simp [splice, toL]
  rw [e] at ho2
  refine ⟨vn, _, bn, some b', cn, cs ++ [x], h1.of_get (by omega) (fun y ey => ?_), .blk ⟨by rw [hn2]; exact ho.1, by rw [hx2 b' (by omega)]; exact ho.2⟩, ho2, ⟨h4.1, fun e => by cases e; omega, fun y e ey => by cases ey; have := h1.lt e; omega⟩, ⟨by omega, by simp; omega⟩, h6, fun u hu => ?_, fun z y hz => ?_⟩
  · have := h1.lt ey
    rw [hx2 y (fun e => h4.1 (by rw [ey, e])), hg y this (fun en => h4.2.2 y ey en)]
  · rcases List.mem_append.1 hu with hu | hu
    · exact h7 u hu
    · simp at hu; subst hu; exact hx
  · obtain ⟨⟨q1, q2⟩, q3, q4, q5⟩ := h8 z y hz
    exact ⟨⟨by omega, by rw [hx2 z q3, hg z q1 q5]; exact q2⟩, q3, q4, fun e => by cases e; omega⟩
end
end Go.Proofs.Ytjkfleibnojjaaa
end

section
namespace Go.Proofs.Ytjkfleibnojjaaa
open Go
section
variable {P : Program} {T E S I : TypeId}

/-- A loop that puts (or writes over) all elements: the text. -/
def sEachPut (P : Program) (I T E : TypeId) (R : CE → CM → Prop) (a0 a1 a2 : Value) (m : CM) : Prop :=
  loopA [0, 1, 2, 6] (fun X1 ρ1 ds m => pop (clen P T (ρ1 1) m) m (fun t20 m => pop (cbin P BinOp.lss I (Operand.tmp 18) (Operand.tmp 20) (ρ1 6) t20) m (fun t21 m => cnd t21 (pop (cia P T (ρ1 1) (ρ1 6)) m (fun t28 m => pop (cload P E t28 m) m (fun t29 m => callv P (ρ1 2) [(ρ1 0), t29] m (fun _ m => pop (cbin P BinOp.add I (Operand.tmp 22) (Operand.const (Value.int IntKind.i64 1)) (ρ1 6) (.int .i64 1)) m (fun t23 m => X1 [(ρ1 0), (ρ1 1), (ρ1 2), t23] ds m)) (fun ch m => leaveV P [] ds (.pan ch) m R)))) (leaveV P [] ds .ret m R)))) [a0, a1, a2, (.int .i64 0)] [] m
def sPuts (P : Program) (I H T0 T E : TypeId) (R : CE → CM → Prop) (a0 a1 a2 : Value) (m : CM) : Prop :=
  pop (cnilm P a0) m (fun t9 m => pop (cfa P H 0 t9) m (fun t10 m => pop (cload P T0 t10 m) m (fun t11 m => pop (clen P T a1 m) m (fun t13 m => vop (cbuildS P T0 1 [(0, t13)] m) (fun t14 m => vop (cappend P [T0, T0] t11 t14 m) (fun t15 m => pop (cnilm P a0) m (fun t16 m => pop (cfa P H 0 t16) m (fun t17 m => sop (cstore P T0 t17 t15 m) (fun _ m => sEachPut P I T E R a0 a1 a2 m)))))))))

theorem decLt {a b : Int} (h : a < b) : decide (a < b) = true := by simpa using h
theorem decNlt {a b : Int} (h : ¬ a < b) : decide (a < b) = false := by simpa using h

theorem eachPut_ok {e : Nat} {a : Bool} (un : P.underlying T = some (.slice E)) (sz : szOf P E = some e) (ag : aggB P E = some a) (he : a = false → e = 1)
    {F : Keep} {h B : Nat} {m : CM} {v : Value} {n : Nat} {row : Nat → List Value} {ks : Nat → Nat} {g : FuncId} {tys : List CT} (hput : PutOk P g tys a)
    (hs : SlF F e v n row) (hn : n < 4611686018427387904) (hr : ∀ i, i < n → WTL F tys (ks i) (row i)) (hp : Hp F h B m) (hB : B + sumN ks n ≤ lim) {K : Value → CM → Prop} {Kp : List PanicEntry → CM → Prop}
    (hK : ∀ m', Hp F h (B + sumN ks n) m' → K (.tuple ⟨[]⟩) m') : sEachPut P I T E (RK K Kp) (.pointer (some ⟨h, 0, none⟩)) v (.func (.func g) ⟨[]⟩ ⟨[]⟩) m := by
  refine loopA_of (fun l ds m' => ds = [] ∧ ∃ i : Nat, i ≤ n ∧ Hp F h (B + sumN ks i) m' ∧ l = [.pointer (some ⟨h, 0, none⟩), v, .func (.func g) ⟨[]⟩ ⟨[]⟩, .int .i64 i])
    (fun l _ => match l with | [_, _, _, .int _ i] => n - i.toNat | _ => 0) ⟨rfl, 0, by omega, by simpa [sumN] using hp, rfl⟩ ?_
  rintro X ρ ds m' ⟨rfl, i, hi, hp', hl⟩ hX
  simp only [List.map_cons, List.map_nil, List.cons.injEq, and_true] at hl
  obtain ⟨h0, h1, h2, h6⟩ := hl
  have hsl := hs m' hp'.fw
  simp only [h0, h1, h2, h6, hsl.len un, pop_some, cb_lss]
  by_cases hc : i < n
  · have hc' : decide ((i : Int) < (n : Int)) = true := by simpa using hc
    obtain ⟨b, o, hia, hcel, hlen⟩ := hsl.at un sz (i := i) (by omega) (by omega)
    simp only [Int.toNat_natCast] at hcel hlen
    simp only [hc', cnd_true, hia, pop_some, hcel.elv ag sz hlen he]
    have hks : sumN ks (i + 1) ≤ sumN ks n := sumN_le (by omega)
    show callw P g ([] ++ [_, _] ++ []) m' _ _
    refine hput F h (B + sumN ks i) m' (row i) (ks i) _ _ hp' (hr i hc) (by simp only [sumN] at hks; omega) fun u m2 hp2 => ?_
    simp only [cb_add, pop_some]
    refine hX _ _ _ ⟨rfl, i + 1, by omega, by simp only [sumN]; rw [← Nat.add_assoc]; exact hp2, ?_⟩ ?_
    · rw [wrap_id (by omega) (by omega)]; simp
    · simp only [List.map_cons, List.map_nil, h6]
      rw [wrap_id (by omega) (by omega)]; omega
  · have hc' : decide ((i : Int) < (n : Int)) = false := by simpa using hc
    simp only [hc', cnd_false, leave0, RK_ret]
    have : i = n := by omega
    subst this
    exact hK _ hp'

/-- What the seat's numbers are. -/
structure HeapT (P : Program) (I Str T0 T1 H : TypeId) : Prop where
  un0 : P.underlying T0 = some (.slice I)
  un1 : P.underlying T1 = some (.slice Str)
  szI : szOf P I = some 1
  szS : szOf P Str = some 1
  zeI : zeroL P I = some [.int .i64 0]
  zeS : zeroL P Str = some [.string ⟨#[]⟩]
  byI : bytesOf' P I = 8
  byS : bytesOf' P Str = 16
  ap0 : appArg P T0 = true
  ap1 : appArg P T1 = true
  sz0 : szOf P T0 = some 1
  sz1 : szOf P T1 = some 1
  ag0 : aggB P T0 = some false
  ag1 : aggB P T1 = some false
  agI : aggB P I = some false
  agS : aggB P Str = some false
  unS : P.underlying Str = some .string
  f0 : ∀ b o, cfa P H 0 (.pointer (some ⟨b, o, none⟩)) = some (.pointer (some ⟨b, o, none⟩))
  f1 : ∀ b o, cfa P H 1 (.pointer (some ⟨b, o, none⟩)) = some (.pointer (some ⟨b, o + 1, none⟩))
variable {Str T0 T1 H : TypeId}
theorem wtl1 {F : Keep} {c : CT} {k : Nat} {l : List Value} (h : WTL F [c] k l) : ∃ v, l = [v] ∧ WT F c k v := by
  cases h with
  | cons h t => cases t with | nil => exact ⟨_, rfl, h⟩
theorem putInt_ok (ht : HeapT P I Str T0 T1 H) {g : FuncId} (hc : ∀ {a0 a1 : Value} {m : CM} {K : Value → CM → Prop} {Kp : List PanicEntry → CM → Prop}, sPut1 P H 0 T0 (RK K Kp) a0 a1 m → callw P g [a0, a1] m K Kp) : PutOk P g [.i] false := by
  intro F h B m l k K Kp hp hw hB hK
  obtain ⟨v, rfl, hv⟩ := wtl1 hw
  cases hv with
  | i n =>
  refine hc ?_
  refine ⟨_, rfl, ?_⟩
  exact addN ht.un0 ht.szI ht.zeI ht.ap0 ht.byI (by decide) (by decide) ht.sz0 ht.ag0 ht.f0 hp ⟨n, rfl⟩ hB fun m' hp' => hK _ _ hp'
theorem putText_ok (ht : HeapT P I Str T0 T1 H) {g : FuncId} (hc : ∀ {a0 a1 : Value} {m : CM} {K : Value → CM → Prop} {Kp : List PanicEntry → CM → Prop}, sPut1 P H 1 T1 (RK K Kp) a0 a1 m → callw P g [a0, a1] m K Kp) : PutOk P g [.s] false := by
  intro F h B m l k K Kp hp hw hB hK
  obtain ⟨v, rfl, hv⟩ := wtl1 hw
  cases hv with
  | s n =>
  refine hc ?_
  refine ⟨_, rfl, ?_⟩
  exact addS ht.un1 ht.szS ht.zeS ht.ap1 ht.byS (by decide) (by decide) ht.sz1 ht.ag1 ht.f1 hp ⟨n, rfl⟩ hB fun m' hp' => hK _ _ hp'
theorem puts_ok (ht : HeapT P I Str T0 T1 H) {e : Nat} {a : Bool} (un : P.underlying T = some (.slice E)) (sz : szOf P E = some e) (ag : aggB P E = some a) (he : a = false → e = 1) {tys : List CT} (hte : tys.length = e) {g g' : FuncId} (hput : PutOk P g tys a)
    (hc : ∀ {a0 a1 a2 : Value} {m : CM} {K : Value → CM → Prop} {Kp : List PanicEntry → CM → Prop}, sPuts P I H T0 T E (RK K Kp) a0 a1 a2 m → callw P g' [a0, a1, a2] m K Kp)
    {F : Keep} {h B : Nat} {m : CM} {l : List Value} {k : Nat} {K : Value → CM → Prop} {Kp : List PanicEntry → CM → Prop} (hp : Hp F h B m) (hw : WTL F [.sl tys] k l) (hB : B + k ≤ lim) (hK : ∀ u m', Hp F h (B + k) m' → K u m') :
    callw P g' [.pointer (some ⟨h, 0, none⟩), elv false l, .func (.func g) ⟨[]⟩ ⟨[]⟩] m K Kp := by
  obtain ⟨v, rfl, hv⟩ := wtl1 hw
  cases hv with
  | @sl _ _ n row ks hs hp0 hr =>
  subst hte
  have hn : n < 4611686018427387904 := by
    have h1 := sumN_ge (ks := ks) (n := n) fun i hi => Nat.le_trans hp0 (hr i hi).pos
    have h2 : lim < 4611686018427387904 := by decide
    omega
  refine hc ?_
  have hm := hs m hp.fw
  have hln : ∀ m' : CM, clen P T v m' = some (.int .i64 n) := fun m' => hm.len un m'
  show sPuts P I H T0 T E (RK K Kp) _ v _ m
  unfold sPuts
  refine ⟨_, rfl, ?_⟩
  simp only [hln, pop_some (v := .int .i64 n)]
  refine addN ht.un0 ht.szI ht.zeI ht.ap0 ht.byI (by decide) (by decide) ht.sz0 ht.ag0 ht.f0 hp ⟨n, rfl⟩ (by omega) fun m' hp' => ?_
  exact eachPut_ok un sz ag he hput hs hn hr hp' (by omega) fun m2 hp2 => hK _ _ (by rw [← Nat.add_assoc]; exact hp2)

/-- Putting the fields of a struct, one after the other: the text. -/
def putC (P : Program) (a0 t3 : Value) (Kp : List PanicEntry → CM → Prop) : List (TypeId × Nat × TypeId × FuncId) → (CM → Prop) → CM → Prop
  | [], K, m => K m
  | (S, f, T, g) :: l, K, m => pop (cfa P S f t3) m (fun t5 m => pop (cload P T t5 m) m (fun t6 m => callw P g [a0, t6] m (fun _ m => putC P a0 t3 Kp l K m) Kp))
/-- The fields' places and kinds. -/
inductive Fields (P : Program) : Nat → List (TypeId × Nat × TypeId × FuncId) → List CT → Prop where
  | nil {o : Nat} : Fields P o [] []
  | cons {o : Nat} {S : TypeId} {f : Nat} {T : TypeId} {g : FuncId} {l : List (TypeId × Nat × TypeId × FuncId)} {t ts : List CT} {a : Bool} (hf : ∀ b, cfa P S f (.pointer (some ⟨b, 0, none⟩)) = some (.pointer (some ⟨b, o, none⟩))) (ha : aggB P T = some a) (hs : szOf P T = some t.length) (h1 : a = false → t.length = 1)
      (hg : PutOk P g t a) (h : Fields P (o + t.length) l ts) : Fields P o ((S, f, T, g) :: l) (t ++ ts)
theorem WTL.split {F : Keep} : ∀ {t ts : List CT} {k : Nat} {l : List Value}, WTL F (t ++ ts) k l → ∃ k1 k2 l1 l2, l = l1 ++ l2 ∧ k = k1 + k2 ∧ WTL F t k1 l1 ∧ WTL F ts k2 l2
  | [], ts, k, l, h => ⟨0, k, [], l, rfl, by omega, .nil, h⟩
  | c :: t, ts, _, _, .cons h r => by
    obtain ⟨k1, k2, l1, l2, rfl, rfl, h1, h2⟩ := WTL.split r
    exact ⟨_, k2, _ :: l1, l2, rfl, by omega, .cons h h1, h2⟩
theorem putC_ok {Kp : List PanicEntry → CM → Prop} {K : CM → Prop} {h b : Nat} {F : Keep} : ∀ {fs : List (TypeId × Nat × TypeId × FuncId)} {tys : List CT} {o k B : Nat} {pre l : List Value} {m : CM}, Fields P o fs tys → WTL F tys k l → o = pre.length → F b = some (some (.cells (pre ++ l) 0 true)) → Hp F h B m → B + k ≤ lim → (∀ m', Hp F h (B + k) m' → K m') →
    putC P (.pointer (some ⟨h, 0, none⟩)) (.pointer (some ⟨b, 0, none⟩)) Kp fs K m
  | [], _, o, k, B, pre, l, m, .nil, hw, ho, hb, hp, hB, hK => by cases hw; exact hK _ (by simpa using hp)
  | (S, f, T, g) :: fs, _, o, k, B, pre, l, m, .cons (t := t) (ts := ts) (a := a) hf ha hs h1 hg hr, hw, ho, hb, hp, hB, hK => by
    obtain ⟨k1, k2, l1, l2, rfl, rfl, hw1, hw2⟩ := WTL.split hw
    simp only [putC, hf, pop_some]
    obtain ⟨q1, q2⟩ := hp.fw b _ hb
    have hcel : Cel m b 0 (pre ++ (l1 ++ l2)) := ⟨q1, _, _, _, q2, fun j _ => by simp⟩
    have hcel2 : Cel m b o l1 := by
      refine ⟨q1, _, _, _, q2, fun j hj => ?_⟩
      subst ho
      rw [List.getElem?_append_right (by omega), List.getElem?_append_left (by omega)]; congr 1; omega
    have hlen := hw1.length
    rw [hcel2.elv ha hs hlen h1, pop_some]
    refine hg F h B m l1 k1 _ _ hp hw1 (by omega) fun u m' hp' => ?_
    exact putC_ok (pre := pre ++ l1) hr hw2 (by simp [hlen, ho]) (by rw [hb]; simp) hp' (by omega) fun m2 hp2 => hK m2 (by rw [← Nat.add_assoc]; exact hp2)
theorem putS_ok {g : FuncId} {fs : List (TypeId × Nat × TypeId × FuncId)} {tys : List CT} (hf : Fields P 0 fs tys)
    (hc : ∀ {a0 a1 : Value} {m : CM} {K : Value → CM → Prop} {Kp : List PanicEntry → CM → Prop}, boxw a1 m (fun t3 m => putC P a0 t3 (fun ch m => RK K Kp (.pan ch) m) fs (fun m => leaveV P [] [] .ret m (RK K Kp)) m) → callw P g [a0, a1] m K Kp) : PutOk P g tys true := by
  intro F h B m l k K Kp hp hw hB hK
  refine hc ?_
  refine box_of fun b m1 hle hb ho => ?_
  have hp1 := hp.add hle hb ho.1
  have hsub : ∀ x z, F x = some z → F.add b (m1.get b) x = some z := Keep.le_add hp.fw hb _
  refine putC_ok (pre := []) hf (hw.mono hsub) rfl (by simp [Keep.add, ho.2, elv, toL]) hp1 hB fun m' hp' => ?_
  simp only [leave0, RK_ret]
  exact hK _ _ (hp'.sub hsub)
/-- The same, where the value comes first. -/
theorem all_ok {g : FuncId} {fs : List (TypeId × Nat × TypeId × FuncId)} {tys : List CT} (hf : Fields P 0 fs tys)
    (hc : ∀ {a0 a1 : Value} {m : CM} {K : Value → CM → Prop} {Kp : List PanicEntry → CM → Prop}, boxw a0 m (fun t3 m => putC P a1 t3 (fun ch m => RK K Kp (.pan ch) m) fs (fun m => leaveV P [] [] .ret m (RK K Kp)) m) → callw P g [a0, a1] m K Kp)
    {F : Keep} {h B : Nat} {m : CM} {l : List Value} {k : Nat} {K : Value → CM → Prop} {Kp : List PanicEntry → CM → Prop} (hp : Hp F h B m) (hw : WTL F tys k l) (hB : B + k ≤ lim) (hK : ∀ u m', Hp F h (B + k) m' → K u m') :
    callw P g [.agg ⟨l⟩, .pointer (some ⟨h, 0, none⟩)] m K Kp := by
  refine hc ?_
  refine box_of fun b m1 hle hb ho => ?_
  have hp1 := hp.add hle hb ho.1
  have hsub : ∀ x z, F x = some z → F.add b (m1.get b) x = some z := Keep.le_add hp.fw hb _
  refine putC_ok (pre := []) hf (hw.mono hsub) rfl (by simp [Keep.add, ho.2, toL]) hp1 hB fun m' hp' => ?_
  simp only [leave0, RK_ret]
  exact hK _ _ (hp'.sub hsub)
end
end Go.Proofs.Ytjkfleibnojjaaa
end

section
namespace Go.Proofs.Ytjkfleibnojjaaa
open Go
section
variable {P : Program} {T E I Str T0 T1 H : TypeId}
def sSame (P : Program) (I Str T0 T1 H : TypeId) (R : CE → CM → Prop) (a0 a1 : Value) (m : CM) : Prop :=
  boxw a0 m (fun t2 m => boxw a1 m (fun t3 m => pop (cfa P H 0 t2) m (fun t7 m => pop (cload P T0 t7 m) m (fun t8 m => pop (clen P T0 t8 m) m (fun t9 m => pop (cfa P H 0 t3) m (fun t10 m => pop (cload P T0 t10 m) m (fun t11 m => pop (clen P T0 t11 m) m (fun t12 m => pop (cbin P BinOp.neq I (Operand.tmp 9) (Operand.tmp 12) t9 t12) m (fun t13 m => gop (gb t13 false) (fun K => pop (cfa P H 1 t2) m K) (fun t15 m => gop (gb t13 false) (fun K => pop (cload P T1 t15 m) m K) (fun t16 m => gop (gb t13 false) (fun K => pop (clen P T1 t16 m) m K) (fun t17 m => gop (gb t13 false) (fun K => pop (cfa P H 1 t3) m K) (fun t18 m => gop (gb t13 false) (fun K => pop (cload P T1 t18 m) m K) (fun t19 m => gop (gb t13 false) (fun K => pop (clen P T1 t19 m) m K) (fun t20 m => gop (gb t13 false) (fun K => pop (cbin P BinOp.neq I (Operand.tmp 17) (Operand.tmp 20) t17 t20) m K) (fun t21 m => pop (cpick t13 (.bool true) t21) m (fun t22 m => cnd t22 (leaveV P [.v (.bool false)] [] .ret m R) (loopA [2, 3, 5] (fun X1 ρ1 ds m => pop (cfa P H 0 (ρ1 2)) m (fun t24 m => pop (cload P T0 t24 m) m (fun t25 m => pop (clen P T0 t25 m) m (fun t26 m => pop (cbin P BinOp.lss I (Operand.tmp 23) (Operand.tmp 26) (ρ1 5) t26) m (fun t27 m => cnd t27 (pop (cfa P H 0 (ρ1 2)) m (fun t30 _ => pop (cload P T0 t30 m) m (fun t31 _ => pop (cia P T0 t31 (ρ1 5)) m (fun t33 _ => pop (cload P I t33 m) m (fun t34 _ => pop (cfa P H 0 (ρ1 3)) m (fun t35 _ => pop (cload P T0 t35 m) m (fun t36 _ => pop (cia P T0 t36 (ρ1 5)) m (fun t38 _ => pop (cload P I t38 m) m (fun t39 _ => pop (cbin P BinOp.neq I (Operand.tmp 34) (Operand.tmp 39) t34 t39) m (fun t40 m => cnd t40 (leaveV P [.v (.bool false)] ds .ret m R) (pop (cbin P BinOp.add I (Operand.tmp 28) (Operand.const (Value.int IntKind.i64 1)) (ρ1 5) (.int .i64 1)) m (fun t29 m => X1 [(ρ1 2), (ρ1 3), t29] ds m)))))))))))) (loopA [2, 3, 6] (fun X2 ρ2 ds m => pop (cfa P H 1 (ρ2 2)) m (fun t42 m => pop (cload P T1 t42 m) m (fun t43 m => pop (clen P T1 t43 m) m (fun t44 m => pop (cbin P BinOp.lss I (Operand.tmp 41) (Operand.tmp 44) (ρ2 6) t44) m (fun t45 m => cnd t45 (pop (cfa P H 1 (ρ2 2)) m (fun t48 _ => pop (cload P T1 t48 m) m (fun t49 _ => pop (cia P T1 t49 (ρ2 6)) m (fun t51 _ => pop (cload P Str t51 m) m (fun t52 _ => pop (cfa P H 1 (ρ2 3)) m (fun t53 _ => pop (cload P T1 t53 m) m (fun t54 _ => pop (cia P T1 t54 (ρ2 6)) m (fun t56 _ => pop (cload P Str t56 m) m (fun t57 _ => pop (cbin P BinOp.neq Str (Operand.tmp 52) (Operand.tmp 57) t52 t57) m (fun t58 m => cnd t58 (leaveV P [.v (.bool false)] ds .ret m R) (pop (cbin P BinOp.add I (Operand.tmp 46) (Operand.const (Value.int IntKind.i64 1)) (ρ2 6) (.int .i64 1)) m (fun t47 m => X2 [(ρ2 2), (ρ2 3), t47] ds m)))))))))))) (leaveV P [.v (.bool true)] ds .ret m R)))))) [(ρ1 2), (ρ1 3), (.int .i64 0)] ds m)))))) [t2, t3, (.int .i64 0)] [] m))) m) m) m) m) m) m) m)))))))))
theorem cb_neq_str {t : TypeId} {x y : Operand} {s s' : ByteArray} : cbin P .neq t x y (.string s) (.string s') = some (.bool !(s.toList == s'.toList)) := by
  simp [cbin, plainV, eqGuard, binOp, Op.stringOp, pr_pure, chk]
theorem cb_eql_str {t : TypeId} {x y : Operand} {s s' : ByteArray} : cbin P .eql t x y (.string s) (.string s') = some (.bool (s.toList == s'.toList)) := by
  simp [cbin, plainV, eqGuard, binOp, Op.stringOp, pr_pure, chk]
theorem HV.sl {m : CM} {v : Value} {b : Option Nat} {c : List Value} (h : HV m v b c) : Sl 1 m v c.length (fun i => [c.getD i undef]) := by
  cases h with
  | nil => exact .inl ⟨rfl, rfl⟩
  | blk h =>
    rename_i b
    refine .inr (.inl ⟨b, 0, 0, c, true, rfl, h.1, h.2, fun i hi => ⟨rfl, fun j hj => ?_⟩⟩)
    have : j = 0 := by omega
    subst this
    simp [List.getD_eq_getElem?_getD, List.getElem?_eq_getElem hi]
theorem same_ok (ht : HeapT P I Str T0 T1 H) {g : FuncId} (hc : ∀ {a0 a1 : Value} {m : CM} {K : Value → CM → Prop} {Kp : List PanicEntry → CM → Prop}, sSame P I Str T0 T1 H (RK K Kp) a0 a1 m → callw P g [a0, a1] m K Kp)
    {m : CM} {vn vs vn' vs' : Value} {bn bs bn' bs' : Option Nat} {cn cs : List Value} (h1 : HV m vn bn cn) (h2 : HV m vs bs cs) (h1' : HV m vn' bn' cn) (h2' : HV m vs' bs' cs) (hn : cn.length < 4611686018427387904) (hs : cs.length < 4611686018427387904)
    (hin : ∀ u ∈ cn, ∃ n, u = .int .i64 n) (hist : ∀ u ∈ cs, ∃ n, u = .string n) {K : Value → CM → Prop} {Kp : List PanicEntry → CM → Prop} (hK : ∀ m', m.le m' → K (.bool true) m') :
    callw P g [.agg ⟨[vn, vs]⟩, .agg ⟨[vn', vs']⟩] m K Kp := by
  refine hc ?_
  unfold sSame
  refine box_of fun b2 m1 hle1 hb2 ho2 => box_of fun b3 m2 hle2 hb3 ho3 => ?_
  have hle := hle1.trans hle2
  have c2 : ∀ j v, [vn, vs][j]? = some v → ∀ t, aggB P t = some false → cload P t (.pointer (some ⟨b2, j, none⟩)) m2 = some v := fun j v hv t ha => (ho2.le hle2).cel.z ha hv
  have c3 : ∀ j v, [vn', vs'][j]? = some v → ∀ t, aggB P t = some false → cload P t (.pointer (some ⟨b3, j, none⟩)) m2 = some v := fun j v hv t ha => ho3.cel.z ha hv
  have n2 := c2 0 vn rfl T0 ht.ag0
  have s2 := c2 1 vs rfl T1 ht.ag1
  have n3 := c3 0 vn' rfl T0 ht.ag0
  have s3 := c3 1 vs' rfl T1 ht.ag1
  have e1 := h1.sl.le hle
  have e2 := h2.sl.le hle
  have e1' := h1'.sl.le hle
  have e2' := h2'.sl.le hle
  have l1 := fun m' => e1.len ht.un0 m'
  have l2 := fun m' => e2.len ht.un1 m'
  have l1' := fun m' => e1'.len ht.un0 m'
  have l2' := fun m' => e2'.len ht.un1 m'
  have f1 : ∀ b, cfa P H 1 (.pointer (some ⟨b, 0, none⟩)) = some (.pointer (some ⟨b, 1, none⟩)) := fun b => by rw [ht.f1]
  simp only [ht.f0, f1, pop_some, n2, n3, s2, s3, l1, l2, l1', l2', cb_neq, gb_bool, bne_self_eq_false, beq_self_eq_true, gop_true, cpick_bool, if_false, cnd_false, Bool.false_eq_true]
  -- the numbers
  refine loopA_of (fun l ds m' => ds = [] ∧ m' = m2 ∧ ∃ i : Nat, i ≤ cn.length ∧ l = [.pointer (some ⟨b2, 0, none⟩), .pointer (some ⟨b3, 0, none⟩), .int .i64 i])
    (fun l _ => match l with | [_, _, .int _ i] => cn.length - i.toNat | _ => 0) ⟨rfl, rfl, 0, by omega, rfl⟩ ?_
  rintro X ρ ds m' ⟨rfl, hmm, i, hi, hl⟩ hX
  subst hmm
  simp only [List.map_cons, List.map_nil, List.cons.injEq, and_true] at hl
  obtain ⟨r2, r3, r5⟩ := hl
  simp only [r2, r3, r5, ht.f0, pop_some, n2, n3, l1, cb_lss]
  by_cases hc : i < cn.length
  · have hc' : decide ((i : Int) < (cn.length : Int)) = true := by simpa using hc
    obtain ⟨b, o, hia, hcel, _⟩ := e1.at ht.un0 ht.szI (i := i) (by omega) (by omega)
    obtain ⟨b', o', hia', hcel', _⟩ := e1'.at ht.un0 ht.szI (i := i) (by omega) (by omega)
    simp only [Int.toNat_natCast] at hcel hcel'
    obtain ⟨n, hu⟩ := hin (cn.getD i undef) (by simp [List.getD_eq_getElem?_getD, List.getElem?_eq_getElem hc])
    rw [hu] at hcel hcel'
    have q := hcel.s (j := 0) ht.agI rfl
    have q' := hcel'.s (j := 0) ht.agI rfl
    simp only [Nat.add_zero] at q q'
    simp only [hc', cnd_true, hia, hia', pop_some, q, q', cb_neq, bne_self_eq_false, cnd_false, cb_add]
    refine hX _ _ _ ⟨rfl, rfl, i + 1, by omega, ?_⟩ ?_
    · rw [wrap_id (by omega) (by omega)]; simp
    · simp only [List.map_cons, List.map_nil, r5]
      rw [wrap_id (by omega) (by omega)]; omega
  have hc' : decide ((i : Int) < (cn.length : Int)) = false := by simpa using hc
  simp only [hc', cnd_false]
  -- the strings
  refine loopA_of (fun l ds mm => ds = [] ∧ mm = m' ∧ ∃ i : Nat, i ≤ cs.length ∧ l = [.pointer (some ⟨b2, 0, none⟩), .pointer (some ⟨b3, 0, none⟩), .int .i64 i])
    (fun l _ => match l with | [_, _, .int _ i] => cs.length - i.toNat | _ => 0) ⟨rfl, rfl, 0, by omega, rfl⟩ ?_
  rintro X ρ ds m' ⟨rfl, hmm, i, hi, hl⟩ hX
  subst hmm
  simp only [List.map_cons, List.map_nil, List.cons.injEq, and_true] at hl
  obtain ⟨r2, r3, r5⟩ := hl
  simp only [r2, r3, r5, ht.f0, f1, pop_some, s2, s3, l2, l2', cb_lss]
  by_cases hc : i < cs.length
  · have hc' : decide ((i : Int) < (cs.length : Int)) = true := by simpa using hc
    obtain ⟨b, o, hia, hcel, _⟩ := e2.at ht.un1 ht.szS (i := i) (by omega) (by omega)
    obtain ⟨b', o', hia', hcel', _⟩ := e2'.at ht.un1 ht.szS (i := i) (by omega) (by omega)
    simp only [Int.toNat_natCast] at hcel hcel'
    obtain ⟨n, hu⟩ := hist (cs.getD i undef) (by simp [List.getD_eq_getElem?_getD, List.getElem?_eq_getElem hc])
    rw [hu] at hcel hcel'
    have q := hcel.s (j := 0) ht.agS rfl
    have q' := hcel'.s (j := 0) ht.agS rfl
    simp only [Nat.add_zero] at q q'
    simp only [hc', cnd_true, hia, hia', pop_some, q, q', cb_neq_str, beq_self_eq_true, Bool.not_true, cnd_false, cb_add]
    refine hX _ _ _ ⟨rfl, rfl, i + 1, by omega, ?_⟩ ?_
    · rw [wrap_id (by omega) (by omega)]; simp
    · simp only [List.map_cons, List.map_nil, r5]
      rw [wrap_id (by omega) (by omega)]; omega
  have hc' : decide ((i : Int) < (cs.length : Int)) = false := by simpa using hc
  simp only [hc', cnd_false, leave1, RK_ret]
  exact hK _ hle
end
end Go.Proofs.Ytjkfleibnojjaaa
end

section
namespace Go.Proofs.Ytjkfleibnojjaaa
open Go

/-! ### Blocks by other names -/
def renA (σ : Nat → Nat) (a : Addr) : Addr := { a with block := σ a.block }
def renFn (σ : Nat → Nat) : Fn → Fn
  | .yield l => .yield (σ l)
  | f => f
mutual
def ren (σ : Nat → Nat) : Value → Value
  | .pointer (some a) => .pointer (some (renA σ a))
  | .slice (some a) l k => .slice (some (renA σ a)) l k
  | .map (some r) => .map (some (σ r))
  | .func fn ⟨f⟩ ⟨c⟩ => .func (renFn σ fn) ⟨renL σ f⟩ ⟨renL σ c⟩
  | .iface t v => .iface t (ren σ v)
  | .agg ⟨l⟩ => .agg ⟨renL σ l⟩
  | .tuple ⟨l⟩ => .tuple ⟨renL σ l⟩
  | v => v
def renL (σ : Nat → Nat) : List Value → List Value
  | [] => []
  | v :: l => ren σ v :: renL σ l
end
theorem trFn_ren (ι : Inj) (σ : Nat → Nat) (f : Fn) : trFn ι (renFn σ f) = trFn (fun b => ι (σ b)) f := by cases f <;> rfl
mutual
theorem tr_ren (ι : Inj) (σ : Nat → Nat) : ∀ v : Value, tr ι (ren σ v) = tr (fun b => ι (σ b)) v
  | .bool b => by simp [ren, tr]
  | .int k n => by simp [ren, tr]
  | .float _ _ => by simp [ren, tr]
  | .complex _ _ _ => by simp [ren, tr]
  | .string s => by simp [ren, tr]
  | .pointer none => by simp [ren, tr]
  | .pointer (some a) => by simp [ren, tr, trA, renA]
  | .slice none l k => by simp [ren, tr]
  | .slice (some a) l k => by simp [ren, tr, trS, renA]
  | .map none => by simp [ren, tr]
  | .map (some r) => by simp [ren, tr]
  | .chan _ => by simp [ren, tr]
  | .func fn ⟨f⟩ ⟨c⟩ => by simp only [ren, tr, trFn_ren, trL_ren ι σ f, trL_ren ι σ c]
  | .nilFunc => by simp [ren, tr]
  | .iface t v => by simp only [ren, tr, tr_ren ι σ v]
  | .nilIface => by simp [ren, tr]
  | .agg ⟨l⟩ => by simp only [ren, tr, trL_ren ι σ l]
  | .tuple ⟨l⟩ => by simp only [ren, tr, trL_ren ι σ l]
theorem trL_ren (ι : Inj) (σ : Nat → Nat) : ∀ l : List Value, trL ι (renL σ l) = trL (fun b => ι (σ b)) l
  | [] => by simp [renL, trL]
  | v :: l => by simp only [renL, trL, tr_ren ι σ v, trL_ren ι σ l]
end
theorem renL_map (σ : Nat → Nat) : ∀ l : List Value, renL σ l = l.map (ren σ)
  | [] => rfl
  | v :: l => by simp [renL, renL_map σ l]
def renP (σ : Nat → Nat) (e : PanicEntry) : PanicEntry := { e with v := ren σ e.v }
def renE (σ : Nat → Nat) : CE → CE
  | .ret v => .ret (ren σ v)
  | .pan c => .pan (c.map (renP σ))
theorem trPs_ren (ι : Inj) (σ : Nat → Nat) : ∀ l : List PanicEntry, trPs ι (l.map (renP σ)) = trPs (fun b => ι (σ b)) l
  | [] => by simp [trPs]
  | e :: l => by simp only [List.map_cons, trPs, trP, renP, tr_ren, trPs_ren ι σ l]
theorem ERel_ren {ι : Inj} {σ : Nat → Nat} {e : CE} {e' : Ending} : ERel ι (renE σ e) e' ↔ ERel (fun b => ι (σ b)) e e' := by
  cases e <;> cases e' <;> simp [renE, ERel, tr_ren, trPs_ren]
/-- A block by other names; a loop's record is let go. -/
def renB (σ : Nat → Nat) : CB → Option CB
  | .cells c e o => some (.cells (c.map (ren σ)) e o)
  | .map es => some (.map (es.map fun p => (p.1, ren σ p.2)))
  | .loop _ => none
  | .dfr => some .dfr
  | .siter s p => some (.siter s p)
theorem MRel_ren {ι : Inj} {σ : Nat → Nat} {l : List (Value × Value)} {l' : List MapEntry} (h : MRel (fun b => ι (σ b)) l l') : MRel ι (l.map fun p => (p.1, ren σ p.2)) l' := by
  induction h with
  | nil => exact .nil
  | cons hk hv _ ih => exact .cons hk (by rw [tr_ren]; exact hv) ih
theorem MRel_ren' {ι : Inj} {σ : Nat → Nat} : ∀ {l : List (Value × Value)} {l' : List MapEntry}, MRel ι (l.map fun p => (p.1, ren σ p.2)) l' → MRel (fun b => ι (σ b)) l l'
  | [], l', h => by cases h; exact .nil
  | (k, v) :: l, l', h => by
    cases h with
    | cons hk hv h => exact .cons hk (by rw [tr_ren] at hv; exact hv) (MRel_ren' h)
theorem BRel_ren {ι : Inj} {σ : Nat → Nat} {p : Pl} {w : World} {x y : CB} (hy : renB σ x = some y) : BRel ι p w y ↔ BRel (fun b => ι (σ b)) p w x := by
  cases x with
  | cells c e o =>
    simp only [renB, Option.some.injEq] at hy; subst hy
    simp only [BRel, List.length_map]
    refine and_congr Iff.rfl (and_congr Iff.rfl (and_congr ⟨fun h i v hv => ?_, fun h i v hv => ?_⟩ Iff.rfl))
    · obtain ⟨v', h1, h2⟩ := h i (ren σ v) (by simp [hv])
      exact ⟨v', by rw [tr_ren] at h1; exact h1, h2⟩
    · rw [List.getElem?_map] at hv
      cases hc : c[i]? with
      | none => rw [hc] at hv; cases hv
      | some u =>
        rw [hc] at hv; cases hv
        obtain ⟨v', h1, h2⟩ := h i u hc
        exact ⟨v', by rw [tr_ren]; exact h1, h2⟩
  | map es =>
    simp only [renB, Option.some.injEq] at hy; subst hy
    exact ⟨fun ⟨en, cl, h1, h2⟩ => ⟨en, cl, h1, MRel_ren' h2⟩, fun ⟨en, cl, h1, h2⟩ => ⟨en, cl, h1, MRel_ren h2⟩⟩
  | loop l => simp [renB] at hy
  | dfr => simp only [renB, Option.some.injEq] at hy; subst hy; exact Iff.rfl
  | siter s q => simp only [renB, Option.some.injEq] at hy; subst hy; exact Iff.rfl
theorem renB_own {σ : Nat → Nat} {x y : CB} (h : renB σ x = some y) : y.own = x.own := by cases x <;> simp [renB] at h <;> subst h <;> rfl
theorem renB_live {σ : Nat → Nat} {x y : CB} (h : renB σ x = some y) : y.live = x.live := by cases x <;> simp [renB] at h <;> subst h <;> simp [CB.live]

/-- Some of one memory's blocks, by other names, laid over another memory. -/
def layB (σ : Nat → Nat) (sel : Nat → Bool) (m1 : CM) : Nat → CM → CM
  | 0, M => M
  | n + 1, M => layB σ sel m1 n (if sel n then M.set (σ n) ((m1.get n).bind (renB σ)) else M)
theorem layB_next (σ : Nat → Nat) (sel : Nat → Bool) (m1 : CM) : ∀ (n : Nat) (M : CM), (layB σ sel m1 n M).next = M.next
  | 0, _ => rfl
  | n + 1, M => by simp only [layB]; rw [layB_next]; split <;> rfl
theorem layB_get (σ : Nat → Nat) (sel : Nat → Bool) (m1 : CM) : ∀ (n : Nat) (M : CM), (∀ a b, a < n → b < n → sel a = true → sel b = true → σ a = σ b → a = b) →
    (∀ b, b < n → sel b = true → (layB σ sel m1 n M).get (σ b) = (m1.get b).bind (renB σ)) ∧ (∀ c, (∀ b, b < n → sel b = true → σ b ≠ c) → (layB σ sel m1 n M).get c = M.get c)
  | 0, M, _ => ⟨fun b h => by omega, fun _ _ => rfl⟩
  | n + 1, M, hi => by
    have ih := layB_get σ sel m1 n (if sel n then M.set (σ n) ((m1.get n).bind (renB σ)) else M) (fun a b ha hb => hi a b (by omega) (by omega))
    refine ⟨fun b hb hs => ?_, fun c hc => ?_⟩
    · simp only [layB]
      by_cases e : b = n
      · subst e
        rw [ih.2 (σ b) (fun a ha hsa heq => by have := hi a b (by omega) (by omega) hsa hs heq; omega), if_pos hs, CM.get_set, if_pos rfl]
      · exact ih.1 b (by omega) hs
    · simp only [layB]
      rw [ih.2 c (fun b hb hs => hc b (by omega) hs)]
      split
      · rename_i hs
        rw [CM.get_set, if_neg (fun e => hc n (by omega) hs e.symm)]
      · rfl

theorem own_live {x : CB} (h : x.own = true) : x.live = true := by
  cases x with
  | cells c e o => simp only [CB.own] at h; simp [CB.live, h]
  | _ => rfl
/-- THE SAME CALL ELSEWHERE: in a memory that holds the first one's blocks by other names, and others beside. -/
theorem CEvCall.move {P : Program} {f : FuncId} {args : List Value} {m0 m1 M : CM} {e : CE} (h : CEvCall P f args m0 e m1) (σ : Nat → Nat)
    (hdom : ∀ b x, m0.get b = some x → b < m0.next ∧ (x.live = true ∨ m1.get b = some x) ∧ (renB σ x).isSome = true)
    (hlo : ∀ b, b < m0.next → σ b < M.next) (hin : ∀ a b, a < m0.next → b < m0.next → σ a = σ b → a = b) (hnew : ∀ b, m0.next ≤ b → σ b = M.next + (b - m0.next))
    (hM : ∀ b x y, m0.get b = some x → renB σ x = some y → M.get (σ b) = some y) (hnx : m0.next ≤ m1.next) :
    ∃ M', CEvCall P f (renL σ args) M (renE σ e) M' ∧ M'.next = M.next + (m1.next - m0.next) ∧
      (∀ b, b < m1.next → (m0.next ≤ b ∨ (m0.get b).isSome = true) → M'.get (σ b) = (m1.get b).bind (renB σ)) ∧
      (∀ c, c < M.next → (∀ b x, m0.get b = some x → σ b ≠ c) → M'.get c = M.get c) := by
  let sel : Nat → Bool := fun b => decide (m0.next ≤ b) || (m0.get b).isSome
  have hinj : ∀ a b, a < m1.next → b < m1.next → sel a = true → sel b = true → σ a = σ b → a = b := by
    intro a b ha hb _ _ he
    by_cases h1 : a < m0.next
    · by_cases h2 : b < m0.next
      · exact hin a b h1 h2 he
      · have := hlo a h1; have := hnew b (by omega); omega
    · by_cases h2 : b < m0.next
      · have := hlo b h2; have := hnew a (by omega); omega
      · have := hnew a (by omega); have := hnew b (by omega); omega
  have hg := layB_get σ sel m1 m1.next { M with next := M.next + (m1.next - m0.next) } hinj
  let M' := layB σ sel m1 m1.next { M with next := M.next + (m1.next - m0.next) }
  have hn' : M'.next = M.next + (m1.next - m0.next) := layB_next ..
  have g1 : ∀ b, b < m1.next → (m0.next ≤ b ∨ (m0.get b).isSome = true) → M'.get (σ b) = (m1.get b).bind (renB σ) := fun b hb hs => hg.1 b hb (by simpa [sel] using hs)
  have g2 : ∀ c, c < M.next → (∀ b x, m0.get b = some x → σ b ≠ c) → M'.get c = M.get c := by
    intro c hc hno
    refine hg.2 c (fun b hb hs he => ?_)
    simp only [sel, Bool.or_eq_true, decide_eq_true_eq] at hs
    rcases hs with hs | hs
    · have := hnew b hs; omega
    · obtain ⟨x, hx⟩ := Option.isSome_iff_exists.1 hs
      exact hno b x hx he
  refine ⟨M', ⟨h.1, ?_⟩, hn', g1, g2⟩
  intro ι w args' hr hargs
  have hfr0 : ∀ b, m0.next ≤ b → ι (σ b) = none := fun b hb => hr.fresh _ (by rw [hnew b hb]; omega)
  have hget : ∀ b x, m0.get b = some x → ∃ y, renB σ x = some y ∧ M.get (σ b) = some y := by
    intro b x hx
    obtain ⟨y, hy⟩ := Option.isSome_iff_exists.1 (hdom b x hx).2.2
    exact ⟨y, hy, hM b x y hx hy⟩
  have hr0 : Rel (fun b => ι (σ b)) m0 w := by
    refine ⟨hfr0, fun b p hp => hr.low _ _ hp, fun b x hx => ?_, fun b b' x x' p p' hx hx' hne ho hl hp hp' => ?_⟩
    · obtain ⟨y, hy, hMy⟩ := hget b x hx
      obtain ⟨p, hp, hb⟩ := hr.blk _ _ hMy
      exact ⟨p, hp, (BRel_ren hy).1 hb⟩
    · obtain ⟨y, hy, hMy⟩ := hget b x hx
      obtain ⟨y', hy', hMy'⟩ := hget b' x' hx'
      exact hr.apart _ _ _ _ _ _ hMy hMy' (fun he => hne (hin b b' (hdom b x hx).1 (hdom b' x' hx').1 he)) ((renB_own hy).trans ho) ((renB_live hy').trans hl) hp hp'
  refine (h.2 _ w args' hr0 (by rw [← trL_ren]; exact hargs)).mono ?_
  rintro e' w' ⟨ι1, hle, hr1, he, hf⟩
  let ι' : Inj := fun c => if c < M.next then ι c else ι1 (m0.next + (c - M.next))
  have hle' : ι.le ι' := by
    intro c p hc
    have : c < M.next := by apply Nat.lt_of_not_le; intro hge; rw [hr.fresh c hge] at hc; cases hc
    simp only [ι', if_pos this]; exact hc
  have hcomp : (fun b => ι' (σ b)) = ι1 := by
    funext b
    by_cases hb : b < m0.next
    · simp only [ι', if_pos (hlo b hb)]; exact (hf.inj b hb).symm
    · have := hnew b (by omega)
      show (if σ b < M.next then ι (σ b) else ι1 (m0.next + (σ b - M.next))) = ι1 b
      rw [if_neg (by omega), show m0.next + (σ b - M.next) = b from by omega]
  -- the blocks that the call never saw
  have hfar : ∀ c y p, c < M.next → M.get c = some y → ι c = some p → (∀ b x, m0.get b = some x → σ b ≠ c) → y.live = true → w'.heap[p.blk]? = w.heap[p.blk]? := by
    intro c y p hc hy hp hno hl
    refine hf.keep _ (hr.low _ _ hp) ?_
    intro b x q hx ho hq he
    obtain ⟨z, hz, hMz⟩ := hget b x hx
    exact hr.apart _ _ _ _ _ _ hMz hy (hno b x hx) ((renB_own hz).trans ho) hl hq hp he
  -- which block of the later memory is which
  have hcase : ∀ c y, M'.get c = some y → (∃ b x, b < m1.next ∧ (m0.next ≤ b ∨ (m0.get b).isSome = true) ∧ σ b = c ∧ m1.get b = some x ∧ renB σ x = some y) ∨
      (c < M.next ∧ (∀ b x, m0.get b = some x → σ b ≠ c) ∧ M.get c = some y) := by
    intro c y hy
    by_cases hs : ∃ b, b < m1.next ∧ sel b = true ∧ σ b = c
    · obtain ⟨b, hb, hs, rfl⟩ := hs
      have := g1 b hb (by simpa [sel] using hs)
      rw [this] at hy
      cases hx : m1.get b with
      | none => rw [hx] at hy; cases hy
      | some x => rw [hx] at hy; exact .inl ⟨b, x, hb, by simpa [sel] using hs, rfl, hx, hy⟩
    · have hno : ∀ b, b < m1.next → sel b = true → σ b ≠ c := fun b hb hsb he => hs ⟨b, hb, hsb, he⟩
      have h1 := hg.2 c hno
      have hyM : M.get c = some y := h1.symm.trans hy
      refine .inr ⟨hr.lt hyM, fun b x hx he => hno b (Nat.lt_of_lt_of_le (hdom b x hx).1 hnx) (by simp [sel, hx]) he, hyM⟩
  have hιlow : ∀ c, c < M.next → ι' c = ι c := fun c hc => by simp only [ι', if_pos hc]
  have hcompb : ∀ b, ι' (σ b) = ι1 b := fun b => congrFun hcomp b
  -- an old block of the call is alike in owning
  have hold : ∀ b x1, (m0.next ≤ b ∨ (m0.get b).isSome = true) → m1.get b = some x1 → m0.next ≤ b ∨ ∃ x0 y0, m0.get b = some x0 ∧ renB σ x0 = some y0 ∧ M.get (σ b) = some y0 ∧ y0.own = x1.own ∧ (y0.live = true ∨ x1 = x0) ∧ b < m0.next := by
    intro b x1 hs hx1
    rcases hs with hs | hs
    · exact .inl hs
    · obtain ⟨x0, hx0⟩ := Option.isSome_iff_exists.1 hs
      obtain ⟨y0, hy0, hMy⟩ := hget b x0 hx0
      exact .inr ⟨x0, y0, hx0, hy0, hMy, by rw [renB_own hy0, ← hf.stay _ _ _ hx0 hx1], by rw [renB_live hy0]; exact (hdom b x0 hx0).2.1.imp id (fun e => by rw [hx1] at e; cases e; rfl), (hdom b x0 hx0).1⟩
  have apartX : ∀ b x1 y1 c' y' p p', b < m1.next → (m0.next ≤ b ∨ (m0.get b).isSome = true) → m1.get b = some x1 → renB σ x1 = some y1 → (c' < M.next) → (∀ b x, m0.get b = some x → σ b ≠ c') → M.get c' = some y' →
      ((y1.own = true ∧ y'.live = true) ∨ (y'.own = true ∧ y1.live = true)) → ι1 b = some p → ι c' = some p' → p.blk ≠ p'.blk := by
    intro b x1 y1 c' y' p p' hb hs hx1 hy1 hc' hno hy' hor hp hp' heq
    have hp'low := hr.low _ _ hp'
    have hlive' : y'.live = true := by
      rcases hor with h | h
      · exact h.2
      · exact own_live h.1
    rcases hold b x1 hs hx1 with hnewb | ⟨x0, y0, hx0, hy0, hMy0, how, hli, hblt⟩
    · rcases hf.born b x1 p hx1 hp with hs' | ⟨b0, x0, p0, hx0, hp0, he0, hor0⟩
      · omega
      · have ho0 : x0.own = true := by
          rcases hor0 with rfl | h
          · have := (hdom _ _ hx0).1; omega
          · exact h
        obtain ⟨y0, hy0, hMy0⟩ := hget b0 x0 hx0
        exact hr.apart _ _ _ _ _ _ hMy0 hy' (hno b0 x0 hx0) ((renB_own hy0).trans ho0) hlive' hp0 hp' (he0.trans heq)
    · have hpb : ι (σ b) = some p := by rw [← hf.inj b hblt]; exact hp
      rcases hor with h | h
      · exact hr.apart _ _ _ _ _ _ hMy0 hy' (hno b x0 hx0) (how.trans ((renB_own hy1).symm.trans h.1)) h.2 hpb hp' heq
      · exact hr.apart _ _ _ _ _ _ hy' hMy0 (fun e => hno b x0 hx0 e.symm) h.1 (hli.elim id (fun e => by subst e; rw [hy0] at hy1; cases hy1; exact h.2)) hp' hpb heq.symm
  have hr' : Rel ι' M' w' := by
    refine ⟨fun c hc => ?_, fun c p hp => ?_, fun c y hy => ?_, fun c c' y y' p p' hy hy' hne ho hl hp hp' => ?_⟩
    · rw [hn'] at hc
      have : ¬ c < M.next := by omega
      simp only [ι', if_neg this]
      exact hr1.fresh _ (by omega)
    · by_cases hc : c < M.next
      · rw [hιlow c hc] at hp; exact Nat.lt_of_lt_of_le (hr.low _ _ hp) hf.size
      · simp only [ι', if_neg hc] at hp; exact hr1.low _ _ hp
    · rcases hcase c y hy with ⟨b, x, hb, hs, rfl, hx, hxy⟩ | ⟨hc, hno, hyM⟩
      · obtain ⟨p, hp, hbr⟩ := hr1.blk _ _ hx
        refine ⟨p, by rw [hcompb]; exact hp, (BRel_ren hxy).2 (by rw [hcomp]; exact hbr)⟩
      · obtain ⟨p, hp, hbr⟩ := hr.blk _ _ hyM
        refine ⟨p, by rw [hιlow c hc]; exact hp, ?_⟩
        by_cases hl : y.live = true
        · exact hbr.mono hle' (hfar c y p hc hyM hp hno hl)
        · cases y with
          | cells cc esz own =>
            simp [CB.live] at hl
            obtain ⟨rfl, rfl⟩ := hl
            obtain ⟨h1, h2, h3, h4⟩ := hbr
            exact ⟨h1, h2, fun i v hv => by simp at hv, fun h => by cases h⟩
          | map es => simp [CB.live] at hl
          | loop l => simp [CB.live] at hl
          | dfr => simp [CB.live] at hl
          | siter s pos => simp [CB.live] at hl
    · rcases hcase c y hy with ⟨b, x, hb, hs, rfl, hx, hxy⟩ | ⟨hc, hno, hyM⟩
      · rw [hcompb] at hp
        rcases hcase c' y' hy' with ⟨b', x', hb', hs', rfl, hx', hxy'⟩ | ⟨hc', hno', hyM'⟩
        · rw [hcompb] at hp'
          exact hr1.apart _ _ _ _ _ _ hx hx' (fun he => hne (by rw [he])) ((renB_own hxy).symm.trans ho) ((renB_live hxy').symm.trans hl) hp hp'
        · rw [hιlow c' hc'] at hp'
          exact apartX b x y c' y' p p' hb hs hx hxy hc' hno' hyM' (.inl ⟨ho, hl⟩) hp hp'
      · rw [hιlow c hc] at hp
        rcases hcase c' y' hy' with ⟨b', x', hb', hs', rfl, hx', hxy'⟩ | ⟨hc', hno', hyM'⟩
        · rw [hcompb] at hp'
          exact Ne.symm (apartX b' x' y' c y p' p hb' hs' hx' hxy' hc hno hyM (.inr ⟨ho, hl⟩) hp' hp)
        · rw [hιlow c' hc'] at hp'
          exact hr.apart _ _ _ _ _ _ hyM hyM' hne ho hl hp hp'
  refine ⟨ι', hle', hr', ERel_ren.2 (by rw [hcomp]; exact he), ⟨hf.os, hf.tape, hf.output, hf.size, fun B hB hno => ?_, fun c y p hy hp => ?_, fun c y y' hy hy' => ?_, by rw [hn']; omega, fun c hc hnone => ?_, fun c hc => hιlow c hc⟩⟩
  · refine hf.keep B hB ?_
    intro b x p hx ho hp
    obtain ⟨z, hz, hMz⟩ := hget b x hx
    exact hno _ _ _ hMz ((renB_own hz).trans ho) hp
  · rcases hcase c y hy with ⟨b, x, hb, hs, rfl, hx, hxy⟩ | ⟨hc, hno, hyM⟩
    · rw [hcompb] at hp
      rcases hf.born b x p hx hp with h | ⟨b0, x0, p0, hx0, hp0, he0, hor⟩
      · exact .inl h
      · obtain ⟨y0, hy0, hMy0⟩ := hget b0 x0 hx0
        exact .inr ⟨σ b0, y0, p0, hMy0, hp0, he0, hor.imp (fun e => by rw [e]) (fun ho => (renB_own hy0).trans ho)⟩
    · rw [hιlow c hc] at hp
      exact .inr ⟨c, y, p, hyM, hp, rfl, .inl rfl⟩
  · rcases hcase c y' hy' with ⟨b, x, hb, hs, rfl, hx, hxy⟩ | ⟨hc, hno, hyM⟩
    · rcases hold b x hs hx with hnewb | ⟨x0, y0, hx0, hy0, hMy0, how, hli, hblt⟩
      · have := hr.lt hy; have := hnew b hnewb; omega
      · rw [hMy0] at hy; cases hy; rw [renB_own hxy]; exact how.symm
    · rw [hyM] at hy; cases hy; rfl
  · cases hg' : M'.get c with
    | none => rfl
    | some y =>
      rcases hcase c y hg' with ⟨b, x, hb, hs, rfl, hx, hxy⟩ | ⟨hc, hno, hyM⟩
      · rcases hold b x hs hx with hnewb | ⟨x0, y0, hx0, hy0, hMy0, how, hli, hblt⟩
        · have := hnew b hnewb; omega
        · rw [hMy0] at hnone; cases hnone
      · rw [hyM] at hnone; cases hnone
end Go.Proofs.Ytjkfleibnojjaaa
end
