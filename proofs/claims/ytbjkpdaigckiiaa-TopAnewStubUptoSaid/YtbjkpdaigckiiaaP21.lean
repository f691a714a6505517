/- Part 21 of 23 of the proof that the law TopAnewStub returns true and leaves its argument as it read before, for every input that the bounded statement admits (what it reads is of bulk at most 1048576). -/
import Derived.Test.YtbjkpdaigckiiaaP12
import Derived.Test.YtbjkpdaigckiiaaP20
open Go Go.Proofs Go.Proofs.Ytbjkpdaigckiiaa
set_option maxRecDepth 100000
namespace Go.Proofs.Ytbjkpdaigckiiaa.S
/-! least, laid over by a summary -/
theorem cmm_min_is {a b : Int} : cmm Try.prog .min [.int .i64 a, .int .i64 b] = some (.int .i64 (if b < a then b else a)) := by
  simp only [cmm, plainL, plainV, Bool.and_self, if_true, Builtin.min_, List.foldlM_cons, List.foldlM_nil, Builtin.min2]
  rfl
theorem min89x {m : CM} {b o k : Nat} {x : Int} (hx : cload Try.prog 3 (.pointer (some ⟨b, o, none⟩)) m = some (.int .i64 x)) {K : Value → CM → Prop} {Kp : List PanicEntry → CM → Prop} (hK : K (.int .i64 x) m) : callw Try.prog 89 [.slice (some ⟨b, o, none⟩) 1 k] m K Kp := by
  have hl : clen Try.prog 25 (.slice (some ⟨b, o, none⟩) 1 k) m = some (.int .i64 ((1 : Nat) : Int)) := by simp only [clen, Try.underlying25]; rfl
  have hi : cia Try.prog 25 (.slice (some ⟨b, o, none⟩) 1 k) (.int .i64 0) = some (.pointer (some ⟨b, o, none⟩)) := by simp [cia, Try.underlying25, sz3]
  apply c89
  unfold s89
  rw [hl, pop_some, cb_lss, pop_some, show decide (((1 : Nat) : Int) < 1) = false from rfl, cnd_false]
  unfold j89_0
  rw [hi, pop_some, hx, pop_some]
  refine loopA_of (fun l0 ds m' => ds = [] ∧ m' = m ∧ l0 = [.slice (some ⟨b, o, none⟩) 1 k, .int .i64 x, .int .i64 1]) (fun _ _ => 0) ⟨rfl, rfl, rfl⟩ ?_
  rintro X ρ ds m' ⟨rfl, rfl, hll⟩ hX
  simp only [List.map_cons, List.map_nil, List.cons.injEq, and_true] at hll
  obtain ⟨q0, q3, q4⟩ := hll
  simp only [q0, q3, q4, hl, cb_lss, pop_some]
  rw [show decide ((1 : Int) < ((1 : Nat) : Int)) = false from rfl, cnd_false, leave1, RK_ret]
  exact hK
theorem least80x {m m' : CM} {p : Value} {b o k : Nat} {x y : Int} (hp : ∃ a, p = .pointer (some a)) (hy : cload Try.prog 3 p m = some (.int .i64 y)) (hx : cload Try.prog 3 (.pointer (some ⟨b, o, none⟩)) m = some (.int .i64 x))
    (hs : cstore Try.prog 3 p (.int .i64 (if x < y then x else y)) m = some m') {K : Value → CM → Prop} {Kp : List PanicEntry → CM → Prop} (hK : K (.tuple ⟨[]⟩) m') : callw Try.prog 80 [p, .slice (some ⟨b, o, none⟩) 1 k] m K Kp := by
  obtain ⟨a, rfl⟩ := hp
  apply c80
  unfold s80
  simp only [cnilc, pop_some]
  rw [hy]
  simp only [pop_some]
  refine min89x hx ⟨.refl m, ?_⟩
  rw [cmm_min_is, pop_some]
  have hMV : ∀ E : List Ent, (∀ e ∈ E, e.m = none ∨ (e.m = some m ∧ e.lo = m.next)) → memJ m E (fun _ => true) m.next = m := by
    intro E hE
    have : overL (fun _ => true) 0 E m = m := by
      generalize 0 = i
      induction E generalizing i with
      | nil => rfl
      | cons e E ih =>
        rw [overL_cons]
        have hE' : ∀ x ∈ E, x.m = none ∨ (x.m = some m ∧ x.lo = m.next) := fun x hx => hE x (by simp [hx])
        have he : overE m e = m := by
          rcases hE e (by simp) with h | ⟨h, h2⟩
          · simp only [overE, h]
          · simp only [overE, h, h2, Nat.sub_self, CM.over]
        simp only [if_true, he]
        exact ih hE' _
    unfold memJ
    rw [this]
  rw [hMV _ (by intro e he; simp at he; rcases he with rfl | rfl | rfl | rfl | rfl | rfl | rfl <;> simp)]
  rw [hs, sop_some, leave0, RK_ret]
  exact hK
noncomputable def leastB (lo : Nat) (args : List Value) (m : CM) (K : KB) : Bool :=
  match args with
  | [.pointer (some a), .slice (some ⟨b, o, none⟩) 1 _] =>
    (match ldX Try.prog 3 (.pointer (some a)) m, ldX Try.prog 3 (.pointer (some ⟨b, o, none⟩)) m with
    | some (.int .i64 y), some (.int .i64 x) => fence lo (.pointer (some a)) && (match iltb x y with
      | true => intF x fun x => sopb (stX Try.prog 3 (.pointer (some a)) (.int .i64 x) m) fun _ m => K (.tuple ⟨[]⟩) m
      | false => sopb (stX Try.prog 3 (.pointer (some a)) (.int .i64 y) m) fun _ m => K (.tuple ⟨[]⟩) m)
    | _, _ => false)
  | _ => false
noncomputable def leastO (C : CB1) : CB1 := fun lo f args m K Kp => match Nat.beq f 80 with | true => leastB lo args m K | false => C lo f args m K Kp
theorem leastO_ok (C : CB1) (hC : CbOk Try.prog C) : CbOk Try.prog (leastO C) := by
  intro lo f args m K Kp hlo h
  unfold leastO at h
  cases hf : Nat.beq f 80 with
  | false => simp only [hf] at h; exact hC lo f args m K Kp hlo h
  | true =>
    have := Nat.eq_of_beq_eq_true hf
    subst this
    simp only [hf] at h
    unfold leastB at h
    simp only [ldX_eq, stX_eq] at h
    split at h
    · rename_i a b o k
      split at h
      · rename_i y x hy hx
        simp only [Bool.and_eq_true, intF_eq] at h
        obtain ⟨hfe, h⟩ := h
        have key : ∀ z : Int, z = (if x < y then x else y) → sopb (cstore Try.prog 3 (.pointer (some a)) (.int .i64 z) m) (fun _ m => K (.tuple ⟨[]⟩) m) = true → callw Try.prog 80 [.pointer (some a), .slice (some ⟨b, o, none⟩) 1 k] m (fun v m' => leF lo m m' ∧ K v m' = true) (fun ch m' => leF lo m m' ∧ Kp ch m' = true) := by
          intro z hz hh
          subst hz
          unfold sopb at hh
          split at hh
          · rename_i m' hs
            rw [memF_eq] at hh
            exact least80x ⟨a, rfl⟩ hy hx hs ⟨cstore_leF hs hfe, hh⟩
          · cases hh
        split at h
        · rename_i hl
          rw [iltb_eq, decide_eq_true_eq] at hl
          exact key x (by rw [if_pos hl]) h
        · rename_i hl
          rw [iltb_eq, decide_eq_false_iff_not] at hl
          exact key y (by rw [if_neg hl]) h
      · cases h
    · cases h
end Go.Proofs.Ytbjkpdaigckiiaa.S
