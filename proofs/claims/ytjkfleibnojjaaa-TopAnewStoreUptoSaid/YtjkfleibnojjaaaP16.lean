/- Part 16 of 23 of the proof that the law TopAnewStore returns true and leaves its argument as it read before, for every input that the bounded statement admits (what it reads is of bulk at most 1048576). -/
import Derived.Test.YtjkfleibnojjaaaP15
namespace Go.Proofs.Ytjkfleibnojjaaa
open Go
theorem opw_imp {P : Program} {o : Op} {a : CA} {m : CM} {K K' : Value → CM → Prop} {Kp Kp' : List PanicEntry → CM → Prop} (h : opw P o a m K Kp) (hk : ∀ v m', K v m' → K' v m') (hp : ∀ c m', Kp c m' → Kp' c m') : opw P o a m K' Kp' := by
  have pp : ∀ {x : Option Value} {m : CM}, pop x m K → pop x m K' := fun ⟨v, h1, h2⟩ => ⟨v, h1, hk _ _ h2⟩
  have vv : ∀ {x : Option (Value × CM)}, vop x K → vop x K' := fun ⟨v, m', h1, h2⟩ => ⟨v, m', h1, hk _ _ h2⟩
  have cw : ∀ {f args m}, callw P f args m K Kp → callw P f args m K' Kp' := fun ⟨e, m', h1, h2⟩ => ⟨e, m', h1, by cases e with | ret v => exact hk _ _ h2 | pan c => exact hp _ _ h2⟩
  have mw : ∀ {x name args m}, methw P x name args m K Kp → methw P x name args m K' Kp' := fun ⟨t, v, f, rv, h1, h2, h3⟩ => ⟨t, v, f, rv, h1, h2, cw h3⟩
  have pn : ∀ {x : Value} {m : CM}, panw x m Kp → panw x m Kp' := fun ⟨t, v, h1, h2⟩ => ⟨t, v, h1, hp _ _ h2⟩
  unfold opw at h ⊢
  split at h
  all_goals first
    | exact hk _ _ h
    | exact pp h
    | exact vv h
    | exact mw h
    | exact pn h
    | (obtain ⟨l, h1, h2⟩ := h; exact ⟨l, h1, hk _ _ h2⟩)
    | (obtain ⟨h2⟩ := h; exact ⟨hk _ _ h2⟩)
    | exact h
    | skip
  · unfold bltw at h ⊢
    split at h
    all_goals first
      | exact pp h
      | exact vv h
      | exact pn h
      | exact h
  · unfold callv at h ⊢
    split at h
    · exact cw h
    · obtain ⟨v, m', h1, h2⟩ := h; exact ⟨v, m', h1, hk _ _ h2⟩
    · exact mw h
    · exact h
section
variable {P : Program} {C : CB1} {Y : YB1} {lf : Nat} {r : Option Nat} {lo : Nat}
theorem opsb_ok (hC : CbOk P C) (hY : YbOk P Y) {ops : Array Oper} {Q : QB} {m0 : CM} (hlo : lo ≤ m0.next) : ∀ (l : List Nat) (a : CA) (m : CM), leF lo m0 m → opsb P C Y lo r ops l Q a m = true → wpcOps P r ops l (fun e a m' => leF lo m0 m' ∧ Q e a m' = true) a m
  | [], a, m, hm, h => ⟨hm, h⟩
  | i :: rest, a, m, hm, h => by
    simp only [opsb, putB_eq] at h
    simp only [wpcOps]
    cases ho : ops[i]? with
    | none => simp only [ho] at h ⊢; exact opsb_ok hC hY hlo rest a m hm h
    | some o =>
      simp only [ho] at h ⊢
      cases hd : isDefer o.op with
      | true =>
        simp only [hd] at h ⊢
        cases hg : (r.isNone && o.guard.isNone) with
        | false => simp only [hg] at h; cases h
        | true =>
          simp only [hg] at h ⊢
          cases hc : cdefer a o.op with
          | none => simp only [hc] at h; cases h
          | some d => simp only [hc] at h ⊢; exact opsb_ok hC hY hlo rest _ m hm h
      | false =>
        simp only [hd] at h ⊢
        have step : opb P C Y lo o.op a m (fun v m' => opsb P C Y lo r ops rest Q (a.put o.dst v) m') (fun ch m' => Q (.panic ch) a m') = true →
            opw P o.op a m (fun v m' => wpcOps P r ops rest (fun e a m' => leF lo m0 m' ∧ Q e a m' = true) (a.put o.dst v) m') (fun ch m' => leF lo m0 m' ∧ Q (.panic ch) a m' = true) := by
          intro hx
          exact opw_imp (opb_ok hC hY (hm.low hlo) hx) (fun v m' hk => opsb_ok hC hY hlo rest _ m' (hm.trans hk.1) hk.2) (fun c m' hk => ⟨hm.trans hk.1, hk.2⟩)
        unfold gopb at h
        unfold cguard at h
        cases hgu : o.guard with
        | none => simp only [hgu] at h ⊢; exact step h
        | some jw =>
          obtain ⟨j, want⟩ := jw
          simp only [hgu] at h ⊢
          cases hb : (ops[j]?).bind (·.dst) with
          | none => simp only [hb] at h; cases h
          | some d =>
            simp only [hb] at h ⊢
            refine ⟨?_⟩
            split at h
            · rename_i hx; rw [hx]; exact step h
            · rename_i hx; rw [hx]; exact opsb_ok hC hY hlo rest _ m hm h
            · cases h
theorem stillSt_ok {o : Op} {a : CA} {m : CM} (h : stillSt P o a m = true) {K : Value → Prop} (hK : K undef) :
    opw P o a m (fun v m' => (m'.next = m.next ∧ ∀ b, m'.get b = m.get b) ∧ K v) (fun _ _ => False) := by
  unfold stillSt at h
  split at h
  · rename_i t x y
    split at h
    · rename_i b off hx
      split at h
      · rename_i m' hs
        split at h
        · rename_i c e c' e' h1 h2
          simp only [Bool.and_eq_true] at h
          have hc := sameL_eq h.1
          have he := Nat.eq_of_beq_eq_true h.2
          have hput : ∃ z, m' = m.put b z := by
            rw [hx] at hs
            simp only [cstore] at hs
            split at hs
            · unfold cstoreL at hs
              split at hs
              · split at hs
                · cases hs; exact ⟨_, rfl⟩
                · cases hs
              · cases hs
            · cases hs
          obtain ⟨z, rfl⟩ := hput
          refine ⟨_, hs, ⟨rfl, fun b' => ?_⟩, hK⟩
          rw [CM.get_put] at h2 ⊢
          rw [if_pos rfl] at h2
          by_cases e2 : b' = b
          · subst e2; rw [if_pos rfl, h1, h2, hc, he]
          · rw [if_neg e2]
        · cases h
      · cases h
    · cases h
  · cases h
theorem get_overE_low {m : CM} {e : Ent} {b : Nat} (h : b < e.lo) : (overE m e).get b = m.get b := by
  rw [get_overE]; rw [if_neg (by omega)]
theorem memJ_low (m0 : CM) : ∀ (E : List Ent) (sel : Nat → Bool) (nx b : Nat), (∀ e ∈ E, b < e.lo) → (memJ m0 E sel nx).get b = m0.get b := by
  intro E sel nx b hE
  have : ∀ (E : List Ent) (i : Nat) (m : CM), (∀ e ∈ E, b < e.lo) → (overL sel i E m).get b = m.get b := by
    intro E
    induction E with
    | nil => intro i m _; rfl
    | cons e E ih =>
      intro i m hE
      rw [overL_cons, ih _ _ (fun x hx => hE x (by simp [hx]))]
      split
      · exact get_overE_low (hE e (by simp))
      · rfl
  exact this E 0 m0 hE
theorem memL_low (m0 : CM) (E : List Ent) (W : List (Nat × Nat × CB)) (sel : Nat → Bool) (nx b : Nat) (hE : ∀ e ∈ E, b < e.lo) (hW : ∀ t ∈ W, b < t.2.1) : (memL m0 E W sel nx).get b = m0.get b := by
  rw [← memJ_low m0 E sel nx b hE]
  unfold memL
  generalize memJ m0 E sel nx = M
  induction W generalizing M with
  | nil => rfl
  | cons t W ih =>
    simp only [layW]
    rw [ih (fun u hu => hW u (by simp [hu]))]
    unfold lay1
    have hb := hW t (by simp)
    split
    · split
      · rw [CM.get_put, if_neg (by omega)]
      · rfl
    · rfl
theorem drawb_ok (hC : CbOk P C) (hY : YbOk P Y) {ops : Array Oper} {m0 : CM} {LI : List (Nat × Nat)} {K : CA → CM → Bool} {K' : CA → CM → Prop} (hlo : lo ≤ m0.next) (hK : ∀ a m', leF lo m0 m' → K a m' = true → K' a m') : ∀ (k : Nat) (E : List Ent) (W : List (Nat × Nat × CB)) (a : CA) (nx : Nat), m0.next ≤ nx → (∀ e ∈ E, m0.next ≤ e.lo) → (∀ t ∈ W, lo ≤ t.2.1) → drawb P C Y lo ops m0 LI K k E W a nx = true →
    drawGo P ops m0 LI K' k E W a nx
  | 0, E, W, a, nx, hnx, hE, hW, h => hK _ _ ⟨by unfold memL; rw [layW_next]; exact hnx, fun b hb => memL_low m0 E W _ nx b (fun e he => by have := hE e he; omega) (fun t ht => by have := hW t ht; omega)⟩ h
  | k + 1, E, W, a, nx, hnx, hE, hW, h => by
    simp only [drawb, natF_eq, putB_eq, maskB_eq] at h
    simp only [drawGo]
    cases ho : ops[E.length]? with
    | none => simp only [ho] at h; cases h
    | some o =>
      simp only [ho] at h ⊢
      have hE' : ∀ v eo, ∀ e ∈ E ++ [(⟨v, nx, eo⟩ : Ent)], m0.next ≤ e.lo := by
        intro v eo e he
        simp only [List.mem_append, List.mem_singleton] at he
        rcases he with he | rfl
        · exact hE e he
        · exact hnx
      have hmj : (memL m0 E W (fun i => Nat.testBit (preM ops E.length) i) nx).next = nx := by unfold memL; rw [layW_next]; rfl
      have hS : still o.op = true → opb P C Y lo o.op (maskA a (looks ops o)) (memL m0 E W (fun i => Nat.testBit (preM ops E.length) i) nx) (fun v _ => drawb P C Y lo ops m0 LI K k (E ++ [⟨v, nx, none⟩]) W (a.put o.dst v) nx) (fun _ _ => false) = true →
          drawOpS P o.op (maskA a (looks ops o)) (memL m0 E W (fun i => Nat.testBit (preM ops E.length) i) nx) nx (fun v => drawGo P ops m0 LI K' k (E ++ [⟨v, nx, none⟩]) W (a.put o.dst v) nx) := by
        intro hst hx
        simp only [drawOpS, hst]
        exact opw_imp (opb_ok hC hY (by rw [hmj]; omega) hx) (fun v m' hk => drawb_ok hC hY hlo hK k _ _ _ _ hnx (hE' _ _) hW hk.2) (fun c m' hk => by simp at hk)
      have hT : still o.op = false → (stillSt P o.op (maskA a (looks ops o)) (memL m0 E W (fun i => Nat.testBit (preM ops E.length) i) nx) && drawb P C Y lo ops m0 LI K k (E ++ [⟨undef, nx, none⟩]) W (a.put o.dst undef) nx) = true →
          drawOpS P o.op (maskA a (looks ops o)) (memL m0 E W (fun i => Nat.testBit (preM ops E.length) i) nx) nx (fun v => drawGo P ops m0 LI K' k (E ++ [⟨v, nx, none⟩]) W (a.put o.dst v) nx) := by
        intro hst hx
        simp only [Bool.and_eq_true] at hx
        simp only [drawOpS, hst]
        have hh := stillSt_ok hx.1 (K := fun v => drawGo P ops m0 LI K' k (E ++ [⟨v, nx, none⟩]) W (a.put o.dst v) nx) (drawb_ok hC hY hlo hK k _ _ _ _ hnx (hE' _ _) hW hx.2)
        rw [hmj] at hh
        exact hh
      have hA : opb P C Y nx o.op (maskA a (looks ops o)) (memL m0 E W (fun i => Nat.testBit (preM ops E.length) i) nx) (fun v m' => drawb P C Y lo ops m0 LI K k (E ++ [⟨v, nx, some m'⟩]) W (a.put o.dst v) m'.next) (fun _ _ => false) = true →
          drawOpA P o.op (maskA a (looks ops o)) (memL m0 E W (fun i => Nat.testBit (preM ops E.length) i) nx) (fun v eo nx' => drawGo P ops m0 LI K' k (E ++ [⟨v, nx, eo⟩]) W (a.put o.dst v) nx') := by
        intro hx
        simp only [drawOpA]
        refine opw_imp (opb_ok hC hY (by rw [hmj]; exact Nat.le_refl _) hx) (fun v m' hk => ⟨⟨hk.1.1, fun b hb => hk.1.2 b (by rw [hmj] at hb; exact hb)⟩, ?_⟩) (fun c m' hk => by simp at hk)
        exact drawb_ok hC hY hlo hK k _ _ _ _ (Nat.le_trans hnx (by have := hk.1.1; rw [hmj] at this; exact this)) (hE' _ _) hW hk.2
      cases hlk : lookN LI E.length with
      | some i =>
        simp only [hlk] at h ⊢
        split at h
        · rename_i t x y hgu hop
          simp only [hgu, hop, drawOpL]
          split at h
          · rename_i b off m' hp hs
            cases hbe : Nat.beq i E.length with
            | true =>
              simp only [hbe] at h
              split at h
              · rename_i z hz
                simp only [Bool.and_eq_true, List.all_eq_true, Bool.not_eq_true'] at h
                obtain ⟨⟨⟨⟨h1, h2⟩, h2'⟩, h3⟩, h4⟩ := h
                have hb1 := Nat.le_of_ble_eq_true h1
                refine ⟨m', b, off, z, hs, hp, hz, ⟨Nat.le_of_ble_eq_true h2, apartB_ok h2'⟩, fun t ht hh => ?_, ?_⟩
                · have := h3 t ht
                  rw [hh, Nat.beq_refl] at this; cases this
                · refine drawb_ok hC hY hlo hK k _ _ _ _ hnx (hE' _ _) (fun t ht => ?_) h4
                  simp only [List.mem_append, List.mem_singleton] at ht
                  rcases ht with ht | rfl
                  · exact hW t ht
                  · exact hb1
              · cases h
            | false =>
            simp only [hbe] at h
            split at h
            · rename_i z e hz he
              simp only [Bool.and_eq_true, List.all_eq_true, Bool.not_eq_true'] at h
              obtain ⟨⟨⟨h1, h2⟩, h3⟩, h4⟩ := h
              have hb1 := Nat.le_of_ble_eq_true h1
              refine ⟨m', b, off, z, hs, hp, hz, ⟨e, he, hb1, Nat.le_of_ble_eq_true h2⟩, fun t ht hh => ?_, ?_⟩
              · have := h3 t ht
                rw [hh, Nat.beq_refl] at this; cases this
              · refine drawb_ok hC hY hlo hK k _ _ _ _ hnx (hE' _ _) (fun t ht => ?_) h4
                simp only [List.mem_append, List.mem_singleton] at ht
                rcases ht with ht | rfl
                · exact hW t ht
                · have := hE e (List.mem_of_getElem? he)
                  exact Nat.le_trans hlo (Nat.le_trans this hb1)
            · cases h
          · cases h
        · cases h
      | none =>
      simp only [hlk] at h ⊢
      cases hst : still o.op with
      | true =>
        simp only [hst, Bool.true_or] at h ⊢
        cases hgu : o.guard with
        | none => simp only [cguard, hgu] at h ⊢; exact hS hst h
        | some jw =>
          obtain ⟨j, want⟩ := jw
          simp only [cguard, hgu] at h ⊢
          cases hb : (ops[j]?).bind (·.dst) with
          | none => simp only [hb] at h; cases h
          | some d =>
            simp only [hb] at h ⊢
            refine ⟨?_⟩
            split at h
            · cases h
            · rename_i hx; rw [hx]; exact drawb_ok hC hY hlo hK k _ _ _ _ hnx (hE' _ _) hW h
            · rename_i hx; rw [hx]; exact hS hst h
      | false =>
        simp only [hst, Bool.false_or] at h ⊢
        cases hss : isStore o.op with
        | true =>
          simp only [hss] at h ⊢
          cases hgu : o.guard with
          | none => simp only [cguard, hgu] at h ⊢; exact hT hst h
          | some jw =>
            obtain ⟨j, want⟩ := jw
            simp only [cguard, hgu] at h ⊢
            cases hb : (ops[j]?).bind (·.dst) with
            | none => simp only [hb] at h; cases h
            | some d =>
              simp only [hb] at h ⊢
              refine ⟨?_⟩
              split at h
              · cases h
              · rename_i hx; rw [hx]; exact drawb_ok hC hY hlo hK k _ _ _ _ hnx (hE' _ _) hW h
              · rename_i hx; rw [hx]; exact hT hst h
        | false =>
          simp only [hss] at h ⊢
          cases hgu : o.guard with
          | none => simp only [cguard, hgu] at h ⊢; exact hA h
          | some jw =>
            obtain ⟨j, want⟩ := jw
            simp only [cguard, hgu] at h ⊢
            cases hb : (ops[j]?).bind (·.dst) with
            | none => simp only [hb] at h; cases h
            | some d =>
              simp only [hb] at h ⊢
              refine ⟨?_⟩
              split at h
              · cases h
              · rename_i hx; rw [hx]; exact drawb_ok hC hY hlo hK k _ _ _ _ hnx (hE' _ _) hW h
              · rename_i hx; rw [hx]; exact hA h
end
end Go.Proofs.Ytjkfleibnojjaaa
