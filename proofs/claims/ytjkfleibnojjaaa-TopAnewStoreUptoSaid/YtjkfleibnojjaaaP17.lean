/- Part 17 of 23 of the proof that the law TopAnewStore returns true and leaves its argument as it read before, for every input that the bounded statement admits (what it reads is of bulk at most 1048576). -/
import Derived.Test.YtjkfleibnojjaaaP16
namespace Go.Proofs.Ytjkfleibnojjaaa
open Go
section
variable {P : Program} {C : CB1} {Y : YB1} {lf : Nat} {r : Option Nat} {lo : Nat}
theorem rfEb_ok {l : Nat} {m : CM} {K : Exit → CM → Bool} (h : rfEb lo l m K = true) : rfE l m (fun e m' => leF lo m m' ∧ K e m' = true) := by
  unfold rfEb at h
  split at h
  · rename_i L hl
    split at h
    · cases h
    · rename_i hb
      split at h
      · rename_i e he
        simp only [Bool.and_eq_true] at h
        exact ⟨L, hl, hb, e, he, leF_put (Nat.le_of_ble_eq_true h.1), h.2⟩
      · cases h
  · cases h
theorem callw_imp {f : FuncId} {args : List Value} {m : CM} {K K' : Value → CM → Prop} {Kp Kp' : List PanicEntry → CM → Prop} (h : callw P f args m K Kp) (hk : ∀ v m', K v m' → K' v m') (hp : ∀ c m', Kp c m' → Kp' c m') : callw P f args m K' Kp' := by
  obtain ⟨e, m', h1, h2⟩ := h
  exact ⟨e, m', h1, by cases e with | ret v => exact hk _ _ h2 | pan c => exact hp _ _ h2⟩
theorem rfE_imp {l : Nat} {m : CM} {K K' : Exit → CM → Prop} (h : rfE l m K) (hk : ∀ e m', K e m' → K' e m') : rfE l m K' := by
  obtain ⟨L, h1, h2, e, h3, h4⟩ := h
  exact ⟨L, h1, h2, e, h3, hk _ _ h4⟩
theorem rfb_ok (hC : CbOk P C) {f : Operand} {ps : Array Tmp} {as bd : Code} {Q : QB} {a : CA} {m : CM} (hf : opdOk f = true) (hlo : lo ≤ m.next) (h : rfb C lo r f ps as bd Q a m = true) :
    rfw P r f ps as bd (fun e a m' => leF lo m m' ∧ Q e a m' = true) a m := by
  unfold rfb at h
  unfold rfw
  simp only [hf]
  split at h
  · rename_i gf fs cs hv
    cases r with
    | none =>
      simp only [] at h ⊢
      have hl1 : leF lo m ((m.alloc .dfr).alloc (.loop (rfRec a ps as bd m.next))) := (leF_alloc hlo).trans (leF_alloc (by simp; omega))
      refine ⟨gf, fs, cs, hv, callw_imp (hC _ _ _ _ _ _ (hl1.low hlo) h) (fun v m2 hk => ?_) (fun c m2 hk => ⟨hl1.trans hk.1, hk.2⟩)⟩
      exact rfE_imp (rfEb_ok hk.2) (fun e m' hh => ⟨(hl1.trans hk.1).trans hh.1, hh.2⟩)
    | some l0 =>
      simp only [] at h ⊢
      split at h
      · rename_i L0 hl0
        have hl1 : leF lo m (m.alloc (.loop (rfRec a ps as bd L0.defers))) := leF_alloc hlo
        refine ⟨gf, fs, cs, L0, hv, hl0, callw_imp (hC _ _ _ _ _ _ (hl1.low hlo) h) (fun v m2 hk => ?_) (fun c m2 hk => ⟨hl1.trans hk.1, hk.2⟩)⟩
        exact rfE_imp (rfEb_ok hk.2) (fun e m' hh => ⟨(hl1.trans hk.1).trans hh.1, hh.2⟩)
      · cases h
  · cases h
theorem wpb_ok (hmx : P.follows .mixedOrders = true) (hC : CbOk P C) (hY : YbOk P Y) {n : Nat} : ∀ (c : Code) (Q : QB) (a : CA) (m : CM), codeOkE n c = true → a.n = n → lo ≤ m.next → wpb P C Y lf lo r c Q a m = true →
    ∃ e a' m', CEvC P r c a m e a' m' ∧ a'.n = n ∧ leF lo m m' ∧ Q e a' m' = true
  | .skip, Q, a, m, _, hn, _, h => ⟨_, _, _, cev_skip a m, hn, .refl .., h⟩
  | .label l, Q, a, m, _, hn, _, h => ⟨_, _, _, cev_label l a m, hn, .refl .., h⟩
  | .exit l, Q, a, m, _, hn, _, h => ⟨_, _, _, cev_exit l a m, hn, .refl .., h⟩
  | .goto l, Q, a, m, _, hn, _, h => ⟨_, _, _, cev_goto l a m, hn, .refl .., h⟩
  | .ret, Q, a, m, _, hn, _, h => ⟨_, _, _, cev_ret a m, hn, .refl .., h⟩
  | .seq x y, Q, a, m, hok, hn, hlo, h => by
    simp only [codeOkE, Bool.and_eq_true] at hok
    obtain ⟨e, a1, m1, h1, hn1, hl1, h2⟩ := wpb_ok hmx hC hY x _ a m hok.1 hn hlo h
    cases e with
    | normal =>
      obtain ⟨e2, a2, m2, h3, hn2, hl2, h4⟩ := wpb_ok hmx hC hY y _ a1 m1 hok.2 hn1 (hl1.low hlo) h2
      exact ⟨_, _, _, cev_seq h1 h3, hn2, hl1.trans hl2, h4⟩
    | exit i => exact ⟨_, _, _, cev_seq_out (by simp) h1, hn1, hl1, h2⟩
    | goto i => exact ⟨_, _, _, cev_seq_out (by simp) h1, hn1, hl1, h2⟩
    | ret => exact ⟨_, _, _, cev_seq_out (by simp) h1, hn1, hl1, h2⟩
    | panic i => exact ⟨_, _, _, cev_seq_out (by simp) h1, hn1, hl1, h2⟩
    | outgrown => exact ⟨_, _, _, cev_seq_out (by simp) h1, hn1, hl1, h2⟩
  | .cond c x y, Q, a, m, hok, hn, hlo, h => by
    simp only [codeOkE, Bool.and_eq_true] at hok
    simp only [wpb] at h
    split at h
    · rename_i hv
      obtain ⟨e, a1, m1, h1, h2⟩ := wpb_ok hmx hC hY x _ a m hok.1.2 hn hlo h
      exact ⟨_, _, _, cev_cond hok.1.1 hv h1, h2⟩
    · rename_i hv
      obtain ⟨e, a1, m1, h1, h2⟩ := wpb_ok hmx hC hY y _ a m hok.2 hn hlo h
      exact ⟨_, _, _, cev_cond hok.1.1 hv h1, h2⟩
    · cases h
  | .block id x, Q, a, m, hok, hn, hlo, h => by
    simp only [codeOkE] at hok
    obtain ⟨e, a1, m1, h1, hn1, hl1, h2⟩ := wpb_ok hmx hC hY x _ a m hok hn hlo h
    refine ⟨_, _, _, cev_block h1, hn1, hl1, ?_⟩
    cases e with
    | exit i =>
      simp only [inBlkB, inBlkE] at h2 ⊢
      split
      · rename_i e; subst e; simp only [Nat.beq_refl] at h2; exact h2
      · rename_i e
        have : Nat.beq i id = false := by
          cases hb : Nat.beq i id with
          | false => rfl
          | true => exact absurd (Nat.eq_of_beq_eq_true hb) e
        simp only [this] at h2; exact h2
    | _ => exact h2
  | .loop x, Q, a, m, hok, hn, hlo, h => by
    simp only [codeOkE] at hok
    have go : ∀ (k : Nat) (a : CA) (m : CM), a.n = n → lo ≤ m.next → loopb k (fun K a m => wpb P C Y lf lo r x (thenB K Q) a m) a m = true → ∃ e a' m', LoopRuns P r x a m e a' m' ∧ a'.n = n ∧ leF lo m m' ∧ Q e a' m' = true := by
      intro k
      induction k with
      | zero => intro a m _ _ h; simp [loopb] at h
      | succ k ih =>
        intro a m hn hlo h
        simp only [loopb] at h
        obtain ⟨e, a1, m1, h1, hn1, hl1, h2⟩ := wpb_ok hmx hC hY x _ a m hok hn hlo h
        cases e with
        | normal =>
          obtain ⟨e2, a2, m2, h3, hn2, hl2, h4⟩ := ih a1 m1 hn1 (hl1.low hlo) h2
          exact ⟨e2, a2, m2, .next h1 h3, hn2, hl1.trans hl2, h4⟩
        | exit i => exact ⟨_, _, _, .last (by simp) h1, hn1, hl1, h2⟩
        | goto i => exact ⟨_, _, _, .last (by simp) h1, hn1, hl1, h2⟩
        | ret => exact ⟨_, _, _, .last (by simp) h1, hn1, hl1, h2⟩
        | panic i => exact ⟨_, _, _, .last (by simp) h1, hn1, hl1, h2⟩
        | outgrown => exact ⟨_, _, _, .last (by simp) h1, hn1, hl1, h2⟩
    obtain ⟨e, a', m', h1, h2⟩ := go lf a m hn hlo h
    exact ⟨e, a', m', cev_loop h1, h2⟩
  | .region id ops d, Q, a, m, hok, hn, hlo, h => by
    simp only [codeOkE, Bool.and_eq_true, List.all_eq_true] at hok
    cases d with
    | true =>
      simp only [if_true, Bool.and_eq_true] at hok
      have hg := drawb_ok (lo := lo) hC hY (ops := ops) (m0 := m) (K' := fun a' m' => wpcOps P r ops ((List.range ops.size).drop (n1Of ops)) (fun e a m' => leF lo m m' ∧ Q e a m' = true) a' m') hlo
        (fun a' m' hl hk => opsb_ok hC hY hlo _ a' m' hl hk) (n1Of ops) [] [] a m.next (Nat.le_refl _) (fun e he => by simp at he) (fun t ht => by simp at ht) ((drawc_eq (n1Of ops) 0 false [] [] a m.next rfl (fun _ => ⟨rfl, fun e he => by simp at he⟩)).symm.trans h)
      obtain ⟨e, a', m', h1, h2, h3, h4⟩ := drw_of (r := r) (id := id) (Q := fun e a m' => leF lo m m' ∧ Q e a m' = true) _ _ hok.2.2 hmx hok.2.1 (by rw [hn]; simpa only [List.all_eq_true] using hok.1) hg
      exact ⟨e, a', m', h1, h2.trans hn, h3, h4⟩
    | false =>
      simp only [Bool.false_eq_true, if_false, List.all_eq_true, Bool.or_eq_true] at hok
      obtain ⟨e, a', m', h1, h2, h3, h4⟩ := wpcOps_sound hok.2 hok.1 _ _ _ _ hn (opsb_ok hC hY hlo _ a m (.refl ..) h)
      exact ⟨e, a', m', cev_region h1, h2, h3, h4⟩
  | .rangeFunc f ps as bd, Q, a, m, hok, hn, hlo, h => by
    simp only [codeOkE, Bool.and_eq_true] at hok
    obtain ⟨e, a', m', h1, h2, h3, h4⟩ := rfw_sound (rfb_ok hC hok.1.1.1 hlo h)
    exact ⟨e, a', m', h1, h2.trans hn, h3, h4⟩
  | .scope x, Q, a, m, hok, hn, hlo, h => by
    simp only [codeOkE] at hok
    obtain ⟨e, a1, m1, h1, hn1, hl1, h2⟩ := wpb_ok hmx hC hY x _ a m hok hn hlo h
    have hng : ∀ l, e ≠ .goto l := by intro l he; subst he; simp at h2
    refine ⟨e, a1, m1, fun ι w aw F hr ha hF => wpIn_scope' (wpIn_mono (h1 ι w aw F hr ha hF) ?_), hn1, hl1, by cases e <;> first | exact h2 | (exact absurd rfl (hng _))⟩
    intro e' aw' w' hh
    refine ⟨fun l hl => ?_, hh⟩
    obtain ⟨_, _, _, _, hx, _⟩ := hh
    subst hl
    cases e <;> simp only [XRel] at hx
    exact hng _ rfl
  | .refuse _, _, _, _, _, _, _, h => by cases h
end
end Go.Proofs.Ytjkfleibnojjaaa
