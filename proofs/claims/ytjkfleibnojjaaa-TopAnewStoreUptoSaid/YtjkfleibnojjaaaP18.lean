/- Part 18 of 23 of the proof that the law TopAnewStore returns true and leaves its argument as it read before, for every input that the bounded statement admits (what it reads is of bulk at most 1048576). -/
import Derived.Test.YtjkfleibnojjaaaP17
namespace Go.Proofs.Ytjkfleibnojjaaa
open Go
section
variable {P : Program} {C : CB1} {Y : YB1} {lf : Nat} {lo : Nat}
theorem resB_ok {m : CM} : ∀ (rv : List RV) (K : List Value → Bool), resB P m rv K = true → resV P m rv (fun vs => K vs = true)
  | [], K, h => h
  | .v x :: l, K, h => resB_ok l _ h
  | .c t p :: l, K, h => by
    simp only [resB] at h
    unfold popb at h
    simp only [resV]
    split at h
    · rename_i v hv; rw [valF_eq] at h; exact ⟨v, hv, resB_ok l _ h⟩
    · cases h
theorem resV_imp {m : CM} : ∀ (rv : List RV) {K K' : List Value → Prop}, resV P m rv K → (∀ vs, K vs → K' vs) → resV P m rv K'
  | [], K, K', h, hk => hk _ h
  | .v x :: l, K, K', h, hk => resV_imp l h (fun vs => hk _)
  | .c t p :: l, K, K', h, hk => by obtain ⟨v, h1, h2⟩ := h; exact ⟨v, h1, resV_imp l h2 (fun vs => hk _)⟩
def DbOk (P : Program) (lo : Nat) (D : FuncId → List Value → CMd → CM → (CMd → CM → Bool) → Bool) : Prop := ∀ g args u m K, lo ≤ m.next → D g args u m K = true → defw P g args u m (fun u' m' => leF lo m m' ∧ K u' m' = true)
theorem leaveB_ok {D : FuncId → List Value → CMd → CM → (CMd → CM → Bool) → Bool} (hD : DbOk P lo D) {rv : List RV} {R : CE → CM → Bool} {m0 : CM} (hlo : lo ≤ m0.next) : ∀ (ds : List Deferred) (u : CMd) (m : CM), leF lo m0 m → leaveB P lo D rv ds u m R = true →
    leaveV P rv ds u m (fun e m' => leF lo m0 m' ∧ R e m' = true)
  | [], .ret, m, hm, h => by simp only [leaveB] at h; simp only [leaveV]; exact resV_imp _ (resB_ok _ _ h) (fun vs hk => ⟨hm, hk⟩)
  | [], .pan ch, m, hm, h => ⟨hm, h⟩
  | d :: ds, u, m, hm, h => by
    simp only [leaveB] at h
    simp only [leaveV]
    split at h
    · rename_i B hB
      rw [hB]
      simp only []
      split at h
      · rename_i hg
        simp only [Bool.and_eq_true] at h
        exact ⟨hg, leaveB_ok hD hlo ds u _ (hm.trans (leF_set (Nat.le_of_ble_eq_true h.1))) h.2⟩
      · cases h
    · rename_i g cs hB
      rw [hB]
      simp only []
      obtain ⟨u', m', h1, h2, h3⟩ := hD _ _ _ _ _ (hm.low hlo) h
      exact ⟨u', m', h1, leaveB_ok hD hlo ds _ _ (hm.trans h2) h3⟩
    · cases h
theorem fnB_ok {fn : Func} {n : Nat} (h : fnB fn n = true) : fn.name ≠ "runtime.NumGoroutine" ∧ n ≤ fn.ntmps := by
  simp only [fnB, Bool.and_eq_true, Bool.not_eq_true', beq_eq_false_iff_ne, ne_eq] at h
  exact ⟨h.1, Nat.le_of_ble_eq_true h.2⟩
theorem endB_ok {fn : Func} {k : Bool} {e : Exit} {a : CA} {m : CM} (h : endB P fn k e a m = true) : (e = .normal ∨ e = .ret) ∧ a.ds = [] ∧ (∃ vs, cresV P a.ρ m fn.results.toList = some vs) ∧ k = true := by
  unfold endB at h
  cases e with
  | normal =>
    simp only [] at h
    split at h
    · rename_i h1 h2; exact ⟨.inl rfl, h1, ⟨_, h2⟩, h⟩
    · cases h
  | ret =>
    simp only [] at h
    split at h
    · rename_i h1 h2; exact ⟨.inr rfl, h1, ⟨_, h2⟩, h⟩
    · cases h
  | _ => cases h
theorem defB_ok (hmx : P.follows .mixedOrders = true) (hC : CbOk P C) (hY : YbOk P Y) : DbOk P lo (defB P C Y lf lo) := by
  intro g args u m K hlo h
  unfold defB at h
  split at h
  · rename_i fn hf
    split at h
    · rename_i id o0 o1 rest hb
      split at h
      · rename_i hc
        simp only [Bool.and_eq_true] at hc
        obtain ⟨⟨h1, h2⟩, h3⟩ := hc
        obtain ⟨hn, hl⟩ := fnB_ok h1
        obtain ⟨e, a, m', hev, _, hle, hend⟩ := wpb_ok hmx hC hY rest _ _ _ h3 (by rw [put_n, put_n]; rfl) hlo h
        obtain ⟨he, hds, hvs, hk⟩ := endB_ok hend
        unfold isRec at h2
        split at h2
        · rename_i ts d d' ho0 hg0 hd0 ho1 hg1
          simp only [Bool.and_eq_true] at h2
          have hdd := Nat.eq_of_beq_eq_true h2.1.1
          subst hdd
          exact defw_of' hf hb hn hl ho0 hg0 hd0 (by simpa [dOk] using h2.1.2) ho1 hg1 h2.2 ⟨e, a, m', hev, he, hds, hvs, hle, hk⟩
        · cases h2
      · cases h
    · cases h
  · cases h
theorem noY : YbOk P (fun _ _ _ _ _ => false) := fun _ _ _ _ _ _ h => by cases h
theorem yb_ok (hmx : P.follows .mixedOrders = true) (hC : CbOk P C) : YbOk P (yb P C lf) := by
  intro lo l args m K hlo h
  unfold yb at h
  split at h
  · rename_i L hl
    split at h
    · rename_i hc
      simp only [Bool.and_eq_true] at hc
      obtain ⟨⟨⟨⟨h0, h1⟩, h2⟩, h3⟩, h4⟩ := hc
      have hll := Nat.le_of_ble_eq_true h0
      obtain ⟨e1, a1, m1, hev1, hn1, hle1, hmid⟩ := wpb_ok hmx hC noY L.assign _ _ _ h2 (roundA_n ..) hlo h
      unfold roundMid at hmid
      cases e1 with
      | normal =>
        simp only [] at hmid
        split at hmid
        · rename_i L1 hl1
          split at hmid
          · rename_i hs1
            obtain ⟨e2, a2, m2, hev2, hn2, hle2, hend⟩ := wpb_ok hmx hC noY L.body _ _ _ h3 hn1 (by simp; exact hle1.low hlo) hmid
            unfold roundEnd at hend
            split at hend
            · rename_i j hj
              split at hend
              · rename_i L2 hl2
                refine yieldw_of' hl (Nat.eq_of_beq_eq_true h1) h4 ⟨a1, m1, hev1, L1, hl1, hs1, e2, a2, m2, hev2, j, L2, hj, hl2, ?_, hend⟩
                exact ((hle1.trans (leF_put hll)).trans hle2).trans (leF_put hll)
              · cases hend
            · cases hend
          · cases hmid
        · cases hmid
      | _ => cases hmid
    · cases h
  · cases h
theorem bodyb_ok (hmx : P.follows .mixedOrders = true) (hC : CbOk P C) : CbOk P (bodyb P C lf) := by
  intro lo f args m K Kp hlo h
  unfold bodyb at h
  split at h
  · rename_i fn hf
    split at h
    · rename_i c hb
      split at h
      · rename_i hc
        simp only [Bool.and_eq_true] at hc
        obtain ⟨hn, hl⟩ := fnB_ok hc.1
        obtain ⟨e, a, m1, hev, _, hle, hlv⟩ := wpb_ok hmx hC (yb_ok hmx hC) c _ _ _ hc.2 rfl hlo h
        have hlv' : leaveX P fn.results.toList (fun e m' => leF lo m m' ∧ RKB K Kp e m' = true) e a m1 := by
          unfold leaveXB at hlv
          unfold leaveX
          cases e with
          | normal => exact leaveB_ok (defB_ok hmx hC (yb_ok hmx hC)) hlo _ _ _ hle hlv
          | ret => exact leaveB_ok (defB_ok hmx hC (yb_ok hmx hC)) hlo _ _ _ hle hlv
          | panic ch => exact leaveB_ok (defB_ok hmx hC (yb_ok hmx hC)) hlo _ _ _ hle hlv
          | exit i => cases hlv
          | goto i => cases hlv
          | outgrown => cases hlv
        obtain ⟨ce, m', h1, h2, h3⟩ := callw_of' hf hb hn hl ⟨e, a, m1, hev, hlv'⟩
        exact ⟨ce, m', h1, by cases ce <;> exact ⟨h2, h3⟩⟩
      · cases h
    · cases h
  · cases h
theorem callF_ok (hmx : P.follows .mixedOrders = true) : ∀ n, CbOk P (callF P lf n)
  | 0 => fun _ _ _ _ _ _ _ h => by cases h
  | n + 1 => bodyb_ok hmx (callF_ok hmx n)
end
end Go.Proofs.Ytjkfleibnojjaaa
