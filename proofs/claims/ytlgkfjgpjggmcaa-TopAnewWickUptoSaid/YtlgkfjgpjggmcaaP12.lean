/- Part 12 of 20 of the proof that the law stearintop.TopAnewWick returns true and leaves its argument as it read before, for every input that the bounded statement admits (what it reads is of bulk at most 1048576). -/
import Derived.Test.YtlgkfjgpjggmcaaP05
import Derived.Test.YtlgkfjgpjggmcaaP11
section
open Go Go.Proofs Go.Proofs.Ytlgkfjgpjggmcaa
set_option maxRecDepth 100000
namespace Go.Proofs.Ytlgkfjgpjggmcaa.W
noncomputable abbrev A25 (a0 a1 t2 t3 t11 t12 t13 t14 t15 t6 t17 t8 t19 t20 : Value) : CA := (((((((((((((((((enterA Try.f25 [a0, a1]).put (some 2) t2).put (some 3) t3).put (some 4) (.int .i64 0)).put (some 5) (.int .i64 0)).put (some 11) t11).put (some 12) t12).put (some 13) t13).put (some 10) t13).put (some 14) t14).put (some 15) t15).put (some 6) t6).put (some 7) t15).put (some 16) t15).put (some 17) t17).put (some 8) t8).put (some 19) t19).put (some 20) t20
theorem yield25 {l D : Nat} {a0 a1 t2 t3 t11 t12 t13 t14 t15 t6 t17 t8 t19 t20 x : Value} {m : CM} (hl : m.get l = some (.loop (rfRec (A25 a0 a1 t2 t3 t11 t12 t13 t14 t15 t6 t17 t8 t19 t20) #[21] as25_0 bd25_0 D))) {RY : Value → CM → Prop} (h : r25_0 RY l (A25 a0 a1 t2 t3 t11 t12 t13 t14 t15 t6 t17 t8 t19 t20) x m) : yieldw Try.prog l [x] m RY :=
  yield_text mixed (ann := ann25) hl rfl (by kernel_rfl) (by kernel_rfl) (by kernel_rfl) (by rw [er25_0]; exact h)
theorem A25_6 {a0 a1 t2 t3 t11 t12 t13 t14 t15 t6 t17 t8 t19 t20 : Value} : (A25 a0 a1 t2 t3 t11 t12 t13 t14 t15 t6 t17 t8 t19 t20).ρ 6 = t6 := rfl
theorem A25_8 {a0 a1 t2 t3 t11 t12 t13 t14 t15 t6 t17 t8 t19 t20 : Value} : (A25 a0 a1 t2 t3 t11 t12 t13 t14 t15 t6 t17 t8 t19 t20).ρ 8 = t8 := rfl
/-- Thinnest. -/
theorem Thinnest25 {d : ShopD} {c : CandD} {m : CM} (hd : d.In m) {K : Value → CM → Prop} {Kp : List PanicEntry → CM → Prop} (hK : ∀ m' x e, m.le m' → K (.tuple ⟨[.int .i64 x, .int .i64 e]⟩) m') :
    callw Try.prog 25 [.agg ⟨d.cells⟩, .agg ⟨c.cells⟩] m K Kp := by
  apply c25
  unfold s25
  refine box_of fun p m1 hle1 hp hop => box_of fun q m2 hle2 hq hoq => ?_
  have hle := hle1.trans hle2
  rw [ld27 (hop.le hle2), pop_some, ld29 hoq, pop_some]
  refine open0 (hd.le hle) (fun m3 e hle3 he => ?_) fun m3 b hle3 hb hlk => ?_
  · simp only [cext, List.getElem?_cons_zero, List.getElem?_cons_succ, pop_some, cb_neq]
    refine alw_of ze83 fun b6 m4 hle4 hb6 ho6 => ?_
    refine store_own ho6 (by simp [toL, sz83]) (by simp [toL]) rfl fun m5 hn5 hx5 ho6' => ?_
    rw [show (e != 0) = true by simpa using he, cnd_true, leave2, RK_ret]
    exact hK _ _ _ (le_of_put ((hle.trans hle3).trans hle4) (by have := hle.1; have := hle3.1; omega) hn5 hx5)
  · simp only [cext, List.getElem?_cons_zero, List.getElem?_cons_succ, pop_some, cb_neq]
    refine alw_of ze83 fun b6 m4 hle4 hb6 ho6 => ?_
    refine store_own ho6 (by simp [toL, sz83]) (by simp [toL]) rfl fun m5 hn5 hx5 ho6 => ?_
    simp only [toL] at ho6
    have hle5 := le_of_put hle4 hb6 hn5 hx5
    replace hlk := hlk.le hle5
    replace hle := (hle.trans hle3).trans hle5
    rw [show ((0 : Int) != 0) = false from rfl, cnd_false]
    refine alw_of ze3 fun b8 m6 hle6 hb8 ho8 => ?_
    refine store_own ho8 (by simp [toL, sz3]) (by simp [toL]) rfl fun m7 hn7 hx7 ho8 => ?_
    simp only [toL] at ho8
    have hle7 := le_of_put hle6 hb8 hn7 hx7
    rw [(ho6.le hle7).cel.z ag83 rfl, pop_some]
    refine suiting53 fun m8 t1 hle8 ht1 hot => ?_
    refine ⟨77, [], [.pointer (some ⟨t1, 0, none⟩)], rfl, ?_⟩
    show callw Try.prog 77 [yv (m8.next + 1), .pointer (some ⟨t1, 0, none⟩)] _ _ _
    generalize hD : m8.next = D
    have h58 := hle7.trans hle8
    have h8D : b8 < D := by have := ho8.1; have := hle8.1; omega
    have htD : t1 < D := by have := hot.1; omega
    have h8t : b8 ≠ t1 := by have := ho8.1; omega
    have h5D : m5.next ≤ D := by have := h58.1; omega
    let A : CA := A25 (.agg ⟨d.cells⟩) (.agg ⟨c.cells⟩) (.pointer (some ⟨p, 0, none⟩)) (.pointer (some ⟨q, 0, none⟩)) (.agg ⟨d.cells⟩) (.agg ⟨c.cells⟩) (.tuple ⟨[.pointer (some ⟨b, 0, none⟩), .int .i64 0]⟩) (.pointer (some ⟨b, 0, none⟩)) (.int .i64 0) (.pointer (some ⟨b6, 0, none⟩)) (.bool false) (.pointer (some ⟨b8, 0, none⟩)) (.pointer (some ⟨b, 0, none⟩)) (.func (.func 77) ⟨[]⟩ ⟨[.pointer (some ⟨t1, 0, none⟩)]⟩)
    let REC : CL := rfRec A #[21] as25_0 bd25_0 D
    refine iter77 (d := d) (c := c) (b := b) (t1 := t1) (l := D + 1)
      (I := fun _ m' => m5.le m' ∧ D + 2 ≤ m'.next ∧ m'.get D = some .dfr ∧ m'.get (D + 1) = some (.loop REC) ∧ Own m' t1 [.pointer (some ⟨b, 0, none⟩)] 0 ∧ ∃ n : Int, Own m' b8 [.int .i64 n] 0 ∧ (n < 0 ∨ n < d.nw))
      (J := fun _ => False) ?_ ?_ ?_ ?_ ?_ ?_
    · rintro i m2 m3 ⟨g0, g1, g2, g3, g4, n, g5, g6⟩ hle
      exact ⟨g0.trans hle, by have := hle.1; omega, by rw [hle.2 _ (by omega)]; exact g2, by rw [hle.2 _ (by omega)]; exact g3, g4.le hle, n, g5.le hle, g6⟩
    · exact fun i m2 h => h
    · rintro i m2 ⟨g0, g1, g2, g3, g4, _⟩
      exact ⟨hlk.le g0, g4⟩
    · rintro i m2 K' ⟨g0, g1, g2, g3, g4, n, g5, g6⟩ hi hk _
      refine yield25 g3 ?_
      unfold r25_0
      refine ⟨REC, g3, rfl, ?_⟩
      have hP : ∀ x, x ≠ D + 1 → (m2.put (D + 1) (.loop { REC with state := .busy })).get x = m2.get x := fun x hx => by rw [CM.get_put, if_neg hx]
      rw [A25_8, A25_6]
      have g5' : Own (m2.put (D + 1) (.loop { REC with state := .busy })) b8 [.int .i64 n] 0 := Own.put_ne g5 (by omega)
      have hle2 : m5.le (m2.put (D + 1) (.loop { REC with state := .busy })) := ⟨g0.1, fun x hx => by rw [hP x (by omega)]; exact g0.2 x hx⟩
      rw [ldi g5' rfl, pop_some, cb_lss, pop_some]
      have hend : ∀ m3 n', m3.next = (m2.put (D + 1) (.loop { REC with state := .busy })).next → (∀ x, x ≠ b8 → m3.get x = (m2.put (D + 1) (.loop { REC with state := .busy })).get x) → Own m3 b8 [.int .i64 n'] 0 → (n' < 0 ∨ n' < d.nw) → j25_1 K' (D + 1) m3 := by
        intro m3 n' hn3 hx3 ho3 hn'
        unfold j25_1
        have hl3 : m3.get (D + 1) = some (.loop { REC with state := .busy }) := by rw [hx3 _ (by omega), CM.get_put, if_pos rfl]
        simp only [CM.next_put] at hn3
        refine ⟨none, _, rfl, hl3, hk _ ⟨?_, by simp only [CM.next_put]; omega, ?_, ?_, ?_, n', Own.put_ne ho3 (by omega), hn'⟩⟩
        · exact ⟨by simp only [CM.next_put]; have := g0.1; omega, fun x hx => by rw [CM.get_put, if_neg (by omega), hx3 _ (by omega), hP _ (by omega)]; exact g0.2 x hx⟩
        · rw [CM.get_put, if_neg (by omega), hx3 _ (by omega), hP _ (by omega)]; exact g2
        · rw [CM.get_put, if_pos rfl]; rfl
        · exact ⟨by simp only [CM.next_put]; have := g4.1; omega, by rw [CM.get_put, if_neg (by omega), hx3 _ (by omega), hP _ (by omega)]; exact g4.2⟩
      have hset : sop (cstore Try.prog 3 (.pointer (some ⟨b8, 0, none⟩)) (.int .i64 i) (m2.put (D + 1) (.loop { REC with state := .busy }))) (fun _ m => j25_1 K' (D + 1) m) := by
        refine store_own g5' (by simp [toL, sz3]) (by simp [toL]) rfl fun m3 hn3 hx3 ho3 => ?_
        simp only [toL] at ho3
        exact hend m3 i hn3 hx3 ho3 (.inr (by omega))
      by_cases hn0 : n < 0
      · have hn0' : decide (n < 0) = true := by simpa using hn0
        rw [hn0']
        simp only [gb_bool, Bool.true_beq, Bool.not_false, dgs_false, gop_false, cpick_bool, if_true, pop_some, cnd_true]
        exact hset
      · have hn0' : decide (n < 0) = false := by simpa using hn0
        have hnw : 0 ≤ n ∧ n < d.nw := by omega
        rw [hn0']
        simp only [gb_bool, beq_self_eq_true, dgs_true, gop_true, cpick_bool, Bool.false_eq_true, if_false, pop_some]
        obtain ⟨s, w1, w2, w3, w4, w5, w6, w7, hc, _⟩ := hlk.cells
        have ho := (hlk.le hle2).own
        rw [hc] at ho
        rw [(ho6.le hle2).cel.z ag83 (j := 0) rfl]
        simp only [cnilc, fz100_0, fz27_0, pop_some, Nat.reduceAdd]
        rw [ho.cel.z ag22 (j := 0) rfl]
        simp only [pop_some]
        obtain ⟨bx, ox, hia, hcel, hlen⟩ := (hlk.le hle2).sh.sw.at Try.underlying22 sz76 (i := i) (by omega) (by omega)
        obtain ⟨by', oy, hia', hcel', hlen'⟩ := (hlk.le hle2).sh.sw.at Try.underlying22 sz76 (i := n) (by omega) (by omega)
        obtain ⟨s1, u1, u2, u3, hr1⟩ := hlk.sh.rw0 (i : Int).toNat (by omega)
        obtain ⟨s2, v1, v2, v3, hr2⟩ := hlk.sh.rw0 n.toNat (by omega)
        rw [hr1] at hcel
        rw [hr2] at hcel'
        rw [hia]
        simp only [pop_some]
        rw [fa76_1]
        simp only [pop_some]
        rw [hcel.s ag3 (j := 1) rfl]
        simp only [pop_some]
        rw [hia']
        simp only [pop_some]
        rw [fa76_1]
        simp only [pop_some]
        rw [hcel'.s ag3 (j := 1) rfl]
        simp only [pop_some, cb_lss]
        cases decide (u1 < v1) with
        | true => rw [cnd_true]; exact hset
        | false => rw [cnd_false]; exact hend _ n rfl (fun _ _ => rfl) g5' g6
    · have hA : ∀ x, x < D → ((m8.alloc .dfr).alloc (.loop REC)).get x = m8.get x := fun x hx => by rw [CM.get_alloc, if_neg (by simp; omega), CM.get_alloc, if_neg (by omega)]
      refine ⟨⟨by simp only [CM.next_alloc]; omega, fun x hx => by rw [hA x (by omega)]; exact h58.2 x hx⟩, by simp only [CM.next_alloc]; omega, by rw [CM.get_alloc, if_neg (by simp only [CM.next_alloc]; omega), CM.get_alloc, if_pos (by omega)], by rw [CM.get_alloc, if_pos (by simp only [CM.next_alloc]; omega)], ⟨by simp only [CM.next_alloc]; omega, by rw [hA t1 htD]; exact hot.2⟩, -1, ⟨by simp only [CM.next_alloc]; omega, by rw [hA b8 h8D]; exact (ho8.le hle8).2⟩, .inl (by omega)⟩
    · rintro v0 m2 (⟨g0, g1, g2, g3, g4, n, g5, g6⟩ | hf)
      · refine ⟨REC, g3, (by intro h; cases h), .normal, rfl, ?_⟩
        show j25_0 _ _ _ _
        unfold j25_0
        have g5' : Own (m2.put (D + 1) (.loop { REC with state := .exhausted })) b8 [.int .i64 n] 0 := Own.put_ne g5 (by omega)
        have hfin : ∀ x e, K (.tuple ⟨[.int .i64 x, .int .i64 e]⟩) ((m2.put (D + 1) (.loop { REC with state := .exhausted })).set D none) := fun x e => hK _ _ _ (hle.trans ⟨by simp only [CM.next_set, CM.next_put]; exact g0.1, fun x hx => by rw [CM.get_set, if_neg (by omega), CM.get_put, if_neg (by omega)]; exact g0.2 x hx⟩)
        have hD' : (m2.put (D + 1) (.loop { REC with state := .exhausted })).get D = some .dfr := by rw [CM.get_put, if_neg (by omega)]; exact g2
        rw [ldi g5' rfl, pop_some, cb_lss, pop_some]
        cases decide (n < 0) with
        | true =>
          rw [cnd_true]
          exact ⟨hD', hfin _ _⟩
        | false =>
          rw [cnd_false, ldi g5' rfl, pop_some]
          exact ⟨hD', hfin _ _⟩
      · exact hf.elim
end Go.Proofs.Ytlgkfjgpjggmcaa.W
end

section
open Go Go.Proofs Go.Proofs.Ytlgkfjgpjggmcaa
set_option maxRecDepth 100000
namespace Go.Proofs.Ytlgkfjgpjggmcaa.W
structure SizC (d : ShopD) (c : CandD) (b b6 b9 b10 : Nat) (b1 b2 b3 c1 c2 c3 : Int) (m m' : CM) (lo hi : Int) : Prop where
  le : m.le m'
  lk : Look d c m' b
  o6 : Own m' b6 [.int .i64 lo, .int .i64 hi] 0
  o9 : Own m' b9 [.int .i64 b1, .int .i64 b2, .int .i64 b3] 0
  o10 : Own m' b10 [.int .i64 c1, .int .i64 c2, .int .i64 c3] 0
theorem SizC.step {d : ShopD} {c : CandD} {b b6 b9 b10 : Nat} {b1 b2 b3 c1 c2 c3 : Int} {m m' m2 : CM} {lo hi lo2 hi2 : Int} (h : SizC d c b b6 b9 b10 b1 b2 b3 c1 c2 c3 m m' lo hi) (h6 : m.next ≤ b6) (hb : b6 ≠ b9 ∧ b6 ≠ b10 ∧ b6 ≠ b) (h0 : d.In m)
    (hn : m2.next = m'.next) (hx : ∀ x, x ≠ b6 → m2.get x = m'.get x) (ho : Own m2 b6 [.int .i64 lo2, .int .i64 hi2] 0) : SizC d c b b6 b9 b10 b1 b2 b3 c1 c2 c3 m m2 lo2 hi2 :=
  ⟨le_of_put h.le h6 hn hx, ⟨Own.keep h.lk.own hn hx hb.2.2.symm, h0.le (le_of_put h.le h6 hn hx), h.lk.ok, h.lk.co⟩, ho, Own.keep h.o9 hn hx hb.1.symm, Own.keep h.o10 hn hx hb.2.1.symm⟩
theorem hcb25 (a b : Int) : cbuild Try.prog 25 [(0, .int .i64 a), (1, .int .i64 b)] = some (.agg ⟨[.int .i64 a, .int .i64 b]⟩) := by kernel_rfl
theorem hcb25z : cbuild Try.prog 25 [] = some (.agg ⟨[.int .i64 0, .int .i64 0]⟩) := by kernel_rfl
section
variable {d : ShopD} {c : CandD} {m : CM} {K : Value → CM → Prop} {Kp : List PanicEntry → CM → Prop} {b b6 b9 b10 : Nat} {b1 b2 b3 c1 c2 c3 : Int}
theorem sizFin (hK : ∀ m' lo hi e, m.le m' → K (.tuple ⟨[.agg ⟨[.int .i64 lo, .int .i64 hi]⟩, .int .i64 e]⟩) m') (h6 : m.next ≤ b6) {m' : CM} {lo hi lo' hi' e : Int} (hle : m.le m') (ho : Own m' b6 [.int .i64 lo, .int .i64 hi] 0) :
    sop (cstore Try.prog 25 (.pointer (some ⟨b6, 0, none⟩)) (.agg ⟨[.int .i64 lo', .int .i64 hi']⟩) m') (fun _ m => leaveV Try.prog [.c 25 (.pointer (some ⟨b6, 0, none⟩)), .v (.int .i64 e)] [] .ret m (RK K Kp)) := by
  refine store_own ho (by simp [toL, sz25]) (by simp [toL]) rfl fun m6 hn6 hx6 ho6 => ?_
  simp only [toL] at ho6
  show pop (cload Try.prog 25 (.pointer (some ⟨b6, 0, none⟩)) m6) m6 _
  rw [lda ho6 ag25 sz25, pop_some]
  exact hK _ _ _ _ (le_of_put hle h6 hn6 hx6)
theorem siz1 (hK : ∀ m' lo hi e, m.le m' → K (.tuple ⟨[.agg ⟨[.int .i64 lo, .int .i64 hi]⟩, .int .i64 e]⟩) m') (h6 : m.next ≤ b6) {m' : CM} {lo hi : Int} (h : SizC d c b b6 b9 b10 b1 b2 b3 c1 c2 c3 m m' lo hi) :
    j27_1 (RK K Kp) (.pointer (some ⟨b6, 0, none⟩)) (.pointer (some ⟨b9, 0, none⟩)) (.pointer (some ⟨b, 0, none⟩)) (.pointer (some ⟨b10, 0, none⟩)) m' := by
  obtain ⟨s, w1, w2, w3, w4, w5, w6, w7, hc, hw1, hw2⟩ := h.lk.cells
  have ho := h.lk.own
  rw [hc] at ho
  unfold j27_1
  have hbad : pop (cbuild Try.prog 25 []) m' (fun t122 m => sop (cstore Try.prog 25 (.pointer (some ⟨b6, 0, none⟩)) t122 m) (fun _ m => leaveV Try.prog [.c 25 (.pointer (some ⟨b6, 0, none⟩)), .v (.int .i64 9)] [] .ret m (RK K Kp))) := by
    rw [hcb25z, pop_some]; exact sizFin hK h6 h.le h.o6
  have hgood : pop (cload Try.prog 25 (.pointer (some ⟨b6, 0, none⟩)) m') m' (fun t123 m => sop (cstore Try.prog 25 (.pointer (some ⟨b6, 0, none⟩)) t123 m) (fun _ m => leaveV Try.prog [.c 25 (.pointer (some ⟨b6, 0, none⟩)), .v (.int .i64 0)] [] .ret m (RK K Kp))) := by
    rw [lda h.o6 ag25 sz25, pop_some]; exact sizFin hK h6 h.le h.o6
  simp only [fz25_0, fz25_1, pop_some]
  rw [ldi h.o6 rfl]
  simp only [pop_some]
  rw [ldi h.o6 rfl]
  simp only [pop_some, cb_gtr]
  cases hg : decide (lo > hi) with
  | true =>
    simp only [gb_bool, Bool.true_beq, dgs_false, gop_false, cpick_bool, if_true, pop_some, cnd_true]
    exact hbad
  | false =>
  simp only [gb_bool, beq_self_eq_true, dgs_true, cpick_bool, Bool.false_eq_true, if_false, pop_some, fz48_1]
  rw [ldi h.o9 rfl]
  simp only [cnilc, fz100_0, fz27_2, fa25_0, pop_some]
  rw [ldi ho rfl]
  simp only [pop_some, cb_mul, cb_lss]
  generalize decide (b2 < _) = t
  cases t with
  | true =>
    simp only [gb_bool, Bool.true_beq, dgs_false, gop_false, cpick_bool, if_true, pop_some, cnd_true]
    exact hbad
  | false =>
  simp only [gb_bool, beq_self_eq_true, dgs_true, gop_true, cpick_bool, Bool.false_eq_true, if_false, pop_some, fz48_1]
  rw [ldi h.o10 rfl]
  simp only [cnilc, fz100_0, fz27_2, fa25_1, pop_some, Nat.reduceAdd]
  rw [ldi ho rfl]
  simp only [pop_some, cb_mul, cb_gtr]
  generalize decide (c2 > _) = t
  cases t with
  | true => rw [cnd_true]; exact hbad
  | false => rw [cnd_false]; exact hgood
theorem siz0 (hK : ∀ m' lo hi e, m.le m' → K (.tuple ⟨[.agg ⟨[.int .i64 lo, .int .i64 hi]⟩, .int .i64 e]⟩) m') (h6 : m.next ≤ b6) (hb : b6 ≠ b9 ∧ b6 ≠ b10 ∧ b6 ≠ b) (h0 : d.In m) {m' : CM} {lo hi : Int} (h : SizC d c b b6 b9 b10 b1 b2 b3 c1 c2 c3 m m' lo hi) :
    j27_0 (RK K Kp) (.pointer (some ⟨b10, 0, none⟩)) (.pointer (some ⟨b6, 0, none⟩)) (.pointer (some ⟨b9, 0, none⟩)) (.pointer (some ⟨b, 0, none⟩)) m' := by
  obtain ⟨s, w1, w2, w3, w4, w5, w6, w7, hc, hw1, hw2⟩ := h.lk.cells
  have ho := h.lk.own
  rw [hc] at ho
  have hph := h.lk.ok.ph
  unfold j27_0
  rw [fz48_2, pop_some, ldi h.o10 rfl, pop_some, cb_leq, pop_some]
  cases decide (c3 ≤ 0) with
  | true => rw [cnd_true]; exact siz1 hK h6 h
  | false =>
  rw [cnd_false]
  simp only [cnilc, fz100_0, fz27_3, fz25_0, fz25_1, fa25_1, pop_some, Nat.reduceAdd]
  rw [ldi ho rfl]
  simp only [pop_some, cb_eql]
  cases hz : (d.ph == 0) with
  | true =>
    rw [cnd_true]
    refine h.o6.store (by simp [toL, sz3]) (by simp [toL]) rfl fun m2 hn hx ho2 => ?_
    simp only [toL] at ho2
    exact siz1 hK h6 (h.step h6 hb h0 hn hx ho2)
  | false =>
    have hz' : d.ph ≠ 0 := by simpa using hz
    rw [cnd_false]
    rw [ldi h.o6 rfl]
    simp only [pop_some]
    rw [ldi h.o10 rfl]
    simp only [pop_some]
    rw [ldi ho rfl]
    simp only [pop_some, cb_mul, cb_add, cb_sub]
    rw [wrap_id (n := d.ph * 1000) (by omega) (by omega), cb_quo (by omega)]
    simp only [pop_some]
    obtain ⟨n, hn⟩ := cmm_max (a := lo) (b := IntKind.i64.wrap ((IntKind.i64.wrap (IntKind.i64.wrap (c3 + d.ph * 1000) - 1)).tdiv (d.ph * 1000)))
    rw [hn, pop_some]
    refine h.o6.store (by simp [toL, sz3]) (by simp [toL]) rfl fun m2 hn hx ho2 => ?_
    simp only [toL] at ho2
    exact siz1 hK h6 (h.step h6 hb h0 hn hx ho2)
end
/-- Sizes. -/
theorem Sizes27 {d : ShopD} {c : CandD} {m : CM} (hd : d.In m) {w : Int} {K : Value → CM → Prop} {Kp : List PanicEntry → CM → Prop} (hK : ∀ m' lo hi e, m.le m' → K (.tuple ⟨[.agg ⟨[.int .i64 lo, .int .i64 hi]⟩, .int .i64 e]⟩) m') :
    callw Try.prog 27 [.agg ⟨d.cells⟩, .int .i64 w, .agg ⟨c.cells⟩] m K Kp := by
  apply c27
  unfold s27
  refine box_of fun p m1 hle1 hp hop => box_of fun q m2 hle2 hq hoq => alw_of ze25 fun b6 m3 hle3 hb6 ho6 => ?_
  have hle := (hle1.trans hle2).trans hle3
  have h6m : m.next ≤ b6 := by have := (hle1.trans hle2).1; omega
  rw [ld27 ((hop.le hle2).le hle3), pop_some, ld29 (hoq.le hle3), pop_some]
  have ho63 := ho6.1
  refine open1 (hd.le hle) (fun m5 e hle5 he => ?_) fun m5 b hle5 hb hlk hw => ?_
  · simp only [cext, List.getElem?_cons_zero, List.getElem?_cons_succ, pop_some, cb_neq]
    rw [show (e != 0) = true by simpa using he, cnd_true, lda (ho6.le hle5) ag25 sz25, pop_some]
    exact sizFin hK h6m (hle.trans hle5) (ho6.le hle5)
  · simp only [cext, List.getElem?_cons_zero, List.getElem?_cons_succ, pop_some, cb_neq]
    rw [show ((0 : Int) != 0) = false from rfl, cnd_false]
    refine ends47 hlk hw fun m7 l l' hle7 hl hl' => ?_
    obtain ⟨n1, a1⟩ := hl.len
    obtain ⟨n2, a2⟩ := hl'.len
    replace ho6 := (ho6.le hle5).le hle7
    replace hle := (hle.trans hle5).trans hle7
    simp only [cext, List.getElem?_cons_zero, List.getElem?_cons_succ, pop_some]
    refine alw_of ze48 fun b9 m8 hle8 hb9 ho9 => alw_of ze48 fun b10 m9 hle9 hb10 ho10 => ?_
    have hne : b9 ≠ b10 := by have := ho9.1; omega
    have hx1 : b6 ≠ b9 := by have := ho6.1; omega
    have hx2 : b6 ≠ b10 := by have := ho6.1; have := hle8.1; omega
    have h9m : m.next ≤ b9 := by have := hle.1; omega
    have h10m : m.next ≤ b10 := by have := hle.1; have := hle8.1; omega
    replace ho6 := (ho6.le hle8).le hle9
    replace ho9 := ho9.le hle9
    replace hle := (hle.trans hle8).trans hle9
    have hle79 := hle8.trans hle9
    refine store_own ho9 (by simp [toL, sz48, n1]) (by simp [toL, n1]) a1 fun mA hnA hxA ho9 => ?_
    simp only [toL] at ho9
    replace ho6 := Own.keep ho6 hnA hxA hx1
    replace ho10 := Own.keep ho10 hnA hxA hne.symm
    replace hle := le_of_put hle h9m hnA hxA
    refine store_own ho10 (by simp [toL, sz48, n2]) (by simp [toL, n2]) a2 fun mB hnB hxB ho10 => ?_
    simp only [toL] at ho10
    replace ho6 := Own.keep ho6 hnB hxB hx2
    replace ho9 := Own.keep ho9 hnB hxB hne
    replace hle := le_of_put hle h10m hnB hxB
    have hin := hd.le hle
    have hob := Own.keep (Own.keep (((hlk.own.le hle7).le hle8).le hle9) hnA hxA (by have := hle7.1; have := hlk.own.1; omega)) hnB hxB (by have := hle7.1; have := hle8.1; have := hlk.own.1; omega)
    obtain ⟨b1, b2, b3, rfl, hr1, hr2⟩ := hl
    obtain ⟨c1, c2, c3, rfl, hr1', hr2'⟩ := hl'
    rw [hcb25, pop_some]
    have hS : SizC d c b b6 b9 b10 b1 b2 b3 c1 c2 c3 m mB 0 0 := ⟨hle, ⟨hob, hin, hlk.ok, hlk.co⟩, ho6, ho9, ho10⟩
    have hbb : b6 ≠ b9 ∧ b6 ≠ b10 ∧ b6 ≠ b := ⟨hx1, hx2, by have := hb; have := ho63; omega⟩
    refine store_own ho6 (by simp [toL, sz25]) (by simp [toL]) rfl fun mC hnC hxC ho6 => ?_
    simp only [toL] at ho6
    replace hS := hS.step h6m hbb hd hnC hxC ho6
    rw [fz48_2, pop_some, ldi hS.o9 rfl, pop_some, cb_lss, pop_some]
    cases decide (b3 < 0) with
    | true =>
      rw [cnd_true, fz25_1, pop_some]
      refine ho6.store (by simp [toL, sz3]) (by simp [toL]) rfl fun m2 hn hx ho2 => ?_
      simp only [toL] at ho2
      exact siz0 hK h6m hbb hd (hS.step h6m hbb hd hn hx ho2)
    | false =>
      obtain ⟨s, w1, w2, w3, w4, w5, w6, w7, hc, hw1, hw2⟩ := hlk.cells
      have ho := hS.lk.own
      rw [hc] at ho
      have hpl := hlk.ok.pl
      rw [cnd_false]
      simp only [cnilc, fz100_0, fz27_3, fz25_0, fz25_1, fa25_0, pop_some, Nat.reduceAdd]
      rw [ldi ho rfl]
      simp only [pop_some, cb_gtr]
      cases hg : decide (d.pl > 0) with
      | false => rw [cnd_false]; exact siz0 hK h6m hbb hd hS
      | true =>
        have hg' : d.pl > 0 := by simpa using hg
        rw [cnd_true, ldi ho6 rfl]
        simp only [pop_some]
        rw [ldi hS.o9 rfl]
        simp only [pop_some]
        rw [ldi ho rfl]
        simp only [pop_some, cb_mul]
        rw [wrap_id (n := d.pl * 1000) (by omega) (by omega), cb_quo (by omega)]
        simp only [pop_some]
        obtain ⟨n, hn⟩ := cmm_min (a := 2000) (b := IntKind.i64.wrap (b3.tdiv (d.pl * 1000)))
        rw [hn, pop_some]
        refine ho6.store (by simp [toL, sz3]) (by simp [toL]) rfl fun m2 hn hx ho2 => ?_
        simp only [toL] at ho2
        exact siz0 hK h6m hbb hd (hS.step h6m hbb hd hn hx ho2)
end Go.Proofs.Ytlgkfjgpjggmcaa.W
end

section
namespace Go.Proofs.Ytlgkfjgpjggmcaa
open Go
/-! ### What a closure leaves, and how it is written over -/
theorem clo_of {P : Program} {F : Keep} {m m1 : CM} {h B : Nat} (hh : h < m.next) (hF : ∀ x, x < m.next → x ≠ h → F x = some (m.get x)) (hp : Hp F h B m1) (hB : B ≤ lim) {W : Nat → Prop} (hW : ∀ x, W x → m.next ≤ x ∧ ∃ y, F x = some y) {v : Value} {g2 : FuncId} {cs2 : List Value} (hv : v = .func (.func g2) ⟨[]⟩ ⟨cs2⟩)
    (hwipe : ∀ M : CM, m1.next = M.next → (∀ x c e o, m.next ≤ x → x < m1.next → m1.get x = some (.cells c e o) → M.get x = some (.cells c e o)) →
      callw P g2 cs2 M (fun _ M2 => M.next ≤ M2.next ∧ ∀ x, x < M.next → ¬ W x → M2.get x = M.get x) (fun _ _ => False)) : CloPost P m h v m1 := by
  obtain ⟨vn, vs, bn, bs, cn, cs, h1, h2, h3, h4, h5, h6, h7, h8⟩ := hp.ex
  have hn : m.next ≤ m1.next := by
    by_cases e : m.next - 1 = h
    · have := h3.1; omega
    · have := (h8 _ _ (hF (m.next - 1) (by omega) e)).1.1; omega
  refine ⟨vn, vs, bn, bs, cn, cs, W, g2, cs2, h1, h2, h3, ⟨by omega, by omega⟩, h6, h7, ⟨hn, fun x hx hne => (h8 _ _ (hF x hx hne)).1.2⟩, fun y hy => ⟨?_, fun hw => ?_⟩, fun y hy => ⟨?_, fun hw => ?_⟩, fun x hx => (hW x hx).1, hv, hwipe⟩
  · apply Nat.le_of_not_lt; intro hlt
    by_cases e : y = h
    · subst e; exact h4.1 hy
    · exact (h8 _ _ (hF y hlt e)).2.2.1 hy
  · obtain ⟨_, z, hz⟩ := hW y hw
    exact (h8 _ _ hz).2.2.1 hy
  · apply Nat.le_of_not_lt; intro hlt
    by_cases e : y = h
    · subst e; exact h4.2.1 hy
    · exact (h8 _ _ (hF y hlt e)).2.2.2 hy
  · obtain ⟨_, z, hz⟩ := hW y hw
    exact (h8 _ _ hz).2.2.2 hy
theorem fw_keepBut (m : CM) (h : Nat) : FW (keepBut m h) m := fun x y hx => by
  unfold keepBut at hx
  split at hx
  · rename_i e; cases hx; exact ⟨e.1, rfl⟩
  · cases hx
theorem keepBut_get {m : CM} {h x : Nat} (hx : x < m.next) (hne : x ≠ h) : keepBut m h x = some (m.get x) := by unfold keepBut; rw [if_pos ⟨hx, hne⟩]
/-- The heap is empty still. -/
theorem hp_but {m : CM} {h : Nat} (ho : Own m h [.slice none 0 0, .slice none 0 0] 0) : Hp (keepBut m h) h 0 m :=
  hp_init (fw_keepBut m h) (fun y hy => by unfold keepBut at hy; rw [if_neg (by omega)] at hy; cases hy) ho
/-- A closure that has nothing to write over. -/
theorem clo_nothing {P : Program} {m m' m1 : CM} {h B : Nat} (ho : Own m h [.slice none 0 0, .slice none 0 0] 0) (hle : m.le m') (hp : Hp (keepBut m' h) h B m1) (hB : B ≤ lim) {g2 : FuncId} (hwipe : ∀ (M : CM) (K : Value → CM → Prop) (Kp : List PanicEntry → CM → Prop), K (.tuple ⟨[]⟩) M → callw P g2 [] M K Kp) : CloPost P m h (.func (.func g2) ⟨[]⟩ ⟨[]⟩) m1 :=
  clo_of ho.1 (fun x hx hne => by rw [keepBut_get (Nat.lt_of_lt_of_le hx hle.1) hne, hle.2 x hx]) hp hB (W := fun _ => False) (fun x hx => hx.elim) rfl fun M hM hc => hwipe M _ _ ⟨Nat.le_refl _, fun _ _ _ => rfl⟩
theorem sumN_one (n : Nat) : sumN (fun _ => 1) n = n := by induction n with
  | zero => rfl
  | succ n ih => simp only [sumN, ih]
theorem HV.wt {m : CM} {h : Nat} {v : Value} {bn : Option Nat} {cs : List Value} (hv : HV m v bn cs) (hb : ∀ y, bn = some y → y ≠ h) {t : CT} (hc : ∀ u ∈ cs, WT (keepBut m h) t 1 u) : WTL (keepBut m h) [.sl [t]] (1 + cs.length) [v] := by
  refine .cons (k' := 0) ?_ .nil
  rw [← sumN_one cs.length]
  refine .sl (row := fun i => [cs.getD i undef]) (fun M hM => ?_) (by simp) fun i hi => ?_
  · cases hv with
    | nil => exact HV.sl .nil
    | blk ho => exact HV.sl (.blk ⟨(hM _ _ (keepBut_get ho.1 (hb _ rfl))).1, by rw [(hM _ _ (keepBut_get ho.1 (hb _ rfl))).2]; exact ho.2⟩)
  · refine .cons (k' := 0) (hc _ ?_) .nil
    rw [List.getD_eq_getElem?_getD, List.getElem?_eq_getElem hi]
    exact List.getElem_mem hi
section
variable {P : Program} {I T : TypeId}
def sEach (P : Program) (I T : TypeId) (R : CE → CM → Prop) (a0 a1 : Value) (m : CM) : Prop :=
  loopA [0, 1, 4] (fun X1 ρ1 ds m => pop (clen P T (ρ1 0) m) m (fun t7 m => pop (cbin P BinOp.lss I (Operand.tmp 5) (Operand.tmp 7) (ρ1 4) t7) m (fun t8 m => cnd t8 (pop (cia P T (ρ1 0) (ρ1 4)) m (fun t14 m => callv P (ρ1 1) [t14] m (fun _ m => pop (cbin P BinOp.add I (Operand.tmp 9) (Operand.const (Value.int IntKind.i64 1)) (ρ1 4) (.int .i64 1)) m (fun t10 m => X1 [(ρ1 0), (ρ1 1), t10] ds m)) (fun ch m => leaveV P [] ds (.pan ch) m R))) (leaveV P [] ds .ret m R)))) [a0, a1, (.int .i64 0)] [] m
def sWipe1 (P : Program) (I : TypeId) (n : Int) (R : CE → CM → Prop) (a0 : Value) (m : CM) : Prop :=
  pop (cnilc a0) m (fun t3 m => sop (cstore P I t3 (.int .i64 n) m) (fun _ m => leaveV P [] [] .ret m R))
def sWipes (P : Program) (T : TypeId) (g g1 : FuncId) (R : CE → CM → Prop) (a0 : Value) (m : CM) : Prop :=
  pop (cnilc a0) m (fun t3 m => pop (cload P T t3 m) m (fun t4 m => callw P g [t4, (.func (.func g1) ⟨[]⟩ ⟨[]⟩)] m (fun _ m => leaveV P [] [] .ret m R) (fun ch m => R (.pan ch) m)))
theorem splice_at {c : List Value} {i : Nat} (hi : i < c.length) (x : Value) : (splice c i [x]).length = c.length := by simp [splice]; omega
/-- Writing over a slice of numbers. -/
theorem wipes_ok (un : P.underlying T = some (.slice I)) (sz : szOf P I = some 1) (agT : aggB P T = some false) {n : Int} {g g1 : FuncId}
    (c1 : ∀ {a0 a1 : Value} {m : CM} {K : Value → CM → Prop} {Kp : List PanicEntry → CM → Prop}, sEach P I T (RK K Kp) a0 a1 m → callw P g [a0, a1] m K Kp)
    (c2 : ∀ {a0 : Value} {m : CM} {K : Value → CM → Prop} {Kp : List PanicEntry → CM → Prop}, sWipe1 P I n (RK K Kp) a0 m → callw P g1 [a0] m K Kp)
    {t : Nat} {v : Value} {bn : Option Nat} {cs : List Value} {m : CM} (ho : Own m t [v] 0) (hv : HV m v bn cs) (hlen : cs.length ≤ lim) {K : CE → CM → Prop} (hK : ∀ m', m'.next = m.next → (∀ x, bn ≠ some x → m'.get x = m.get x) → K (.ret (.tuple ⟨[]⟩)) m') :
    sWipes P T g g1 K (.pointer (some ⟨t, 0, none⟩)) m := by
  unfold sWipes
  simp only [cnilc, pop_some]
  rw [ho.cel.z agT rfl, pop_some]
  refine c1 ?_
  unfold sEach
  have hll : lim < 4611686018427387904 := by decide
  refine loopA_of (fun l ds m' => ds = [] ∧ ∃ (i : Nat) (cs' : List Value), i ≤ cs.length ∧ m'.next = m.next ∧ (∀ x, bn ≠ some x → m'.get x = m.get x) ∧ cs'.length = cs.length ∧ HV m' v bn cs' ∧ l = [v, .func (.func g1) ⟨[]⟩ ⟨[]⟩, .int .i64 i])
    (fun l _ => match l with | [_, _, .int _ i] => cs.length - i.toNat | _ => 0) ⟨rfl, 0, cs, by omega, rfl, fun _ _ => rfl, rfl, hv, rfl⟩ ?_
  rintro X ρ ds m' ⟨rfl, i, cs', hi, hn, hx, hl', hv', hl⟩ hX
  simp only [List.map_cons, List.map_nil, List.cons.injEq, and_true] at hl
  obtain ⟨h0, h1, h4⟩ := hl
  simp only [h0, h1, h4, hv'.sl.len un, pop_some, cb_lss]
  by_cases hc : i < cs.length
  · have hc' : decide ((i : Int) < (cs'.length : Int)) = true := by simpa [hl'] using hc
    rw [hc', cnd_true]
    cases hv' with
    | nil => simp at hl'; omega
    | blk ho' =>
    rename_i b
    have hia : cia P T (.slice (some ⟨b, 0, none⟩) cs'.length 0) (.int .i64 i) = some (.pointer (some ⟨b, i, none⟩)) := by
      have h : ((i : Int).toNat < cs'.length) := by omega
      simp [cia, un, sz]
      omega
    rw [hia, pop_some]
    show callw P g1 ([] ++ [_] ++ []) m' _ _
    refine c2 ?_
    unfold sWipe1
    simp only [cnilc, pop_some]
    refine ho'.store (by simp [toL, sz]) (by simp [toL]; omega) rfl fun m2 hn2 hx2 ho2 => ?_
    rw [leave0, RK_ret, cb_add, pop_some, wrap_id (by omega) (by omega)]
    have hls : (splice cs' i (toL (.int .i64 n))).length = cs'.length := splice_at (by omega) _
    refine hX _ _ _ ⟨rfl, i + 1, splice cs' i (toL (.int .i64 n)), by omega, by omega, fun x hne => ?_, by omega, ?_, by simp⟩ ?_
    · rw [hx2 x (fun e => hne (by rw [e])), hx x hne]
    · have h3 := HV.blk ho2
      rw [hls] at h3
      exact h3
    · simp only [List.map_cons, List.map_nil, h4]; omega
  · have hc' : decide ((i : Int) < (cs'.length : Int)) = false := by simpa [hl'] using hc
    rw [hc', cnd_false, leave0, RK_ret, leave0]
    exact hK _ hn hx
end
end Go.Proofs.Ytlgkfjgpjggmcaa
end

section
open Go Go.Proofs Go.Proofs.Ytlgkfjgpjggmcaa
set_option maxRecDepth 100000
namespace Go.Proofs.Ytlgkfjgpjggmcaa.W
/-! ### The closures of the law -/
abbrev tysW : List CT := [.sl [.s, .i, .i, .i], .sl [.s, .i, .i, .i, .i, .i, .i, .i], .i, .i, .i, .i, .i, .i, .i, .i, .i, .i, .i, .i, .i, .i, .i, .i, .i]
structure WkD where
  d : ShopD
  c : CandD
  t1 : Int
  t2 : Int
  t3 : Int
  t4 : Int
  t5 : Int
  t6 : Int
  w : Int
  g : Int
abbrev WkD.cells (x : WkD) : List Value := x.d.cells ++ (x.c.cells ++ (truthC x.t1 x.t2 x.t3 x.t4 x.t5 x.t6 ++ [.int .i64 x.w, .int .i64 x.g]))
theorem wk4 {F : Keep} {k : Nat} {l : List Value} (h : WTL F [.s, .i, .i, .i] k l) : WkRow l := by
  cases h with
  | cons h t => cases h with
  | s x => cases t with
  | cons h t => cases h with
  | i a => cases t with
  | cons h t => cases h with
  | i b => cases t with
  | cons h t => cases h with
  | i c => cases t with
  | nil => exact ⟨x, a, b, c, rfl⟩
theorem wtlI {F : Keep} {k : Nat} {l : List Value} {cs : List CT} (h : WTL F (.i :: cs) k l) : ∃ n k' l', l = .int .i64 n :: l' ∧ WTL F cs k' l' := by
  cases h with
  | cons h t => cases h with
  | i x => exact ⟨x, _, _, rfl, t⟩
theorem wtlS {F : Keep} {k : Nat} {l : List Value} {cs : List CT} (h : WTL F (.s :: cs) k l) : ∃ n k' l', l = .string n :: l' ∧ WTL F cs k' l' := by
  cases h with
  | cons h t => cases h with
  | s x => exact ⟨x, _, _, rfl, t⟩
theorem wtl0 {F : Keep} {k : Nat} {l : List Value} (h : WTL F [] k l) : l = [] := by cases h; rfl
theorem wtlSl {F : Keep} {k : Nat} {l : List Value} {cs tys : List CT} (h : WTL F (.sl tys :: cs) k l) : ∃ v n row ks k' l', l = v :: l' ∧ SlF F tys.length v n row ∧ 0 < tys.length ∧ (∀ i, i < n → WTL F tys (ks i) (row i)) ∧ k = 1 + sumN ks n + k' ∧ WTL F cs k' l' := by
  cases h with
  | cons h t => cases h with
  | @sl _ _ n row ks hs hp hr => exact ⟨_, n, row, ks, _, _, rfl, hs, hp, hr, rfl, t⟩
theorem wx8 {F : Keep} {k : Nat} {l : List Value} (h : WTL F [.s, .i, .i, .i, .i, .i, .i, .i] k l) : WxRow l := by
  obtain ⟨s, _, _, rfl, h101⟩ := wtlS h
  obtain ⟨a, _, _, rfl, h102⟩ := wtlI h101
  obtain ⟨b, _, _, rfl, h103⟩ := wtlI h102
  obtain ⟨c, _, _, rfl, h104⟩ := wtlI h103
  obtain ⟨d, _, _, rfl, h105⟩ := wtlI h104
  obtain ⟨e, _, _, rfl, h106⟩ := wtlI h105
  obtain ⟨f, _, _, rfl, h107⟩ := wtlI h106
  obtain ⟨g, _, _, rfl, h108⟩ := wtlI h107
  rw [wtl0 h108]
  exact ⟨s, a, b, c, d, e, f, g, rfl⟩
theorem wkOf {F : Keep} {k : Nat} {l : List Value} (h : WTL F tysW k l) (hk : k ≤ lim) : ∃ x : WkD, l = x.cells ∧ ∀ m, FW F m → x.d.In m := by
  obtain ⟨vw, nw, rw', ks, k', _, rfl, hs, hp, hr, rfl, h101⟩ := wtlSl h
  obtain ⟨vx, nx, rx, ks', k2, _, rfl, hs', hp', hr', rfl, h102⟩ := wtlSl h101
  have h1 := sumN_ge (ks := ks) (n := nw) fun i hi => Nat.le_trans hp (hr i hi).pos
  have h2 := sumN_ge (ks := ks') (n := nx) fun i hi => Nat.le_trans hp' (hr' i hi).pos
  have hl : lim < 4611686018427387904 := by decide
  obtain ⟨fl, _, _, rfl, h103⟩ := wtlI h102
  obtain ⟨fh, _, _, rfl, h104⟩ := wtlI h103
  obtain ⟨pl, _, _, rfl, h105⟩ := wtlI h104
  obtain ⟨ph, _, _, rfl, h106⟩ := wtlI h105
  obtain ⟨a1, _, _, rfl, h107⟩ := wtlI h106
  obtain ⟨a2, _, _, rfl, h108⟩ := wtlI h107
  obtain ⟨a3, _, _, rfl, h109⟩ := wtlI h108
  obtain ⟨a4, _, _, rfl, h110⟩ := wtlI h109
  obtain ⟨a5, _, _, rfl, h111⟩ := wtlI h110
  obtain ⟨t1, _, _, rfl, h112⟩ := wtlI h111
  obtain ⟨t2, _, _, rfl, h113⟩ := wtlI h112
  obtain ⟨t3, _, _, rfl, h114⟩ := wtlI h113
  obtain ⟨t4, _, _, rfl, h115⟩ := wtlI h114
  obtain ⟨t5, _, _, rfl, h116⟩ := wtlI h115
  obtain ⟨t6, _, _, rfl, h117⟩ := wtlI h116
  obtain ⟨w, _, _, rfl, h118⟩ := wtlI h117
  obtain ⟨g, _, _, rfl, h119⟩ := wtlI h118
  rw [wtl0 h119]
  refine ⟨⟨⟨vw, vx, nw, nx, rw', rx, fl, fh, pl, ph⟩, ⟨a1, a2, a3, a4, a5⟩, t1, t2, t3, t4, t5, t6, w, g⟩, rfl, fun m hm => ⟨hs m hm, hs' m hm, fun i hi => wk4 (hr i hi), fun i hi => wx8 (hr' i hi), ?_, ?_⟩⟩
  · show nw < _; omega
  · show nx < _; omega
theorem lw27 {x : WkD} {t : Nat} {m : CM} (h : Own m t x.cells 0) : cload Try.prog 27 (.pointer (some ⟨t, 0, none⟩)) m = some (.agg ⟨x.d.cells⟩) := h.cel.za ag27 sz27 (j := 0) (by simp [ShopD.cells])
theorem lw29 {x : WkD} {t : Nat} {m : CM} (h : Own m t x.cells 0) : cload Try.prog 29 (.pointer (some ⟨t, 6, none⟩)) m = some (.agg ⟨x.c.cells⟩) := h.cel.za ag29 sz29 (j := 6) (by simp [ShopD.cells, CandD.cells])
theorem lw31 {x : WkD} {t : Nat} {m : CM} (h : Own m t x.cells 0) : cload Try.prog 31 (.pointer (some ⟨t, 11, none⟩)) m = some (.agg ⟨truthC x.t1 x.t2 x.t3 x.t4 x.t5 x.t6⟩) := h.cel.za ag31 sz31 (j := 11) (by simp [ShopD.cells, CandD.cells])
theorem lwW {x : WkD} {t : Nat} {m : CM} (h : Own m t x.cells 0) : cload Try.prog 3 (.pointer (some ⟨t, 17, none⟩)) m = some (.int .i64 x.w) := ldi h rfl
theorem lwG {x : WkD} {t : Nat} {m : CM} (h : Own m t x.cells 0) : cload Try.prog 3 (.pointer (some ⟨t, 18, none⟩)) m = some (.int .i64 x.g) := ldi h rfl
section
variable {F : Keep} {h B : Nat} {m : CM} {K : Value → CM → Prop} {Kp : List PanicEntry → CM → Prop}
theorem p8 {n : Int} (hp : Hp F h B m) (hB : B + 1 ≤ lim) (hK : ∀ u m', Hp F h (B + 1) m' → K u m') : callw Try.prog 8 [.pointer (some ⟨h, 0, none⟩), .int .i64 n] m K Kp :=
  put8 F h B m [.int .i64 n] 1 K Kp hp (.cons (.i n) .nil) hB hK
theorem p9 {n : Int} (hp : Hp F h B m) (hB : B + 1 ≤ lim) (hK : ∀ u m', Hp F h (B + 1) m' → K u m') : callw Try.prog 9 [.pointer (some ⟨h, 0, none⟩), .int .i64 n] m K Kp :=
  put9 F h B m [.int .i64 n] 1 K Kp hp (.cons (.i n) .nil) hB hK
theorem p13 {l : List Value} (hl : BurnV l) (hp : Hp F h B m) (hB : B + 3 ≤ lim) (hK : ∀ u m', Hp F h (B + 3) m' → K u m') : callw Try.prog 13 [.pointer (some ⟨h, 0, none⟩), .agg ⟨l⟩] m K Kp := by
  obtain ⟨a, b, c, rfl⟩ := hl
  exact put13 F h B m [.int .i64 a, .int .i64 b, .int .i64 c] 3 K Kp hp (.cons (.i a) (.cons (.i b) (.cons (.i c) .nil))) hB hK
theorem p28 {a b : Int} (hp : Hp F h B m) (hB : B + 2 ≤ lim) (hK : ∀ u m', Hp F h (B + 2) m' → K u m') : callw Try.prog 28 [.pointer (some ⟨h, 0, none⟩), .agg ⟨[.int .i64 a, .int .i64 b]⟩] m K Kp :=
  put28 F h B m [.int .i64 a, .int .i64 b] 2 K Kp hp (.cons (.i a) (.cons (.i b) .nil)) hB hK
end
theorem wipe10 (M : CM) (K : Value → CM → Prop) (Kp : List PanicEntry → CM → Prop) (h : K (.tuple ⟨[]⟩) M) : callw Try.prog 10 [] M K Kp := c10 (by unfold s10; rw [leave0, RK_ret]; exact h)
theorem own_fw {m m' : CM} {h b e : Nat} {l : List Value} (ho : Own m b l e) (hb : b ≠ h) (hf : FW (keepBut m h) m') : Own m' b l e := by
  obtain ⟨h1, h2⟩ := hf _ _ (keepBut_get ho.1 hb)
  exact ⟨h1, by rw [h2]; exact ho.2⟩
theorem lm : (20 : Nat) ≤ lim := by decide
section
variable {k : Nat} {l : List Value}
theorem clo6 (hk : k ≤ lim) : CloOk Try.prog tysW k l 6 := by
  intro F m h t hw hf hFh ho hth hoh
  obtain ⟨x, rfl, hin⟩ := wkOf hw hk
  have hd := hin m hf
  have hl := lm
  apply c6
  unfold s6
  rw [fz33_0, pop_some, lw27 ho, pop_some]
  refine check7 hd fun p a e m1 hle1 _ => ?_
  simp only [cext, List.getElem?_cons_zero, List.getElem?_cons_succ, pop_some]
  refine p8 (hp_but (hoh.le hle1)) (by omega) fun _ m2 hp => p8 hp (by omega) fun _ m3 hp => p9 hp (by omega) fun _ m4 hp => ?_
  rw [leave1, RK_ret]
  exact clo_nothing hoh hle1 hp (by omega) wipe10
theorem clo24 (hk : k ≤ lim) : CloOk Try.prog tysW k l 24 := by
  intro F m h t hw hf hFh ho hth hoh
  obtain ⟨x, rfl, hin⟩ := wkOf hw hk
  have hd := hin m hf
  have hl := lm
  apply c24
  unfold s24
  rw [fz33_0, pop_some, lw27 ho, pop_some, fz33_1, pop_some, lw29 ho, pop_some]
  refine Thinnest25 hd fun m1 a e hle1 => ?_
  simp only [cext, List.getElem?_cons_zero, List.getElem?_cons_succ, pop_some]
  refine p8 (hp_but (hoh.le hle1)) (by omega) fun _ m2 hp => p9 hp (by omega) fun _ m4 hp => ?_
  rw [leave1, RK_ret]
  exact clo_nothing hoh hle1 hp (by omega) wipe10
theorem clo26 (hk : k ≤ lim) : CloOk Try.prog tysW k l 26 := by
  intro F m h t hw hf hFh ho hth hoh
  obtain ⟨x, rfl, hin⟩ := wkOf hw hk
  have hd := hin m hf
  have hl := lm
  apply c26
  unfold s26
  rw [fz33_0, pop_some, lw27 ho, pop_some, fz33_3, pop_some, lwW ho, pop_some, fz33_1, pop_some, lw29 ho, pop_some]
  refine Sizes27 hd fun m1 lo hi e hle1 => ?_
  simp only [cext, List.getElem?_cons_zero, List.getElem?_cons_succ, pop_some]
  refine alw_of ze25 fun b4 m2 hle2 hb4 ho4 => store_own ho4 (by simp [toL, sz25]) (by simp [toL]) rfl fun m3 hn3 hx3 ho3 => ?_
  simp only [toL] at ho3
  have hle3 := le_of_put (hle1.trans hle2) (by have := hle1.1; omega) hn3 hx3
  rw [lda ho3 ag25 sz25, pop_some]
  refine p28 (hp_but (hoh.le hle3)) (by omega) fun _ m4 hp => p9 hp (by omega) fun _ m5 hp => ?_
  rw [leave1, RK_ret]
  exact clo_nothing hoh hle3 hp (by omega) wipe10
theorem clo29 (hk : k ≤ lim) : CloOk Try.prog tysW k l 29 := by
  intro F m h t hw hf hFh ho hth hoh
  obtain ⟨x, rfl, hin⟩ := wkOf hw hk
  have hd := hin m hf
  have hl := lm
  apply c29
  unfold s29
  rw [fz33_0, pop_some, lw27 ho, pop_some, fz33_3, pop_some, lwW ho, pop_some, fz33_1, pop_some, lw29 ho, pop_some, fz33_4, pop_some, lwG ho, pop_some]
  refine Minutes30 hd fun m1 lo hi e hle1 => ?_
  simp only [cext, List.getElem?_cons_zero, List.getElem?_cons_succ, pop_some]
  refine alw_of ze25 fun b4 m2 hle2 hb4 ho4 => store_own ho4 (by simp [toL, sz25]) (by simp [toL]) rfl fun m3 hn3 hx3 ho3 => ?_
  simp only [toL] at ho3
  have hle3 := le_of_put (hle1.trans hle2) (by have := hle1.1; omega) hn3 hx3
  rw [lda ho3 ag25 sz25, pop_some]
  refine p28 (hp_but (hoh.le hle3)) (by omega) fun _ m4 hp => p9 hp (by omega) fun _ m5 hp => ?_
  rw [leave1, RK_ret]
  exact clo_nothing hoh hle3 hp (by omega) wipe10
theorem clo11 (hk : k ≤ lim) : CloOk Try.prog tysW k l 11 := by
  intro F m h t hw hf hFh ho hth hoh
  obtain ⟨x, rfl, hin⟩ := wkOf hw hk
  have hd := hin m hf
  have hl := lm
  apply c11
  unfold s11
  rw [fz33_0, pop_some, lw27 ho, pop_some, fz33_3, pop_some, lwW ho, pop_some, fz33_1, pop_some, lw29 ho, pop_some, fz33_2, pop_some, lw31 ho, pop_some]
  refine At12 hd fun m1 l e hle1 hb => ?_
  simp only [cext, List.getElem?_cons_zero, List.getElem?_cons_succ, pop_some]
  refine alw_of ze48 fun b4 m2 hle2 hb4 ho4 => store_own ho4 (by simp [toL, sz48, hb.len.1]) (by simp [toL, hb.len.1]) hb.len.2 fun m3 hn3 hx3 ho3 => ?_
  simp only [toL] at ho3
  have hle3 := le_of_put (hle1.trans hle2) (by have := hle1.1; omega) hn3 hx3
  rw [lda ho3 ag48 (by rw [hb.len.1]; exact sz48), pop_some]
  refine p13 hb (hp_but (hoh.le hle3)) (by omega) fun _ m4 hp => p9 hp (by omega) fun _ m5 hp => ?_
  rw [leave1, RK_ret]
  exact clo_nothing hoh hle3 hp (by omega) wipe10
theorem clo14 (hk : k ≤ lim) : CloOk Try.prog tysW k l 14 := by
  intro F m h t hw hf hFh ho hth hoh
  obtain ⟨x, rfl, hin⟩ := wkOf hw hk
  have hd := hin m hf
  have hl := lm
  apply c14
  unfold s14
  rw [fz33_0, pop_some, lw27 ho, pop_some, fz33_3, pop_some, lwW ho, pop_some, fz33_1, pop_some, lw29 ho, pop_some]
  refine Burn15 hd fun m1 l l' e hle1 hb hb' => ?_
  simp only [cext, List.getElem?_cons_zero, List.getElem?_cons_succ, pop_some]
  refine alw_of ze48 fun b4 m2 hle2 hb4 ho4 => alw_of ze48 fun b5 m3 hle3 hb5 ho5 => ?_
  have hne : b4 ≠ b5 := by have := ho4.1; omega
  have hhm := hoh.1
  have h5h : b5 ≠ h := by have := hle1.1; have := hle2.1; omega
  refine store_own (ho4.le hle3) (by simp [toL, sz48, hb.len.1]) (by simp [toL, hb.len.1]) hb.len.2 fun m4 hn4 hx4 ho4 => ?_
  simp only [toL] at ho4
  have hle4 := le_of_put ((hle1.trans hle2).trans hle3) (by have := hle1.1; omega) hn4 hx4
  refine store_own (Own.keep ho5 hn4 hx4 hne.symm) (by simp [toL, sz48, hb'.len.1]) (by simp [toL, hb'.len.1]) hb'.len.2 fun m5 hn5 hx5 ho5 => ?_
  simp only [toL] at ho5
  have hle5 := le_of_put hle4 (by have := hle1.1; have := hle2.1; omega) hn5 hx5
  replace ho4 := Own.keep ho4 hn5 hx5 hne
  rw [lda ho4 ag48 (by rw [hb.len.1]; exact sz48), pop_some]
  refine p13 hb (hp_but (hoh.le hle5)) (by omega) fun _ m6 hp => ?_
  rw [lda (own_fw ho5 h5h hp.fw) ag48 (by rw [hb'.len.1]; exact sz48), pop_some]
  refine p13 hb' hp (by omega) fun _ m6 hp => p9 hp (by omega) fun _ m7 hp => ?_
  rw [leave1, RK_ret]
  exact clo_nothing hoh hle5 hp (by omega) wipe10
theorem wipe20 {t : Nat} {v : Value} {bn : Option Nat} {cs : List Value} {m : CM} (ho : Own m t [v] 0) (hv : HV m v bn cs) (hlen : cs.length ≤ lim) {K : Value → CM → Prop} {Kp : List PanicEntry → CM → Prop} (hK : ∀ m', m'.next = m.next → (∀ x, bn ≠ some x → m'.get x = m.get x) → K (.tuple ⟨[]⟩) m') : callw Try.prog 20 [.pointer (some ⟨t, 0, none⟩)] m K Kp := by
  apply c20
  exact wipes_ok Try.underlying34 sz3 ag34 (fun h => c50 h) (fun h => c51 h) ho hv hlen (K := RK K Kp) fun m' h1 h2 => by rw [RK_ret]; exact hK m' h1 h2
theorem HV.toL1 {m : CM} {v : Value} {bn : Option Nat} {cs : List Value} (h : HV m v bn cs) : toL v = [v] ∧ (toL v).all one = true := by cases h <;> exact ⟨rfl, rfl⟩
/-- The two closures that give a slice of numbers. -/
theorem clo_ints {m0 m1 : CM} {h g : Nat} {v : Value} {e : Int} (hoh : Own m0 h [.slice none 0 0, .slice none 0 0] 0) (hle1 : m0.le m1) (hv : IntsV m0 m1 v)
    (hwipe : ∀ (t : Nat) (bn : Option Nat) (cs : List Value) (M : CM) (K : Value → CM → Prop) (Kp : List PanicEntry → CM → Prop), Own M t [v] 0 → HV M v bn cs → cs.length ≤ lim → (∀ m', m'.next = M.next → (∀ x, bn ≠ some x → m'.get x = M.get x) → K (.tuple ⟨[]⟩) m') → callw Try.prog g [.pointer (some ⟨t, 0, none⟩)] M K Kp)
    {Kp1 Kp2 : List PanicEntry → CM → Prop} :
    alw Try.prog 34 m1 (fun t4 m => sop (cstore Try.prog 34 t4 v m) (fun _ m => pop (cload Try.prog 34 t4 m) m (fun t17 m => callw Try.prog 18 [.pointer (some ⟨h, 0, none⟩), t17] m (fun _ m => callw Try.prog 9 [.pointer (some ⟨h, 0, none⟩), .int .i64 e] m (fun _ m => leaveV Try.prog [.v (.func (Fn.func g) ⟨[]⟩ ⟨[t4]⟩)] [] .ret m (RK (CloPost Try.prog m0 h) (fun _ _ => False))) Kp1) Kp2))) := by
  obtain ⟨bn, cs, hv1, hb, hlen, hint⟩ := hv
  have hl := lm
  obtain ⟨e1, e2⟩ := HV.toL1 hv1
  have hhm := hoh.1
  refine alw_of ze34 fun b4 m2 hle2 hb4 ho4 => store_own ho4 (by simp [e1, sz34]) (by simp [e1]) e2 fun m3 hn3 hx3 ho3 => ?_
  rw [e1] at ho3
  have h4h : b4 ≠ h := by have := hle1.1; omega
  have hle3 := le_of_put (hle1.trans hle2) (by have := hle1.1; omega) hn3 hx3
  have hv3 : HV m3 v bn cs := (HV.le hv1 hle2).of_get (by omega) fun y hy => hx3 y (fun e => by have := hv1.lt hy; omega)
  rw [ho3.cel.z ag34 rfl, pop_some]
  have hbh : ∀ y, bn = some y → y ≠ h := fun y hy => by have := hb y hy; omega
  refine put18 (keepBut m3 h) h 0 m3 [v] (1 + cs.length) _ _ (hp_but (hoh.le hle3)) (hv3.wt hbh fun u hu => by obtain ⟨n, rfl⟩ := hint u hu; exact .i n) (by omega) fun _ m4 hp => p9 hp (by omega) fun _ m5 hp => ?_
  rw [leave1, RK_ret]
  have hg3 : ∀ x, x < m3.next → x ≠ h → keepBut m3 h x = some (m3.get x) := fun x h1 h2 => keepBut_get h1 h2
  refine clo_of hoh.1 (fun x hx hne => by rw [keepBut_get (Nat.lt_of_lt_of_le hx hle3.1) hne, hle3.2 x hx]) hp (by omega) (W := fun x => bn = some x) (fun x hx => ⟨hb x hx, _, keepBut_get (hv3.lt hx) (hbh x hx)⟩) rfl fun M hM hc => ?_
  have o5 := own_fw ho3 h4h hp.fw
  have oM : Own M b4 [v] 0 := ⟨by have := o5.1; omega, hc _ _ _ _ (by have := hle1.1; omega) o5.1 o5.2⟩
  refine hwipe b4 bn cs M _ _ oM ?_ (by omega) fun m' h1 h2 => ⟨by omega, fun x _ hx => h2 x hx⟩
  cases hv3 with
  | nil => exact .nil
  | blk ho =>
    have o6 := own_fw ho (hbh _ rfl) hp.fw
    exact .blk ⟨by have := o6.1; omega, hc _ _ _ _ (hb _ rfl) o6.1 o6.2⟩
theorem clo16 (hk : k ≤ lim) : CloOk Try.prog tysW k l 16 := by
  intro F m h t hw hf hFh ho hth hoh
  obtain ⟨x, rfl, hin⟩ := wkOf hw hk
  have hd := hin m hf
  apply c16
  unfold s16
  rw [fz33_0, pop_some, lw27 ho, pop_some, fz33_3, pop_some, lwW ho, pop_some, fz33_1, pop_some, lw29 ho, pop_some]
  refine Faults17 hd fun m1 v e hle1 hv => ?_
  simp only [cext, List.getElem?_cons_zero, List.getElem?_cons_succ, pop_some]
  refine clo_ints hoh hle1 hv fun t bn cs M K Kp h1 h2 h3 h4 => ?_
  apply c19
  unfold s19
  refine wipe20 h1 h2 h3 fun m' h5 h6 => ?_
  rw [leave0, RK_ret]
  exact h4 m' h5 h6
theorem clo21 (hk : k ≤ lim) : CloOk Try.prog tysW k l 21 := by
  intro F m h t hw hf hFh ho hth hoh
  obtain ⟨x, rfl, hin⟩ := wkOf hw hk
  have hd := hin m hf
  apply c21
  unfold s21
  rw [fz33_0, pop_some, lw27 ho, pop_some, fz33_1, pop_some, lw29 ho, pop_some]
  refine Suits22 hd fun m1 v e hle1 hv => ?_
  simp only [cext, List.getElem?_cons_zero, List.getElem?_cons_succ, pop_some]
  refine clo_ints hoh hle1 hv fun t bn cs M K Kp h1 h2 h3 h4 => ?_
  apply c23
  unfold s23
  refine wipe20 h1 h2 h3 fun m' h5 h6 => ?_
  rw [leave0, RK_ret]
  exact h4 m' h5 h6
end
end Go.Proofs.Ytlgkfjgpjggmcaa.W
end
