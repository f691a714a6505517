/- Part 12 of 22 of the proof that the law TopAnewBlend returns true and leaves its argument as it read before, for every input that the bounded statement admits (what it reads is of bulk at most 1048576). -/
import Derived.Test.YtbgfkbdcpfngaaaP06
import Derived.Test.YtbgfkbdcpfngaaaP08
import Derived.Test.YtbgfkbdcpfngaaaP09
import Derived.Test.YtbgfkbdcpfngaaaP10
import Derived.Test.YtbgfkbdcpfngaaaP11
section
open Go Go.Proofs Go.Proofs.Ytbgfkbdcpfngaaa
set_option maxRecDepth 100000
namespace Go.Proofs.Ytbgfkbdcpfngaaa.B
theorem heapT : HeapT Try.prog 3 9 28 32 34 := ⟨Try.underlying28, Try.underlying32, sz3, sz9, ze3, ze9, by3, by9, ap28, ap32, sz28, sz32, ag28, ag32, ag3, ag9, Try.underlying9, fa34_0, fa34_1⟩
theorem put8 : PutOk Try.prog 8 [.i] false := putInt_ok heapT fun h => c8 h
theorem put9 : PutOk Try.prog 9 [.i] false := putInt_ok heapT fun h => c9 h
theorem put15 : PutOk Try.prog 15 [.i, .i] true := putS_ok (fs := [(25, 0, 3, 8), (25, 1, 3, 8)]) (.cons (t := [.i]) (a := false) fz25_0 ag3 sz3 (by decide) put8 (.cons (t := [.i]) (a := false) fz25_1 ag3 sz3 (by decide) put8 (.nil))) fun h => c15 h
theorem put22 : PutOk Try.prog 22 [.sl [.i]] false := by
  intro F h B m l k K Kp hp hw hB hK
  apply c22
  unfold s22
  refine puts_ok heapT Try.underlying28 sz3 ag3 (by decide) rfl put8 (fun h => c55 h) hp hw hB fun u m' hp' => ?_
  simp only [leave0, RK_ret]
  exact hK _ _ hp'
theorem put89 : PutOk Try.prog 89 [.i, .i] true := putS_ok (fs := [(114, 0, 3, 8), (114, 1, 3, 8)]) (.cons (t := [.i]) (a := false) fz114_0 ag3 sz3 (by decide) put8 (.cons (t := [.i]) (a := false) fz114_1 ag3 sz3 (by decide) put8 (.nil))) fun h => c89 h
theorem put85 : PutOk Try.prog 85 [.sl [.i, .i]] false := by
  intro F h B m l k K Kp hp hw hB hK
  apply c85
  unfold s85
  refine puts_ok heapT Try.underlying67 sz114 ag114 (by decide) rfl put89 (fun h => c88 h) hp hw hB fun u m' hp' => ?_
  simp only [leave0, RK_ret]
  exact hK _ _ hp'
theorem put84 : PutOk Try.prog 84 [.s] false := putText_ok heapT fun h => c84 h
theorem put65 : PutOk Try.prog 65 [.s, .i, .i, .i, .i, .i, .sl [.i, .i]] true := putS_ok (fs := [(69, 0, 9, 84), (69, 1, 3, 8), (69, 2, 25, 15), (69, 3, 25, 15), (69, 4, 67, 85)]) (.cons (t := [.s]) (a := false) fz69_0 ag9 sz9 (by decide) put84 (.cons (t := [.i]) (a := false) fz69_1 ag3 sz3 (by decide) put8 (.cons (t := [.i, .i]) (a := true) fz69_2 ag25 sz25 (by decide) put15 (.cons (t := [.i, .i]) (a := true) fz69_3 ag25 sz25 (by decide) put15 (.cons (t := [.sl [.i, .i]]) (a := false) fz69_4 ag67 sz67 (by decide) put85 (.nil)))))) fun h => c65 h
theorem put32 : PutOk Try.prog 32 [.sl [.s, .i, .i, .i, .i, .i, .sl [.i, .i]]] false := by
  intro F h B m l k K Kp hp hw hB hK
  apply c32
  unfold s32
  refine puts_ok heapT Try.underlying22 sz69 ag69 (by decide) rfl put65 (fun h => c64 h) hp hw hB fun u m' hp' => ?_
  simp only [leave0, RK_ret]
  exact hK _ _ hp'
theorem put66 : PutOk Try.prog 66 [.sl [.i, .i]] false := by
  intro F h B m l k K Kp hp hw hB hK
  apply c66
  unfold s66
  refine puts_ok heapT Try.underlying23 sz25 ag25 (by decide) rfl put15 (fun h => c86 h) hp hw hB fun u m' hp' => ?_
  simp only [leave0, RK_ret]
  exact hK _ _ hp'
theorem put33 : PutOk Try.prog 33 [.sl [.i, .i], .i, .i, .i, .i] true := putS_ok (fs := [(27, 0, 23, 66), (27, 1, 25, 15), (27, 2, 25, 15)]) (.cons (t := [.sl [.i, .i]]) (a := false) fz27_0 ag23 sz23 (by decide) put66 (.cons (t := [.i, .i]) (a := true) fz27_1 ag25 sz25 (by decide) put15 (.cons (t := [.i, .i]) (a := true) fz27_2 ag25 sz25 (by decide) put15 (.nil)))) fun h => c33 h
theorem put68 : PutOk Try.prog 68 [.i, .i] true := putS_ok (fs := [(87, 0, 3, 8), (87, 1, 3, 8)]) (.cons (t := [.i]) (a := false) fz87_0 ag3 sz3 (by decide) put8 (.cons (t := [.i]) (a := false) fz87_1 ag3 sz3 (by decide) put8 (.nil))) fun h => c68 h
theorem put34 : PutOk Try.prog 34 [.sl [.i, .i]] false := by
  intro F h B m l k K Kp hp hw hB hK
  apply c34
  unfold s34
  refine puts_ok heapT Try.underlying29 sz87 ag87 (by decide) rfl put68 (fun h => c67 h) hp hw hB fun u m' hp' => ?_
  simp only [leave0, RK_ret]
  exact hK _ _ hp'
theorem all4 {F : Keep} {h B : Nat} {m : CM} {l : List Value} {k : Nat} {K : Value → CM → Prop} {Kp : List PanicEntry → CM → Prop} (hp : Hp F h B m) (hw : WTL F [.sl [.s, .i, .i, .i, .i, .i, .sl [.i, .i]], .sl [.i, .i], .i, .i, .i, .i, .sl [.i], .sl [.i, .i], .i, .i, .i] k l) (hB : B + k ≤ lim) (hK : ∀ u m', Hp F h (B + k) m' → K u m') :
    callw Try.prog 4 [.agg ⟨l⟩, .pointer (some ⟨h, 0, none⟩)] m K Kp :=
  all_ok (fs := [(31, 0, 22, 32), (31, 1, 27, 33), (31, 2, 28, 22), (31, 3, 29, 34), (31, 4, 3, 8), (31, 5, 3, 8), (31, 6, 3, 8)]) (.cons (t := [.sl [.s, .i, .i, .i, .i, .i, .sl [.i, .i]]]) (a := false) fz31_0 ag22 sz22 (by decide) put32 (.cons (t := [.sl [.i, .i], .i, .i, .i, .i]) (a := true) fz31_1 ag27 sz27 (by decide) put33 (.cons (t := [.sl [.i]]) (a := false) fz31_2 ag28 sz28 (by decide) put22 (.cons (t := [.sl [.i, .i]]) (a := false) fz31_3 ag29 sz29 (by decide) put34 (.cons (t := [.i]) (a := false) fz31_4 ag3 sz3 (by decide) put8 (.cons (t := [.i]) (a := false) fz31_5 ag3 sz3 (by decide) put8 (.cons (t := [.i]) (a := false) fz31_6 ag3 sz3 (by decide) put8 (.nil)))))))) (fun h => c4 h) hp hw hB hK
end Go.Proofs.Ytbgfkbdcpfngaaa.B
end

section
open Go Go.Proofs Go.Proofs.Ytbgfkbdcpfngaaa
set_option maxRecDepth 100000
namespace Go.Proofs.Ytbgfkbdcpfngaaa.B
theorem ldi {b : Nat} {l : List Value} {m : CM} {j : Nat} {n : Int} (h : Own m b l 0) (hj : l[j]? = some (.int .i64 n)) : cload Try.prog 3 (.pointer (some ⟨b, j, none⟩)) m = some (.int .i64 n) := h.cel.z ag3 hj
theorem out35 : OutOk Try.prog 35 := out_ok Try.underlying28 sz3 ag3 (fun h => c35 h) (fun h => c70 h) (fun h => c69 h) (fun h => c87 h)
theorem name36 : NameOk Try.prog 36 := name_ok Try.underlying9 (fun h => c36 h)
theorem out_1 {lo hi x : Int} {m : CM} {K : Value → CM → Prop} {Kp : List PanicEntry → CM → Prop} (h : ∀ b m', m.le m' → (b = false → lo ≤ x ∧ x ≤ hi) → K (.bool b) m') :
    vop (cbuildS Try.prog 28 1 [(0, .int .i64 x)] m) (fun t m1 => callw Try.prog 35 [.int .i64 lo, .int .i64 hi, t] m1 K Kp) :=
  outL Try.underlying28 sz3 ze3 out35 (xs := [x]) (k := 1) rfl (by decide) rfl fun b m' hle hb => h b m' hle fun e => hb e x (by simp)
theorem out_2 {lo hi x y : Int} {m : CM} {K : Value → CM → Prop} {Kp : List PanicEntry → CM → Prop} (h : ∀ b m', m.le m' → (b = false → (lo ≤ x ∧ x ≤ hi) ∧ lo ≤ y ∧ y ≤ hi) → K (.bool b) m') :
    vop (cbuildS Try.prog 28 2 [(0, .int .i64 x), (1, .int .i64 y)] m) (fun t m1 => callw Try.prog 35 [.int .i64 lo, .int .i64 hi, t] m1 K Kp) :=
  outL Try.underlying28 sz3 ze3 out35 (xs := [x, y]) (k := 2) rfl (by decide) rfl fun b m' hle hb => h b m' hle fun e => ⟨hb e x (by simp), hb e y (by simp)⟩
theorem out_1J {lo hi x : Int} {m : CM} {Mv : Value → CM → CM} {Kc : Value → CM → Value → CM → Prop} {Kp : Value → CM → List PanicEntry → CM → Prop} (hV : ∀ t m1, m.le m1 → m1.le (Mv t m1)) (h : ∀ t m1 b m', m.le m1 → (Mv t m1).le m' → m.le m' → (b = false → lo ≤ x ∧ x ≤ hi) → Kc t m1 (.bool b) m') :
    vop (cbuildS Try.prog 28 1 [(0, .int .i64 x)] m) (fun t m1 => m.le m1 ∧ callw Try.prog 35 [.int .i64 lo, .int .i64 hi, t] (Mv t m1) (Kc t m1) (Kp t m1)) :=
  outJ Try.underlying28 sz3 ze3 out35 (xs := [x]) (k := 1) rfl (by decide) rfl hV fun t m1 b m' h1 h2 h3 hb => h t m1 b m' h1 h2 h3 fun e => hb e x (by simp)
theorem out_2J {lo hi x y : Int} {m : CM} {Mv : Value → CM → CM} {Kc : Value → CM → Value → CM → Prop} {Kp : Value → CM → List PanicEntry → CM → Prop} (hV : ∀ t m1, m.le m1 → m1.le (Mv t m1)) (h : ∀ t m1 b m', m.le m1 → (Mv t m1).le m' → m.le m' → (b = false → (lo ≤ x ∧ x ≤ hi) ∧ lo ≤ y ∧ y ≤ hi) → Kc t m1 (.bool b) m') :
    vop (cbuildS Try.prog 28 2 [(0, .int .i64 x), (1, .int .i64 y)] m) (fun t m1 => m.le m1 ∧ callw Try.prog 35 [.int .i64 lo, .int .i64 hi, t] (Mv t m1) (Kc t m1) (Kp t m1)) :=
  outJ Try.underlying28 sz3 ze3 out35 (xs := [x, y]) (k := 2) rfl (by decide) rfl hV fun t m1 b m' h1 h2 h3 hb => h t m1 b m' h1 h2 h3 fun e => ⟨hb e x (by simp), hb e y (by simp)⟩
theorem hcb25 (a b : Int) : cbuild Try.prog 25 [(0, .int .i64 a), (1, .int .i64 b)] = some (.agg ⟨[.int .i64 a, .int .i64 b]⟩) := by kernel_rfl
theorem hcb74 (a : Option Addr) (l k : Nat) (b : Int) : cbuild Try.prog 74 [(0, .slice a l k), (1, .int .i64 b)] = some (.agg ⟨[.slice a l k, .int .i64 b]⟩) := by kernel_rfl
theorem hcb74z (a : Option Addr) (l k : Nat) : cbuild Try.prog 74 [(0, .slice a l k)] = some (.agg ⟨[.slice a l k, .int .i64 0]⟩) := by kernel_rfl
/-! ### A curve -/
structure Cv where
  v : Value
  n : Nat
  x : Nat → Int
  y : Nat → Int
structure Cv.In (c : Cv) (m : CM) : Prop where
  s : Sl 2 m c.v c.n (fun j => [.int .i64 (c.x j), .int .i64 (c.y j)])
  n0 : c.n < 4611686018427387904
theorem Cv.In.le {c : Cv} {m m' : CM} (h : c.In m) (k : m.le m') : c.In m' := ⟨h.s.le k, h.n0⟩
structure Cv.Ok (c : Cv) : Prop where
  n6 : c.n ≤ 6
  r : ∀ j, j < c.n → 0 ≤ c.x j ∧ c.x j ≤ 20
  up : ∀ j k, k < j → j < c.n → c.x k < c.x j
theorem check39 {c : Cv} {m : CM} (hc : c.In m) {p : Int} {K : Value → CM → Prop} {Kp : List PanicEntry → CM → Prop} (hK : ∀ m' (e : Int), m.le m' → (e = 0 → c.Ok) → K (.int .i64 e) m') :
    callw Try.prog 39 [.agg ⟨[c.v, .int .i64 p]⟩] m K Kp := by
  have hn := hc.n0
  apply c39
  unfold s39
  refine box_of fun t1 m1 hle1 hb1 ho1 => ?_
  simp only [toL] at ho1
  rw [fz74_0, pop_some, ho1.cel.z ag67 (j := 0) rfl, pop_some, hc.s.len Try.underlying67, pop_some, cb_gtr, pop_some]
  cases h6 : decide ((6 : Int) < (c.n : Int)) with
  | true => rw [cnd_true, leave1, RK_ret]; exact hK _ _ hle1 (fun h => absurd h (by decide))
  | false =>
  have hn6 : c.n ≤ 6 := by simp at h6; omega
  rw [cnd_false]
  simp only [pop_some]
  rw [ho1.cel.z ag67 (j := 0) rfl, pop_some, hc.s.len Try.underlying67, pop_some]
  refine loopA_of (fun l ds m' => ds = [] ∧ m.le m' ∧ ∃ (i : Nat) (last : Int), i ≤ c.n ∧ (∀ j, j < i → (0 ≤ c.x j ∧ c.x j ≤ 20) ∧ c.x j ≤ last) ∧ (∀ j k, k < j → j < i → c.x k < c.x j) ∧ l = [.int .i64 0, .int .i64 last, c.v, .int .i64 c.n, .int .i64 i])
    (fun l _ => match l with | [_, _, _, _, .int _ i] => c.n - i.toNat | _ => 0) ⟨rfl, hle1, 0, _, by omega, fun j hj => by omega, fun j k _ hj => by omega, rfl⟩ ?_
  clear ho1
  rintro X ρ ds m' ⟨rfl, hle, i, last, hi, hr, hu, hl⟩ hX
  simp only [List.map_cons, List.map_nil, List.cons.injEq, and_true] at hl
  obtain ⟨q2, q3, q11, q12, q13⟩ := hl
  simp only [q2, q3, q11, q12, q13, cb_lss, pop_some]
  by_cases hci : i < c.n
  · have hc' : decide ((i : Int) < (c.n : Int)) = true := by simpa using hci
    obtain ⟨b, o, hia, hcel, hlen⟩ := (hc.s.le hle).at Try.underlying67 sz114 (i := i) (by omega) (by omega)
    simp only [Int.toNat_natCast] at hcel hlen
    rw [hc', cnd_true, hia, pop_some, hcel.elv ag114 sz114 hlen (by decide), pop_some]
    refine alw_of ze114 fun t5 m2 hle2 hb5 ho5 => store_own ho5 (by simp [toL, elv, sz114]) (by simp [toL, elv]) rfl fun m3 hn3 hx3 ho5 => ?_
    simp only [toL, elv] at ho5
    have hle3 : m'.le m3 := le_of_put hle2 hb5 hn3 hx3
    simp only [fz114_0, fz114_1, pop_some]
    rw [ldi ho5 (j := 0) rfl]
    simp only [pop_some]
    refine out_1 fun b4 m4 hle4 h4 => ?_
    replace ho5 := ho5.le hle4
    replace hle := (hle.trans hle3).trans hle4
    cases b4 with
    | true =>
      simp only [gb_bool, Bool.true_beq, gop_false, cpick_bool, if_true, pop_some, cnd_true]
      rw [leave1, RK_ret]; exact hK _ _ hle (fun h => absurd h (by decide))
    | false =>
    have h4' := h4 rfl
    simp only [gb_bool, beq_self_eq_true, gop_true]
    rw [ldi ho5 (j := 1) rfl]
    simp only [pop_some]
    refine out_1 fun b5 m5 hle5 h5 => ?_
    replace ho5 := ho5.le hle5
    replace hle := hle.trans hle5
    simp only [cpick_bool, Bool.false_eq_true, if_false, pop_some]
    cases b5 with
    | true => rw [cnd_true, leave1, RK_ret]; exact hK _ _ hle (fun h => absurd h (by decide))
    | false =>
    rw [cnd_false, ldi ho5 (j := 0) rfl]
    simp only [pop_some, cb_leq]
    cases hlt : decide (c.x i ≤ last) with
    | true => rw [cnd_true, leave1, RK_ret]; exact hK _ _ hle (fun h => absurd h (by decide))
    | false =>
    have hlt' : last < c.x i := by simpa using hlt
    rw [cnd_false, ldi ho5 (j := 0) rfl]
    simp only [pop_some, cb_add]
    rw [wrap_id (by omega) (by omega)]
    refine hX _ _ _ ⟨rfl, hle, i + 1, c.x i, by omega, fun j hj => ?_, fun j k hk hj => ?_, by simp⟩ ?_
    · by_cases e : j = i
      · subst e; exact ⟨h4', Int.le_refl _⟩
      · have := hr j (by omega); exact ⟨this.1, by omega⟩
    · by_cases e : j = i
      · subst e; have := hr k hk; omega
      · exact hu j k hk (by omega)
    · simp only [List.map_cons, List.map_nil, q13]; omega
  · have hc' : decide ((i : Int) < (c.n : Int)) = false := by simpa using hci
    rw [hc', cnd_false, leave1, RK_ret]
    have : i = c.n := by omega
    subst this
    exact hK _ _ hle fun _ => ⟨hn6, fun j hj => (hr j hj).1, hu⟩
end Go.Proofs.Ytbgfkbdcpfngaaa.B
end

section
open Go Go.Proofs Go.Proofs.Ytbgfkbdcpfngaaa
set_option maxRecDepth 100000
namespace Go.Proofs.Ytbgfkbdcpfngaaa.B
theorem cv1 (n : Int) : cconv Try.prog 3 128 (.int .i64 n) = some (.int .u64 (IntKind.u64.wrap n)) := by kernel_rfl
theorem cv2 (n : Int) : cconv Try.prog 128 3 (.int .u64 n) = some (.int .i64 (IntKind.i64.wrap n)) := by kernel_rfl
theorem cshr {t : TypeId} {x y : Operand} (n : Int) : cbin Try.prog .shr t x y (.int .u64 n) (.int .u64 1) = some (.int .u64 (n.fdiv 2)) := by kernel_rfl
theorem half {n : Int} (h0 : 0 ≤ n) (h1 : n ≤ 100000) : IntKind.i64.wrap ((IntKind.u64.wrap n).fdiv 2) = n / 2 := by
  have : IntKind.u64.wrap n = n := by
    simp [IntKind.wrap, IntKind.signed, IntKind.bits]; omega
  rw [this, Int.fdiv_eq_ediv_of_nonneg _ (by decide), wrap_id (by omega) (by omega)]
/-- sort.Search: a number from 0 to n. -/
theorem search72 {m : CM} {f : Value} {n : Int} (hn : 0 ≤ n ∧ n ≤ 50000) (hf : ∀ (i : Int) (m' : CM) (K : Value → CM → Prop) (Kp : List PanicEntry → CM → Prop), 0 ≤ i → i < n → m.le m' → (∀ b m2, m'.le m2 → K (.bool b) m2) → callv Try.prog f [.int .i64 i] m' K Kp)
    {K : Value → CM → Prop} {Kp : List PanicEntry → CM → Prop} (hK : ∀ m' (k : Int), m.le m' → 0 ≤ k → k ≤ n → K (.int .i64 k) m') : callw Try.prog 72 [.int .i64 n, f] m K Kp := by
  apply c72
  unfold s72 j72_0
  refine loopA_of (fun l0 ds m' => ds = [] ∧ m.le m' ∧ ∃ i j : Int, 0 ≤ i ∧ i ≤ j ∧ j ≤ n ∧ l0 = [f, .int .i64 0, .int .i64 i, .int .i64 j])
    (fun l _ => match l with | [_, _, .int _ i, .int _ j] => (j - i).toNat | _ => 0) ⟨rfl, .refl m, 0, n, by omega, by omega, by omega, rfl⟩ ?_
  rintro X ρ ds m' ⟨rfl, hle, i, j, h0, hij, hj, hll⟩ hX
  simp only [List.map_cons, List.map_nil, List.cons.injEq, and_true] at hll
  obtain ⟨p1, p4, p5, p6⟩ := hll
  simp only [p1, p4, p5, p6, cb_lss, pop_some]
  by_cases hc : i < j
  · rw [show decide (i < j) = true by simpa using hc, cnd_true, cb_add, pop_some, cv1, pop_some, cshr, pop_some, cv2, pop_some, wrap_id (n := i + j) (by omega) (by omega), half (by omega) (by omega)]
    refine hf _ _ _ _ (by omega) (by omega) hle fun b m2 hle2 => ?_
    rw [cun_not, pop_some]
    cases b with
    | false =>
      simp only [Bool.not_false, cnd_true, cb_add, pop_some]
      rw [wrap_id (by omega) (by omega)]
      refine hX _ _ _ ⟨rfl, hle.trans hle2, _, _, ?_, ?_, ?_, rfl⟩ ?_
      · omega
      · omega
      · omega
      · simp only [List.map_cons, List.map_nil, p5, p6]; omega
    | true =>
      simp only [Bool.not_true, cnd_false]
      refine hX _ _ _ ⟨rfl, hle.trans hle2, _, _, ?_, ?_, ?_, rfl⟩ ?_
      · omega
      · omega
      · omega
      · simp only [List.map_cons, List.map_nil, p5, p6]; omega
  · rw [show decide (i < j) = false by simpa using hc, cnd_false, leave1, RK_ret]
    exact hK _ _ hle (by omega) (by omega)
theorem down59 {m : CM} {a b : Int} (hb : b ≠ 0) {K : Value → CM → Prop} {Kp : List PanicEntry → CM → Prop} (hK : ∀ x : Int, K (.int .i64 x) m) : callw Try.prog 59 [.int .i64 a, .int .i64 b] m K Kp := by
  apply c59
  unfold s59 j59_0
  rw [cb_quo hb, pop_some, cb_rem hb, pop_some, cb_lss, pop_some]
  cases decide (a.tmod b < 0) with
  | true => rw [cnd_true, cb_sub, pop_some, leave1, RK_ret]; exact hK _
  | false => rw [cnd_false, leave1, RK_ret]; exact hK _
theorem reached73 {c : Cv} {m : CM} (hc : c.In m) {p i : Int} (h0 : 0 ≤ i) (h1 : i < c.n) {K : Value → CM → Prop} {Kp : List PanicEntry → CM → Prop} (hK : ∀ b m', m.le m' → K (.bool b) m') : callw Try.prog 73 [.agg ⟨[c.v, .int .i64 p]⟩, .int .i64 i] m K Kp := by
  apply c73
  unfold s73
  refine box_of fun t2 m1 hle1 hb1 ho1 => ?_
  simp only [toL] at ho1
  obtain ⟨b, o, hia, hcel, hlen⟩ := (hc.s.le hle1).at Try.underlying67 sz114 h0 h1
  rw [fz74_0, pop_some, ho1.cel.z ag67 (j := 0) rfl, pop_some, hia]
  simp only [pop_some, fa114_0]
  rw [hcel.s0 ag3 rfl]
  simp only [pop_some, fz74_1]
  rw [ldi ho1 (j := 1) rfl]
  simp only [pop_some, cb_geq]
  rw [leave1, RK_ret]
  exact hK _ _ hle1
set_option maxHeartbeats 1000000 in
theorem add40 {c : Cv} {m : CM} (hc : c.In m) (hok : c.Ok) {p : Int} {K : Value → CM → Prop} {Kp : List PanicEntry → CM → Prop} (hK : ∀ m' (x : Int), m.le m' → K (.int .i64 x) m') : callw Try.prog 40 [.agg ⟨[c.v, .int .i64 p]⟩] m K Kp := by
  have hn6 := hok.n6
  apply c40
  unfold s40
  refine box_of fun t1 m1 hle1 hb1 ho1 => ?_
  replace ho1 : Own m1 t1 [c.v, .int .i64 p] 0 := ho1
  rw [fz74_0, pop_some, ho1.cel.z ag67 (j := 0) rfl, pop_some, hc.s.len Try.underlying67, pop_some, cb_eql, pop_some]
  cases h0 : ((c.n : Int) == 0) with
  | true => rw [cnd_true, leave1, RK_ret]; exact hK _ _ hle1
  | false =>
  have hn0 : 0 < c.n := by simp at h0; omega
  rw [cnd_false]
  simp only [pop_some]
  rw [ho1.cel.z ag67 (j := 0) rfl, pop_some, hc.s.len Try.underlying67, pop_some, lda ho1 ag74 sz74, pop_some]
  refine search72 ⟨by omega, by omega⟩ (fun i m' K Kp h0 h1 hle hK => ?_) fun m2 k hle2 hk0 hk1 => ?_
  · show callw Try.prog 73 ([.agg ⟨[c.v, .int .i64 p]⟩] ++ [.int .i64 i] ++ []) m' _ _
    exact reached73 (hc.le (hle1.trans hle)) h0 h1 hK
  have hle := hle1.trans hle2
  replace ho1 := ho1.le hle2
  have hc' := hc.le hle
  rw [cb_eql, pop_some]
  cases hk : (k == 0) with
  | true =>
    obtain ⟨b, o, hia, hcel, hlen⟩ := hc'.s.at Try.underlying67 sz114 (i := 0) (by omega) (by omega)
    rw [cnd_true, ho1.cel.z ag67 (j := 0) rfl, pop_some, hia]
    simp only [pop_some, fa114_1]
    rw [hcel.s ag3 (j := 1) rfl]
    simp only [pop_some]
    rw [leave1, RK_ret]; exact hK _ _ hle
  | false =>
  have hk0' : 0 < k := by simp at hk; omega
  rw [cnd_false, ho1.cel.z ag67 (j := 0) rfl, pop_some, hc.s.len Try.underlying67, pop_some, cb_eql, pop_some]
  obtain ⟨b, o, hia, hcel, hlen⟩ := hc'.s.at Try.underlying67 sz114 (i := k - 1) (by omega) (by omega)
  have hw : IntKind.i64.wrap (k - 1) = k - 1 := wrap_id (by omega) (by omega)
  cases hkn : (k == (c.n : Int)) with
  | true =>
    rw [cnd_true, ho1.cel.z ag67 (j := 0) rfl, pop_some, cb_sub, pop_some, hw, hia]
    simp only [pop_some, fa114_1]
    rw [hcel.s ag3 (j := 1) rfl]
    simp only [pop_some]
    rw [leave1, RK_ret]; exact hK _ _ hle
  | false =>
  have hkn' : k < c.n := by simp at hkn; omega
  obtain ⟨b', o', hia', hcel', hlen'⟩ := hc'.s.at Try.underlying67 sz114 (i := k) (by omega) (by omega)
  rw [cnd_false, ho1.cel.z ag67 (j := 0) rfl]
  simp only [pop_some, cb_sub, hw]
  rw [hia]
  simp only [pop_some]
  rw [hcel.elv ag114 sz114 hlen (by decide)]
  simp only [pop_some]
  rw [hia']
  simp only [pop_some]
  rw [hcel'.elv ag114 sz114 hlen' (by decide)]
  simp only [pop_some, elv]
  refine alw_of ze114 fun t4 m3 hle3 hb4 ho4 => ⟨hle3, ?_⟩
  refine alw_of ze114 fun t5 m4 hle4 hb5 ho5 => ⟨hle4, ?_⟩
  have hn3 : m2.next ≤ m3.next := hle3.1
  have hn4 : m3.next ≤ m4.next := hle4.1
  have h41 := ho4.1
  have h51 := ho5.1
  have hb5' : m3.next ≤ t5 := hb5
  refine lstw_own (ho4.viewS1 hle3 hn4 rfl).2 (by simp [toL, sz114]) (by simp [toL]) rfl ⟨⟨_, rfl, hb4, h41⟩, (by simp), ?_⟩
  generalize hML : memL m2 _ [(13, t4, _)] (fun _ => true) m4.next = ML
  rw [memL1 rfl (ho4.viewS1 hle3 hn4 rfl).2] at hML
  have hV := fun (E : List Ent) (sel : Nat → Bool) h => viewS (m := m2) (m1 := m3) (m2 := m4) (E := E) (sel := sel) hle3 hn4 h
  have hMLn : ML.next = m4.next := by subst hML; rfl
  have hMLe : m2.le ML := ⟨by omega, fun y hy => by subst hML; rw [CM.get_put, if_neg (by omega), (hV _ _ rfl).1.2 y (by omega)]; exact hle3.2 y hy⟩
  have o4 : Own ML t4 [.int .i64 (c.x (k - 1).toNat), .int .i64 (c.y (k - 1).toNat)] 0 := ⟨by omega, by subst hML; rw [CM.get_put, if_pos rfl]; rfl⟩
  have o5 : Own ML t5 [.int .i64 0, .int .i64 0] 0 := ⟨by omega, by subst hML; rw [CM.get_put, if_neg (by omega)]; exact (ho5.viewS2 hb5' hle3 hn4 rfl).2⟩
  clear hML hV
  refine store_own o5 (by simp [toL, sz114]) (by simp [toL]) rfl fun m5 hn5 hx5 o5 => ?_
  simp only [toL] at o5
  replace o4 := o4.sub hn5 (hx5 t4 (by omega))
  have hle5 := le_of_put hMLe (by omega) hn5 hx5
  replace ho1 := ho1.le hle5
  simp only [fz114_0, fz114_1, fz74_1, pop_some]
  rw [ldi o4 (j := 1) rfl]
  simp only [pop_some]
  rw [ldi o5 (j := 1) rfl]
  simp only [pop_some, cb_sub]
  rw [ldi ho1 (j := 1) rfl]
  simp only [pop_some]
  rw [ldi o4 (j := 0) rfl]
  simp only [pop_some, cb_sub, cb_mul]
  rw [ldi o5 (j := 0) rfl]
  simp only [pop_some, cb_sub]
  have r1 := hok.r (k - 1).toNat (by omega)
  have r2 := hok.r k.toNat (by omega)
  have r3 := hok.up k.toNat (k - 1).toNat (by omega) (by omega)
  rw [wrap_id (n := c.x k.toNat - c.x (k - 1).toNat) (by omega) (by omega)]
  refine down59 (by omega) fun q => ⟨.refl _, ?_⟩
  rw [cb_add, pop_some, leave1, RK_ret]
  exact hK _ _ ((hle.trans hle5).trans (view1 (.refl m5) (Nat.le_refl _) rfl))
end Go.Proofs.Ytbgfkbdcpfngaaa.B
end

section
open Go Go.Proofs Go.Proofs.Ytbgfkbdcpfngaaa
set_option maxRecDepth 100000
namespace Go.Proofs.Ytbgfkbdcpfngaaa.B
/-! ### Waxes -/
structure WxR where
  s : ByteArray
  p : Int
  a : Int
  b : Int
  c : Int
  d : Int
  cv : Cv
abbrev WxR.row (w : WxR) : List Value := [.string w.s, .int .i64 w.p, .int .i64 w.a, .int .i64 w.b, .int .i64 w.c, .int .i64 w.d, w.cv.v]
structure Wxs where
  v : Value
  n : Nat
  w : Nat → WxR
structure Wxs.In (l : Wxs) (m : CM) : Prop where
  s : Sl 7 m l.v l.n (fun i => (l.w i).row)
  c : ∀ i, i < l.n → (l.w i).cv.In m
  n0 : l.n < 4611686018427387904
theorem Wxs.In.le {l : Wxs} {m m' : CM} (h : l.In m) (k : m.le m') : l.In m' := ⟨h.s.le k, fun i hi => (h.c i hi).le k, h.n0⟩
structure Wxs.Ok (l : Wxs) : Prop where
  n5 : 1 ≤ l.n ∧ l.n ≤ 5
  c : ∀ i, i < l.n → (l.w i).cv.Ok
theorem WxR.one {w : WxR} {m : CM} (h : w.cv.In m) : w.row.all Ytbgfkbdcpfngaaa.one = true := by
  have := h.s.one
  simp only [WxR.row, List.all_cons, this, List.all_nil, Bool.and_true]; rfl
set_option maxHeartbeats 1000000 in
theorem check7 {l : Wxs} {m : CM} (hl : l.In m) {K : Value → CM → Prop} {Kp : List PanicEntry → CM → Prop} (hK : ∀ (p a e : Int) m', m.le m' → (e = 0 → l.Ok) → K (.tuple ⟨[.int .i64 p, .int .i64 a, .int .i64 e]⟩) m') :
    callw Try.prog 7 [l.v] m K Kp := by
  have hn := hl.n0
  apply c7
  unfold s7
  rw [hl.s.len Try.underlying22, pop_some]
  refine out_1 fun b1 m1 hle1 h1 => ?_
  cases b1 with
  | true => rw [cnd_true, leave3, RK_ret]; exact hK _ _ _ _ hle1 (fun h => absurd h (by decide))
  | false =>
  have h1' := h1 rfl
  have hn5 : 1 ≤ l.n ∧ l.n ≤ 5 := by omega
  rw [cnd_false, hl.s.len Try.underlying22, pop_some]
  refine loopA_of (fun l0 ds m' => ds = [] ∧ m.le m' ∧ ∃ i : Nat, ∃ x y z : Int, i ≤ l.n ∧ (∀ j, j < i → (l.w j).cv.Ok) ∧ l0 = [l.v, .int .i64 x, .int .i64 y, .int .i64 z, l.v, .int .i64 l.n, .int .i64 i])
    (fun l0 _ => match l0 with | [_, _, _, _, _, _, .int _ i] => l.n - i.toNat | _ => 0) ⟨rfl, hle1, 0, _, _, _, by omega, fun j hj => by omega, rfl⟩ ?_
  rintro X ρ ds m' ⟨rfl, hle, i, x, y, z, hi, hok, hll⟩ hX
  simp only [List.map_cons, List.map_nil, List.cons.injEq, and_true] at hll
  obtain ⟨q0, q2, q3, q4, q11, q12, q13⟩ := hll
  simp only [q0, q2, q3, q4, q11, q12, q13, cb_lss, pop_some]
  by_cases hci : i < l.n
  · have hc' : decide ((i : Int) < (l.n : Int)) = true := by simpa using hci
    have hcv := (hl.c i hci).le hle
    obtain ⟨b, o, hia, hcel, hlen⟩ := (hl.s.le hle).at Try.underlying22 sz69 (i := i) (by omega) (by omega)
    simp only [Int.toNat_natCast] at hcel hlen
    rw [hc', cnd_true, hia, pop_some, hcel.elv ag69 sz69 hlen (by decide), pop_some]
    refine alw_of ze69 fun t6 m2 hle2 hb6 ho6 => store_own ho6 (by simp [toL, elv, sz69]) (by simp [toL, elv]) (WxR.one hcv) fun m3 hn3 hx3 ho6 => ?_
    simp only [toL, elv] at ho6
    have hle3 := hle.trans (le_of_put hle2 hb6 hn3 hx3)
    have hcv3 := hcv.le (le_of_put hle2 hb6 hn3 hx3)
    -- what follows an error or none
    have fin : ∀ {m4 : CM} {e : Int}, m.le m4 → (e = 0 → (l.w i).cv.Ok) → j7_0 (RK K Kp) X (.int .i64 e) (.int .i64 i) (.int .i64 i) l.v (.int .i64 x) (.int .i64 y) l.v (.int .i64 l.n) [] m4 := by
      intro m4 e hle4 he
      unfold j7_0
      rw [cb_neq, pop_some]
      cases hb : (e != 0) with
      | true => rw [cnd_true, leave3, RK_ret]; exact hK _ _ _ _ hle4 (fun h => by simp [h] at hb)
      | false =>
        have he0 : e = 0 := by simpa using hb
        rw [cnd_false, cb_add, pop_some, wrap_id (by omega) (by omega)]
        refine hX _ _ _ ⟨rfl, hle4, i + 1, x, y, e, by omega, fun j hj => ?_, by simp⟩ ?_
        · by_cases ej : j = i
          · subst ej; exact he he0
          · exact hok j (by omega)
        · simp only [List.map_cons, List.map_nil, q13]; omega
    simp only [fz69_0, fz69_1, fz69_2, fz69_3, fz69_4, fa25_0, fa25_1, pop_some, Nat.reduceAdd]
    rw [ho6.cel.z ag9 (j := 0) rfl]
    simp only [pop_some]
    refine name36 m3 _ _ _ fun m4 t4 hle4 => ?_
    replace ho6 := ho6.le hle4
    replace hle3 := hle3.trans hle4
    replace hcv3 := hcv3.le hle4
    rw [cun_not, pop_some]
    cases t4 with
    | false => rw [show (!false) = true from rfl, cnd_true]; exact fin hle3 (fun h => absurd h (by decide))
    | true =>
    obtain ⟨v', hv', hs'⟩ := (hl.s.le hle3).pre Try.underlying22 sz69 (by decide) (i := i) (by omega) (by omega) (by omega) (.refl m4)
    rw [show (!true) = false from rfl, cnd_false, hv', pop_some]
    simp only [Int.toNat_natCast] at hs'
    refine c37 (con_ok (fun h => c71 h) Try.underlying22 sz69 ag69 (by decide) hs' (by omega) (fun _ _ => True) (fun k m' hk hle' => ?_) fun m5 t5 hle5 _ _ => ?_)
    · show callw Try.prog 38 ([] ++ [.agg ⟨(l.w k).row⟩] ++ [.pointer (some ⟨t6, 0, none⟩)]) m' _ _
      apply c38
      unfold s38
      refine box_of fun t2 m5 hle5 hb2 ho2 => ?_
      simp only [toL, elv] at ho2
      simp only [fz69_0, pop_some]
      rw [ho2.cel.z ag9 rfl]
      simp only [pop_some]
      rw [((ho6.le hle').le hle5).cel.z ag9 rfl]
      simp only [pop_some, cb_eql_str]
      rw [leave1, RK_ret]
      exact ⟨_, rfl, hle5, trivial⟩
    replace ho6 := ho6.le hle5
    replace hle3 := hle3.trans hle5
    replace hcv3 := hcv3.le hle5
    cases t5 with
    | true => rw [cnd_true]; exact fin hle3 (fun h => absurd h (by decide))
    | false =>
    rw [cnd_false, ldi ho6 (j := 1) rfl]
    simp only [pop_some]
    refine out_1 fun b6 m6 hle6 _ => ?_
    replace ho6 := ho6.le hle6
    replace hle3 := hle3.trans hle6
    replace hcv3 := hcv3.le hle6
    have last : ∀ {m7 : CM}, m.le m7 → Own m7 t6 (l.w i).row 0 → (l.w i).cv.In m7 → pop (cload Try.prog 67 (.pointer (some ⟨t6, 6, none⟩)) m7) m7 (fun t19 m => pop (cbuild Try.prog 74 [(0, t19)]) m (fun t20 m => callw Try.prog 39 [t20] m (fun t21 m => j7_0 (RK K Kp) X t21 (.int .i64 i) (.int .i64 i) l.v (.int .i64 x) (.int .i64 y) l.v (.int .i64 l.n) [] m) (fun ch m => leaveV Try.prog [.v (.int .i64 x), .v (.int .i64 y), .v (.int .i64 z)] [] (.pan ch) m (RK K Kp)))) := by
      intro m7 hle7 ho7 hcv7
      obtain ⟨a, n', k, hv⟩ := hcv7.s.isS
      rw [ho7.cel.z ag67 (j := 6) rfl, pop_some, show cbuild Try.prog 74 [(0, (l.w i).cv.v)] = some (.agg ⟨[(l.w i).cv.v, .int .i64 0]⟩) by rw [hv]; exact hcb74z .., pop_some]
      refine check39 hcv7 fun m8 e hle8 he => ?_
      exact fin (hle7.trans hle8) he
    have no : ∀ {m4 : CM} {e : Int}, m.le m4 → e ≠ 0 → j7_0 (RK K Kp) X (.int .i64 e) (.int .i64 i) (.int .i64 i) l.v (.int .i64 x) (.int .i64 y) l.v (.int .i64 l.n) [] m4 := fun h he => fin h fun h0 => absurd h0 he
    cases b6 with
    | true =>
      simp only [gb_bool, Bool.true_beq, gop_false, cpick_bool, if_true, pop_some, cnd_true]
      exact no hle3 (by decide)
    | false =>
    simp only [gb_bool, beq_self_eq_true, gop_true, fa25_0, fa25_1, pop_some, Nat.reduceAdd]
    rw [ldi ho6 (j := 2) rfl]
    simp only [pop_some]
    rw [ldi ho6 (j := 3) rfl]
    simp only [pop_some]
    refine out_2 fun b7 m7 hle7 _ => ?_
    replace ho6 := ho6.le hle7
    replace hle3 := hle3.trans hle7
    replace hcv3 := hcv3.le hle7
    simp only [cpick_bool, Bool.false_eq_true, if_false, pop_some]
    cases b7 with
    | true =>
      simp only [gb_bool, Bool.true_beq, gop_false, cpick_bool, if_true, pop_some, cnd_true]
      exact no hle3 (by decide)
    | false =>
    simp only [gb_bool, beq_self_eq_true, gop_true, fa25_0, fa25_1, pop_some, Nat.reduceAdd]
    rw [ldi ho6 (j := 4) rfl]
    simp only [pop_some]
    rw [ldi ho6 (j := 5) rfl]
    simp only [pop_some]
    refine out_2 fun b8 m8 hle8 _ => ?_
    replace ho6 := ho6.le hle8
    replace hle3 := hle3.trans hle8
    replace hcv3 := hcv3.le hle8
    simp only [cpick_bool, Bool.false_eq_true, if_false, pop_some]
    cases b8 with
    | true => rw [cnd_true]; exact no hle3 (by decide)
    | false =>
    rw [cnd_false, ldi ho6 (j := 2) rfl]
    simp only [pop_some]
    rw [ldi ho6 (j := 3) rfl]
    simp only [pop_some, cb_gtr]
    cases decide ((l.w i).b < (l.w i).a) with
    | true =>
      simp only [gb_bool, Bool.true_beq, gop_false, cpick_bool, if_true, pop_some, cnd_true]
      exact no hle3 (by decide)
    | false =>
    simp only [gb_bool, beq_self_eq_true, gop_true, fa25_0, fa25_1, pop_some, Nat.reduceAdd]
    rw [ldi ho6 (j := 4) rfl]
    simp only [pop_some]
    rw [ldi ho6 (j := 5) rfl]
    simp only [pop_some, cb_gtr, cpick_bool, Bool.false_eq_true, if_false]
    cases decide ((l.w i).d < (l.w i).c) with
    | true => rw [cnd_true]; exact no hle3 (by decide)
    | false => rw [cnd_false]; exact last hle3 ho6 hcv3
  · have hc' : decide ((i : Int) < (l.n : Int)) = false := by simpa using hci
    rw [hc', cnd_false, leave3, RK_ret]
    have : i = l.n := by omega
    subst this
    exact hK _ _ _ _ hle fun _ => ⟨hn5, hok⟩
end Go.Proofs.Ytbgfkbdcpfngaaa.B
end

section
open Go Go.Proofs Go.Proofs.Ytbgfkbdcpfngaaa
set_option maxRecDepth 100000
namespace Go.Proofs.Ytbgfkbdcpfngaaa.B
/-! ### Parts of a blend -/
abbrev WxR.prow (w : WxR) (k : Int) : List Value := [.string w.s, .int .i64 w.p, .int .i64 w.a, .int .i64 w.b, .int .i64 w.c, .int .i64 w.d, w.cv.v, .int .i64 k]
theorem WxR.pone {w : WxR} {k : Int} {m : CM} (h : w.cv.In m) : (w.prow k).all Ytbgfkbdcpfngaaa.one = true := by
  have := h.s.one
  simp only [WxR.prow, List.all_cons, this, List.all_nil, Bool.and_true]; rfl
theorem hcb85 (s : ByteArray) (p a b c d : Int) (q : Option Addr) (l k : Nat) (n : Int) : cbuild Try.prog 85 [(0, .agg ⟨[.string s, .int .i64 p, .int .i64 a, .int .i64 b, .int .i64 c, .int .i64 d, .slice q l k]⟩), (1, .int .i64 n)] =
  some (.agg ⟨[.string s, .int .i64 p, .int .i64 a, .int .i64 b, .int .i64 c, .int .i64 d, .slice q l k, .int .i64 n]⟩) := by kernel_rfl
theorem ze85' : zeroL Try.prog 85 = some [.string ⟨#[]⟩, .int .i64 0, .int .i64 0, .int .i64 0, .int .i64 0, .int .i64 0, .slice none 0 0, .int .i64 0] := by kernel_rfl
/-- blend: a new slice of parts. -/
theorem blend43 {l : Wxs} {m : CM} (hl : l.In m) (hok : l.Ok) {v : Value} {n : Nat} {x : Nat → Int} (hv : Sl 1 m v n (fun i => [.int .i64 (x i)])) (hn : l.n ≤ n) {K : Value → CM → Prop} {Kp : List PanicEntry → CM → Prop}
    (hK : ∀ m' u, m.le m' → Sl 8 m' u l.n (fun i => (l.w i).prow (x i)) → K u m') : callw Try.prog 43 [l.v, v] m K Kp := by
  have hn5 := hok.n5
  apply c43
  unfold s43
  rw [hl.s.len Try.underlying22, pop_some]
  refine makeS_of (e := 7) Try.underlying80 sz85 ze85 rfl by85 (by decide) (by omega) fun m1 hle1 ho1 hlen1 => ?_
  rw [hl.s.len Try.underlying22, pop_some]
  generalize hbb : m.next = bb
  rw [hbb] at ho1
  refine loopA_of (fun l0 ds m' => ds = [] ∧ m.le m' ∧ ∃ i : Nat, i ≤ l.n ∧ (∃ c, Own m' bb c 8 ∧ c.length = l.n * 8 ∧ ∀ j, j < i → rowE 8 c j = (l.w j).prow (x j)) ∧ l0 = [v, .slice (some ⟨bb, 0, none⟩) l.n 0, l.v, .int .i64 l.n, .int .i64 i])
    (fun l0 _ => match l0 with | [_, _, _, _, .int _ i] => l.n - i.toNat | _ => 0) ⟨rfl, hle1, 0, by omega, ⟨_, ho1, hlen1, fun j hj => by omega⟩, rfl⟩ ?_
  clear ho1 hlen1 hle1
  rintro X ρ ds m' ⟨rfl, hle, i, hi, ⟨c, ho, hcl, hrow⟩, hll⟩ hX
  simp only [List.map_cons, List.map_nil, List.cons.injEq, and_true] at hll
  obtain ⟨q1, q5, q11, q12, q13⟩ := hll
  simp only [q1, q5, q11, q12, q13, cb_lss, pop_some]
  by_cases hci : i < l.n
  · have hc' : decide ((i : Int) < (l.n : Int)) = true := by simpa using hci
    obtain ⟨b, o, hia, hcel, hlen⟩ := (hl.s.le hle).at Try.underlying22 sz69 (i := i) (by omega) (by omega)
    obtain ⟨b2, o2, hia2, hcel2, hlen2⟩ := (hv.le hle).at Try.underlying28 sz3 (i := i) (by omega) (by omega)
    simp only [Int.toNat_natCast] at hcel hlen hcel2
    have hcv := (hl.c i hci).le hle
    rw [hc', cnd_true, hia, pop_some, hcel.elv ag69 sz69 hlen (by decide), pop_some]
    refine alw_of ze69 fun t7 m2 hle2 hb7 ho7 => store_own ho7 (by simp [toL, elv, sz69]) (by simp [toL, elv]) (WxR.one hcv) fun m3 hn3 hx3 ho7 => ?_
    simp only [toL, elv] at ho7
    have hle3 := le_of_put hle2 hb7 hn3 hx3
    rw [lda ho7 ag69 sz69]
    simp only [pop_some]
    rw [hia2]
    simp only [pop_some]
    rw [(hcel2.le hle3).s0 ag3 rfl]
    simp only [pop_some]
    obtain ⟨qa, ql, qk, hq⟩ := hcv.s.isS
    have hcb : cbuild Try.prog 85 [(0, .agg ⟨(l.w i).row⟩), (1, .int .i64 (x i))] = some (.agg ⟨(l.w i).prow (x i)⟩) := by
      simp only [WxR.row, WxR.prow, hq]; exact hcb85 ..
    rw [hcb]
    simp only [pop_some]
    rw [cia_own Try.underlying80 sz85 (by omega) (by omega)]
    simp only [pop_some, Int.toNat_natCast]
    refine (ho.le hle3).row_store hcl hci sz85 rfl (WxR.pone hcv) fun m4 c4 hn4 hx4 ho4 hl4 hr4 => ?_
    rw [cb_add, pop_some, wrap_id (by omega) (by omega)]
    refine hX _ _ _ ⟨rfl, le_of_put (hle.trans hle3) (by omega) hn4 hx4, i + 1, by omega, ⟨c4, ho4, hl4, fun j hj => ?_⟩, by simp⟩ ?_
    · rw [hr4]
      split
      · rename_i e; subst e; rfl
      · exact hrow j (by omega)
    · simp only [List.map_cons, List.map_nil, q13]; omega
  · have hc' : decide ((i : Int) < (l.n : Int)) = false := by simpa using hci
    rw [hc', cnd_false, leave1, RK_ret]
    refine hK _ _ hle ((ho.sl hcl).congr fun j hj => hrow j (by omega))
/-! ### What a part gives -/
/-- A function that reads a part of a blend. -/
def MeasOk (g : FuncId) : Prop := ∀ (m : CM) (w : WxR) (k : Int) (K : Value → CM → Prop) (Kp : List PanicEntry → CM → Prop), w.cv.In m → w.cv.Ok → (∀ m' (x : Int), m.le m' → K (.int .i64 x) m') → callw Try.prog g [.agg ⟨w.prow k⟩] m K Kp
theorem meas45 : MeasOk 45 := fun m w k K Kp hc ho hK => by
  apply c45
  unfold s45
  refine box_of fun t1 m1 hle1 hb1 ho1 => ?_
  replace ho1 : Own m1 t1 (w.prow k) 0 := ho1
  simp only [fz85_0, fz85_1, fz69_1, pop_some]
  rw [ldi ho1 (j := 7) rfl]
  simp only [pop_some]
  rw [ldi ho1 (j := 1) rfl]
  simp only [pop_some, cb_mul]
  rw [leave1, RK_ret]; exact hK _ _ hle1
theorem meas74 : MeasOk 74 := fun m w k K Kp hc ho hK => by
  apply c74
  unfold s74
  refine box_of fun t1 m1 hle1 hb1 ho1 => ?_
  replace ho1 : Own m1 t1 (w.prow k) 0 := ho1
  simp only [fz85_0, fz85_1, fz69_2, fa25_0, pop_some]
  rw [ldi ho1 (j := 7) rfl]
  simp only [pop_some]
  rw [ldi ho1 (j := 2) rfl]
  simp only [pop_some, cb_mul]
  rw [leave1, RK_ret]; exact hK _ _ hle1
theorem meas75 : MeasOk 75 := fun m w k K Kp hc ho hK => by
  apply c75
  unfold s75
  refine box_of fun t1 m1 hle1 hb1 ho1 => ?_
  replace ho1 : Own m1 t1 (w.prow k) 0 := ho1
  simp only [fz85_0, fz85_1, fz69_2, fa25_1, pop_some]
  rw [ldi ho1 (j := 7) rfl]
  simp only [pop_some]
  rw [ldi ho1 (j := 3) rfl]
  simp only [pop_some, cb_mul]
  rw [leave1, RK_ret]; exact hK _ _ hle1
theorem meas76 : MeasOk 76 := fun m w k K Kp hc ho hK => by
  apply c76
  unfold s76
  refine box_of fun t1 m1 hle1 hb1 ho1 => ?_
  replace ho1 : Own m1 t1 (w.prow k) 0 := ho1
  simp only [fz85_0, fz85_1, fz69_3, fa25_0, pop_some]
  rw [ldi ho1 (j := 7) rfl]
  simp only [pop_some]
  rw [ldi ho1 (j := 4) rfl]
  simp only [pop_some, cb_mul]
  rw [leave1, RK_ret]; exact hK _ _ hle1
theorem meas77 : MeasOk 77 := fun m w k K Kp hc ho hK => by
  apply c77
  unfold s77
  refine box_of fun t1 m1 hle1 hb1 ho1 => ?_
  replace ho1 : Own m1 t1 (w.prow k) 0 := ho1
  simp only [fz85_0, fz85_1, fz69_3, fa25_1, pop_some]
  rw [ldi ho1 (j := 7) rfl]
  simp only [pop_some]
  rw [ldi ho1 (j := 5) rfl]
  simp only [pop_some, cb_mul]
  rw [leave1, RK_ret]; exact hK _ _ hle1
theorem meas46 : MeasOk 46 := fun m w k K Kp hc ho hK => by
  apply c46
  unfold s46
  refine box_of fun t1 m1 hle1 hb1 ho1 => ?_
  replace ho1 : Own m1 t1 (w.prow k) 0 := ho1
  obtain ⟨qa, ql, qk, hq⟩ := hc.s.isS
  simp only [fz85_0, fz85_1, fz69_4, pop_some]
  rw [ho1.cel.z ag67 (j := 6) rfl]
  simp only [pop_some]
  rw [ldi ho1 (j := 7) rfl]
  simp only [pop_some]
  rw [show cbuild Try.prog 74 [(0, w.cv.v), (1, .int .i64 k)] = some (.agg ⟨[w.cv.v, .int .i64 k]⟩) by rw [hq]; exact hcb74 .., pop_some]
  refine add40 (hc.le hle1) ho fun m2 x hle2 => ?_
  rw [cb_mul, pop_some, leave1, RK_ret]; exact hK _ _ (hle1.trans hle2)
/-- A blend. -/
structure PtsIn (l : Wxs) (u : Value) (x : Nat → Int) (m : CM) : Prop where
  s : Sl 8 m u l.n (fun i => (l.w i).prow (x i))
  li : l.In m
  ok : l.Ok
theorem PtsIn.le {l : Wxs} {u : Value} {x : Nat → Int} {m m' : CM} (h : PtsIn l u x m) (k : m.le m') : PtsIn l u x m' := ⟨h.s.le k, h.li.le k, h.ok⟩
theorem whole44 {l : Wxs} {u : Value} {x : Nat → Int} {m : CM} (h : PtsIn l u x m) {g : FuncId} (hg : MeasOk g) {K : Value → CM → Prop} {Kp : List PanicEntry → CM → Prop} (hK : ∀ m' (x : Int), m.le m' → K (.int .i64 x) m') : callw Try.prog 44 [u, .func (.func g) ⟨[]⟩ ⟨[]⟩] m K Kp := by
  have hn5 := h.ok.n5
  apply c44
  unfold s44
  refine box_of fun t3 m1 hle1 hb1 ho1 => ?_
  replace ho1 : Own m1 t3 [.func (.func g) ⟨[]⟩ ⟨[]⟩] 0 := ho1
  refine sum_ok (fun h => c78 h) Try.underlying80 sz85 ag85 (by decide) ze85 rfl (by omega) (fun i hi => WxR.pone (h.li.c i hi)) (h.s.le hle1) (fun i m' K Kp hi hle hK => ?_) fun m2 y hle2 => ?_
  · show callw Try.prog 79 ([] ++ [.int .i64 i, .agg ⟨(l.w i).prow (x i)⟩] ++ [.pointer (some ⟨t3, 0, none⟩)]) m' _ _
    apply c79
    unfold s79
    refine box_of fun t4 m2 hle2 hb2 ho2 => ?_
    replace ho2 : Own m2 t4 ((l.w i).prow (x i)) 0 := ho2
    rw [((ho1.le hle).le hle2).cel.z ag83 (j := 0) rfl, pop_some, lda ho2 ag85 sz85, pop_some]
    show callw Try.prog g ([] ++ [.agg ⟨(l.w i).prow (x i)⟩] ++ []) m2 _ _
    refine hg m2 _ _ _ _ ((h.li.c i hi).le (hle1.trans (hle.trans hle2))) (h.ok.c i hi) fun m3 y hle3 => ?_
    rw [leave1, RK_ret]; exact hK _ _ (hle2.trans hle3)
  · rw [leave1, RK_ret]; exact hK _ _ (hle1.trans hle2)
theorem strange51 {l : Wxs} {m : CM} (hl : l.In m) {v : Value} {n : Nat} {x : Nat → Int} (hv : Sl 1 m v n (fun i => [.int .i64 (x i)])) (hn : n < 4611686018427387904) {K : Value → CM → Prop} {Kp : List PanicEntry → CM → Prop}
    (hK : ∀ m' (e : Int), m.le m' → (e = 0 → n = l.n ∧ ∀ j, j < n → 0 ≤ x j ∧ x j ≤ 20) → K (.int .i64 e) m') : callw Try.prog 51 [l.v, v] m K Kp := by
  apply c51
  unfold s51
  rw [hv.len Try.underlying28, pop_some, hl.s.len Try.underlying22, pop_some, cb_neq, pop_some]
  cases hb : ((n : Int) != (l.n : Int)) with
  | true => rw [cnd_true, leave1, RK_ret]; exact hK _ _ (.refl m) (fun h => absurd h (by decide))
  | false =>
  have hnl : n = l.n := by simp at hb; omega
  rw [cnd_false]
  refine out35 m v n x 0 20 _ _ hv hn fun m1 b hle1 h1 => ?_
  cases b with
  | true => rw [cnd_true, leave1, RK_ret]; exact hK _ _ hle1 (fun h => absurd h (by decide))
  | false =>
  rw [cnd_false]
  refine sumI_ok (fun h => c80 h) Try.underlying28 sz3 ag3 hn (hv.le hle1) (fun i m' K Kp hi hle hK => ?_) fun m2 y hle2 => ?_
  · show callw Try.prog 81 ([] ++ [.int .i64 i, .int .i64 (x i)] ++ []) m' _ _
    apply c81
    unfold s81
    rw [leave1, RK_ret]; exact hK _ _ (.refl m')
  · rw [cb_neq, pop_some]
    have hle := hle1.trans hle2
    cases (y != 20) with
    | true => rw [cnd_true, leave1, RK_ret]; exact hK _ _ hle (fun h => absurd h (by decide))
    | false => rw [cnd_false, leave1, RK_ret]; exact hK _ _ hle (fun _ => ⟨hnl, h1 rfl⟩)
theorem asked41 {l : Wxs} {m : CM} (hl : l.In m) {v : Value} {n : Nat} {x : Nat → Int} (hv : Sl 1 m v n (fun i => [.int .i64 (x i)])) (hn : n < 4611686018427387904) {K : Value → CM → Prop} {Kp : List PanicEntry → CM → Prop}
    (hK : ∀ m' (e : Int), m.le m' → (e = 0 → l.Ok ∧ n = l.n ∧ ∀ j, j < n → 0 ≤ x j ∧ x j ≤ 20) → K (.int .i64 e) m') : callw Try.prog 41 [l.v, v] m K Kp := by
  apply c41
  unfold s41
  refine check7 hl fun p a e m1 hle1 h1 => ?_
  simp only [cext, List.getElem?_cons_zero, List.getElem?_cons_succ, pop_some, cb_neq]
  cases hb : (e != 0) with
  | true => rw [cnd_true, leave1, RK_ret]; exact hK _ _ hle1 (fun h => by simp [h] at hb)
  | false =>
  rw [cnd_false]
  refine strange51 (hl.le hle1) (hv.le hle1) hn fun m2 e2 hle2 h2 => ?_
  rw [leave1, RK_ret]; exact hK _ _ (hle1.trans hle2) fun h => ⟨h1 (by simpa using hb), h2 h⟩
end Go.Proofs.Ytbgfkbdcpfngaaa.B
end

section
open Go Go.Proofs Go.Proofs.Ytbgfkbdcpfngaaa
set_option maxRecDepth 100000
namespace Go.Proofs.Ytbgfkbdcpfngaaa.B
abbrev fns : List Value := [.func (.func 74) ⟨[]⟩ ⟨[]⟩, .func (.func 75) ⟨[]⟩ ⟨[]⟩, .func (.func 76) ⟨[]⟩ ⟨[]⟩, .func (.func 77) ⟨[]⟩ ⟨[]⟩, .func (.func 46) ⟨[]⟩ ⟨[]⟩]
theorem hcb117 : cbuild Try.prog 117 [(0, .func (.func 74) ⟨[]⟩ ⟨[]⟩), (1, .func (.func 75) ⟨[]⟩ ⟨[]⟩), (2, .func (.func 76) ⟨[]⟩ ⟨[]⟩), (3, .func (.func 77) ⟨[]⟩ ⟨[]⟩), (4, .func (.func 46) ⟨[]⟩ ⟨[]⟩)] = some (.agg ⟨fns⟩) := by kernel_rfl
theorem cix117 : ∀ i : Nat, i < 5 → ∃ g, MeasOk g ∧ cindex Try.prog 117 (.agg ⟨fns⟩) (.int .i64 i) = some (.func (.func g) ⟨[]⟩ ⟨[]⟩)
  | 0, _ => ⟨74, meas74, by kernel_rfl⟩
  | 1, _ => ⟨75, meas75, by kernel_rfl⟩
  | 2, _ => ⟨76, meas76, by kernel_rfl⟩
  | 3, _ => ⟨77, meas77, by kernel_rfl⟩
  | 4, _ => ⟨46, meas46, by kernel_rfl⟩
  | n + 5, h => by omega
theorem cia116 (b : Nat) {i : Nat} (hi : i < 5) : cia Try.prog 116 (.pointer (some ⟨b, 0, none⟩)) (.int .i64 i) = some (.pointer (some ⟨b, i, none⟩)) := by
  have : (i : Int) < 5 := by omega
  simp [cia, Try.underlying116, sz3, this]
theorem ze116' : zeroL Try.prog 116 = some [.int .i64 0, .int .i64 0, .int .i64 0, .int .i64 0, .int .i64 0] := by kernel_rfl
theorem get_ints {c : List Value} (h : ∀ u ∈ c, ∃ k, u = .int .i64 k) {p : Nat} (hp : p < c.length) : ∃ k, c[p]? = some (.int .i64 k) := by
  obtain ⟨k, hk⟩ := h c[p] (List.getElem_mem hp)
  exact ⟨k, by rw [List.getElem?_eq_getElem hp, hk]⟩
set_option maxHeartbeats 1000000 in
theorem ends42 {l : Wxs} {u : Value} {x : Nat → Int} {m : CM} (h : PtsIn l u x m) {K : Value → CM → Prop} {Kp : List PanicEntry → CM → Prop}
    (hK : ∀ m' (a b c d : Int), m.le m' → K (.tuple ⟨[.agg ⟨[.int .i64 a, .int .i64 b]⟩, .agg ⟨[.int .i64 c, .int .i64 d]⟩]⟩) m') : callw Try.prog 42 [u] m K Kp := by
  apply c42
  unfold s42
  refine alw_of ze25 fun t2 m1 hle1 hb2 ho2 => alw_of ze25 fun t3 m2 hle2 hb3 ho3 => alw_of ze116' fun t4 m3 hle3 hb4 ho4 => ?_
  rw [hcb117, pop_some]
  have h21 := ho2.1
  have h31 := ho3.1
  have hn1 := hle1.1
  have hn2 := hle2.1
  have hle := (hle1.trans hle2).trans hle3
  replace ho2 := (ho2.le hle2).le hle3
  replace ho3 := ho3.le hle3
  have h23 : t2 ≠ t3 := by omega
  have h24 : t2 ≠ t4 := by omega
  have h34 : t3 ≠ t4 := by omega
  refine loopA_of (fun l0 ds m' => ds = [] ∧ m.le m' ∧ Own m' t2 [.int .i64 0, .int .i64 0] 0 ∧ Own m' t3 [.int .i64 0, .int .i64 0] 0 ∧ (∃ c, Own m' t4 c 0 ∧ c.length = 5 ∧ ∀ u ∈ c, ∃ k, u = .int .i64 k) ∧ ∃ i : Nat, i ≤ 5 ∧ l0 = [u, .pointer (some ⟨t2, 0, none⟩), .pointer (some ⟨t3, 0, none⟩), .pointer (some ⟨t4, 0, none⟩), .agg ⟨fns⟩, .int .i64 i])
    (fun l0 _ => match l0 with | [_, _, _, _, _, .int _ i] => 5 - i.toNat | _ => 0) ⟨rfl, hle, ho2, ho3, ⟨_, ho4, rfl, fun u hu => ⟨0, by simpa using hu⟩⟩, 0, by omega, rfl⟩ ?_
  clear ho2 ho3 ho4 hle hle3 hle2 hle1
  rintro X ρ ds m' ⟨rfl, hle, ho2, ho3, ⟨c, ho4, hcl, hci4⟩, i, hi, hll⟩ hX
  simp only [List.map_cons, List.map_nil, List.cons.injEq, and_true] at hll
  obtain ⟨q0, q2, q3, q4, q7, q8⟩ := hll
  simp only [q0, q2, q3, q4, q7, q8, cb_lss, pop_some]
  by_cases hci : i < 5
  · obtain ⟨g, hg, hix⟩ := cix117 i hci
    rw [show decide ((i : Int) < (5 : Int)) = true by simpa using (by omega : (i : Int) < 5), cnd_true, hix, pop_some]
    refine whole44 (h.le hle) hg fun m4 y hle4 => ?_
    rw [cia116 _ hci, pop_some]
    refine (ho4.le hle4).store (by simp [toL, sz3]) (by simp [toL]; omega) rfl fun m5 hn5 hx5 ho5 => ?_
    simp only [toL] at ho5
    rw [cb_add, pop_some, wrap_id (by omega) (by omega)]
    refine hX _ _ _ ⟨rfl, le_of_put (hle.trans hle4) (by omega) hn5 hx5, (ho2.le hle4).sub hn5 (hx5 _ h24), (ho3.le hle4).sub hn5 (hx5 _ h34), ⟨_, ho5, by rw [splice_at (by omega)]; exact hcl, fun u hu => ?_⟩, i + 1, by omega, by simp⟩ ?_
    · simp only [splice, List.mem_append, List.mem_cons, List.not_mem_nil, or_false] at hu
      rcases hu with (hu | hu) | hu
      · exact hci4 u (List.mem_of_mem_take hu)
      · exact ⟨_, hu⟩
      · exact hci4 u (List.mem_of_mem_drop hu)
    · simp only [List.map_cons, List.map_nil, q8]; omega
  · rw [show decide ((i : Int) < (5 : Int)) = false by simpa using (by omega : ¬ (i : Int) < 5), cnd_false]
    obtain ⟨k0, hk0⟩ := get_ints hci4 (p := 0) (by omega)
    obtain ⟨k1, hk1⟩ := get_ints hci4 (p := 1) (by omega)
    obtain ⟨k2, hk2⟩ := get_ints hci4 (p := 2) (by omega)
    obtain ⟨k3, hk3⟩ := get_ints hci4 (p := 3) (by omega)
    obtain ⟨k4, hk4⟩ := get_ints hci4 (p := 4) (by omega)
    have e0 : cia Try.prog 116 (.pointer (some ⟨t4, 0, none⟩)) (.int .i64 0) = some (.pointer (some ⟨t4, 0, none⟩)) := cia116 t4 (i := 0) (by omega)
    have e1 : cia Try.prog 116 (.pointer (some ⟨t4, 0, none⟩)) (.int .i64 1) = some (.pointer (some ⟨t4, 1, none⟩)) := cia116 t4 (i := 1) (by omega)
    have e2 : cia Try.prog 116 (.pointer (some ⟨t4, 0, none⟩)) (.int .i64 2) = some (.pointer (some ⟨t4, 2, none⟩)) := cia116 t4 (i := 2) (by omega)
    have e3 : cia Try.prog 116 (.pointer (some ⟨t4, 0, none⟩)) (.int .i64 3) = some (.pointer (some ⟨t4, 3, none⟩)) := cia116 t4 (i := 3) (by omega)
    have e4 : cia Try.prog 116 (.pointer (some ⟨t4, 0, none⟩)) (.int .i64 4) = some (.pointer (some ⟨t4, 4, none⟩)) := cia116 t4 (i := 4) (by omega)
    simp only [e0, e1, e2, e3, e4, pop_some, ldi ho4 hk0, ldi ho4 hk1, ldi ho4 hk2, ldi ho4 hk3, ldi ho4 hk4, cb_add, hcb25]
    refine lstw_own ho2.2 (by simp [toL, sz25]) (by simp [toL]) rfl ⟨⟨ho2.1, h24.symm, h24.symm, trivial⟩, (by simp), ?_⟩
    generalize hML : memL m' _ [(16, t2, _)] (fun _ => true) m'.next = ML
    rw [memL1 rfl (getJ0 ho2.2 rfl)] at hML
    have hMLx : ∀ x, x ≠ t2 → ML.get x = m'.get x := fun x hx => by subst hML; rw [CM.get_put, if_neg hx]; rfl
    have hMLn : ML.next = m'.next := by subst hML; rfl
    have o2 : Own ML t2 [.int .i64 (IntKind.i64.wrap (k0 + k4)), .int .i64 (IntKind.i64.wrap (k1 + k4))] 0 := ⟨by rw [hMLn]; exact ho2.1, by subst hML; rw [CM.get_put, if_pos rfl]; rfl⟩
    have o3 := ho3.sub hMLn (hMLx t3 h23.symm)
    clear hML
    refine store_own o3 (by simp [toL, sz25]) (by simp [toL]) rfl fun m5 hn5 hx5 o3 => ?_
    simp only [toL] at o3
    replace o2 := o2.sub hn5 (hx5 _ h23)
    refine leave_rvs (.c (lda o2 ag25 sz25) (.c (lda o3 ag25 sz25) .nil)) ?_
    show RK K Kp (.ret (.tuple ⟨[_, _]⟩)) m5
    rw [RK_ret]
    exact hK _ _ _ _ _ (le_of_put (le_of_put hle (by omega) hMLn hMLx) (by omega) hn5 hx5)
end Go.Proofs.Ytbgfkbdcpfngaaa.B
end

section
open Go Go.Proofs Go.Proofs.Ytbgfkbdcpfngaaa
set_option maxRecDepth 100000
namespace Go.Proofs.Ytbgfkbdcpfngaaa.B
/-! ### A wish -/
structure WiD where
  v : Value
  n : Nat
  lo : Nat → Int
  hi : Nat → Int
  a : Int
  b : Int
  c : Int
  d : Int
abbrev WiD.cells (w : WiD) : List Value := [w.v, .int .i64 w.a, .int .i64 w.b, .int .i64 w.c, .int .i64 w.d]
structure WiD.In (w : WiD) (m : CM) : Prop where
  s : Sl 2 m w.v w.n (fun j => [.int .i64 (w.lo j), .int .i64 (w.hi j)])
  n0 : w.n < 4611686018427387904
theorem WiD.In.le {w : WiD} {m m' : CM} (h : w.In m) (k : m.le m') : w.In m' := ⟨h.s.le k, h.n0⟩
theorem WiD.one {w : WiD} {m : CM} (h : w.In m) : w.cells.all Ytbgfkbdcpfngaaa.one = true := by
  have := h.s.one
  simp only [WiD.cells, List.all_cons, this, List.all_nil, Bool.and_true]; rfl
structure WiD.Ok (w : WiD) (n : Nat) : Prop where
  e : w.n = n
  r : ∀ j, j < n → (0 ≤ w.lo j ∧ w.lo j ≤ 20) ∧ 0 ≤ w.hi j ∧ w.hi j ≤ 20
def lp50 (R : CE → CM → Prop) (q8 q9 q62 q63 q64 : Value) (m : CM) : Prop :=
  loopA [8, 9, 62, 63, 64] (fun X1 ρ1 ds m => pop (cbin Try.prog BinOp.lss 3 (Operand.tmp 64) (Operand.tmp 63) (ρ1 64) (ρ1 63)) m (fun t65 m => cnd t65 (pop (cia Try.prog 23 (ρ1 62) (ρ1 64)) m (fun t66 m => pop (cload Try.prog 25 t66 m) m (fun t67 m => alw Try.prog 25 m (fun t11 m => sop (cstore Try.prog 25 t11 t67 m) (fun _ m => dgs (gb (ρ1 8) false) (fun K => pop (cfa Try.prog 25 0 t11) m (fun t70 _ => K t70)) (fun t70 => dgs (gb (ρ1 8) false) (fun K => pop (cload Try.prog 3 t70 m) m (fun t71 _ => K t71)) (fun t71 => dgs (gb (ρ1 8) false) (fun K => pop (cfa Try.prog 25 1 t11) m (fun t72 _ => K t72)) (fun t72 => dgs (gb (ρ1 8) false) (fun K => pop (cload Try.prog 3 t72 m) m (fun t73 _ => K t73)) (fun t73 => dgs (gb (ρ1 8) false) (fun K => pop (cbin Try.prog BinOp.gtr 3 (Operand.tmp 71) (Operand.tmp 73) t71 t73) m (fun t74 _ => K t74)) (fun t74 => pop (cpick (ρ1 8) (.bool true) t74) m (fun t75 _ => dgs (gb (ρ1 9) false) (fun K => pop (cfa Try.prog 25 0 t11) m (fun t78 _ => K t78)) (fun t78 => dgs (gb (ρ1 9) false) (fun K => pop (cload Try.prog 3 t78 m) m (fun t79 _ => K t79)) (fun t79 => dgs (gb (ρ1 9) false) (fun K => pop (cfa Try.prog 25 1 t11) m (fun t80 _ => K t80)) (fun t80 => dgs (gb (ρ1 9) false) (fun K => pop (cload Try.prog 3 t80 m) m (fun t81 _ => K t81)) (fun t81 => dgo (gb (ρ1 9) false) (fun K => vop (cbuildS Try.prog 28 2 [(0, t79), (1, t81)] m) (fun t82 m11_14 => m.le m11_14 ∧ K t82 (some m11_14) m11_14.next)) (fun t82 eo11_14 nx11_14 => dgo (gb (ρ1 9) false) (fun K => callw Try.prog 35 [(.int .i64 0), (.int .i64 20), t82] (memJ m [⟨(ρ1 8), m.next, none⟩, ⟨(ρ1 8), m.next, none⟩, ⟨t70, m.next, none⟩, ⟨t71, m.next, none⟩, ⟨t72, m.next, none⟩, ⟨t73, m.next, none⟩, ⟨t74, m.next, none⟩, ⟨t75, m.next, none⟩, ⟨(ρ1 9), m.next, none⟩, ⟨(ρ1 9), m.next, none⟩, ⟨t78, m.next, none⟩, ⟨t79, m.next, none⟩, ⟨t80, m.next, none⟩, ⟨t81, m.next, none⟩, ⟨t82, m.next, eo11_14⟩] (fun i => Nat.testBit 32515 i) nx11_14) (fun t83 m11_15 => (memJ m [⟨(ρ1 8), m.next, none⟩, ⟨(ρ1 8), m.next, none⟩, ⟨t70, m.next, none⟩, ⟨t71, m.next, none⟩, ⟨t72, m.next, none⟩, ⟨t73, m.next, none⟩, ⟨t74, m.next, none⟩, ⟨t75, m.next, none⟩, ⟨(ρ1 9), m.next, none⟩, ⟨(ρ1 9), m.next, none⟩, ⟨t78, m.next, none⟩, ⟨t79, m.next, none⟩, ⟨t80, m.next, none⟩, ⟨t81, m.next, none⟩, ⟨t82, m.next, eo11_14⟩] (fun i => Nat.testBit 32515 i) nx11_14).le m11_15 ∧ K t83 (some m11_15) m11_15.next) (fun _ _ => False)) (fun t83 eo11_15 nx11_15 => pop (cpick (ρ1 9) (.bool true) t83) (memJ m [⟨(ρ1 8), m.next, none⟩, ⟨(ρ1 8), m.next, none⟩, ⟨t70, m.next, none⟩, ⟨t71, m.next, none⟩, ⟨t72, m.next, none⟩, ⟨t73, m.next, none⟩, ⟨t74, m.next, none⟩, ⟨t75, m.next, none⟩, ⟨(ρ1 9), m.next, none⟩, ⟨(ρ1 9), m.next, none⟩, ⟨t78, m.next, none⟩, ⟨t79, m.next, none⟩, ⟨t80, m.next, none⟩, ⟨t81, m.next, none⟩, ⟨t82, m.next, eo11_14⟩, ⟨t83, nx11_14, eo11_15⟩] (fun i => Nat.testBit 65283 i) nx11_15) (fun t84 _ => pop (cbin Try.prog BinOp.add 3 (Operand.tmp 64) (Operand.const (Value.int IntKind.i64 1)) (ρ1 64) (.int .i64 1)) (memJ m [⟨(ρ1 8), m.next, none⟩, ⟨(ρ1 8), m.next, none⟩, ⟨t70, m.next, none⟩, ⟨t71, m.next, none⟩, ⟨t72, m.next, none⟩, ⟨t73, m.next, none⟩, ⟨t74, m.next, none⟩, ⟨t75, m.next, none⟩, ⟨(ρ1 9), m.next, none⟩, ⟨(ρ1 9), m.next, none⟩, ⟨t78, m.next, none⟩, ⟨t79, m.next, none⟩, ⟨t80, m.next, none⟩, ⟨t81, m.next, none⟩, ⟨t82, m.next, eo11_14⟩, ⟨t83, nx11_14, eo11_15⟩, ⟨t84, nx11_15, none⟩, ⟨t75, nx11_15, none⟩] (fun _ => true) nx11_15) (fun t85 m => X1 [t75, t84, (ρ1 62), (ρ1 63), t85] ds m))) nx11_14) m.next))))))))))))))) (cnd (ρ1 9) (leaveV Try.prog [.v (.int .i64 7)] ds .ret m R) (cnd (ρ1 8) (leaveV Try.prog [.v (.int .i64 2)] ds .ret m R) (leaveV Try.prog [.v (.int .i64 0)] ds .ret m R))))) [q8, q9, q62, q63, q64] [] m

theorem lp50_ok {w : WiD} {m : CM} (hw : w.In m) {T W : Bool} {K : Value → CM → Prop} {Kp : List PanicEntry → CM → Prop} (hK : ∀ m' (e : Int), m.le m' → (e = 0 → w.Ok w.n) → K (.int .i64 e) m') :
    lp50 (RK K Kp) (.bool T) (.bool W) w.v (.int .i64 w.n) (.int .i64 0) m := by
  have hn := hw.n0
  unfold lp50
  refine loopA_of (fun l0 ds m' => ds = [] ∧ m.le m' ∧ ∃ (i : Nat) (T W : Bool), i ≤ w.n ∧ (W = false → ∀ j, j < i → (0 ≤ w.lo j ∧ w.lo j ≤ 20) ∧ 0 ≤ w.hi j ∧ w.hi j ≤ 20) ∧ l0 = [.bool T, .bool W, w.v, .int .i64 w.n, .int .i64 i])
    (fun l0 _ => match l0 with | [_, _, _, _, .int _ i] => w.n - i.toNat | _ => 0) ⟨rfl, .refl m, 0, T, W, by omega, fun _ j hj => by omega, rfl⟩ ?_
  clear T W
  rintro X ρ ds m' ⟨rfl, hle, i, T, W, hi, hr, hll⟩ hX
  simp only [List.map_cons, List.map_nil, List.cons.injEq, and_true] at hll
  obtain ⟨q8, q9, q62, q63, q64⟩ := hll
  simp only [q8, q9, q62, q63, q64, cb_lss, pop_some]
  by_cases hci : i < w.n
  · have hc' : decide ((i : Int) < (w.n : Int)) = true := by simpa using hci
    obtain ⟨b, o, hia, hcel, hlen⟩ := (hw.s.le hle).at Try.underlying23 sz25 (i := i) (by omega) (by omega)
    simp only [Int.toNat_natCast] at hcel hlen
    rw [hc', cnd_true, hia, pop_some, hcel.elv ag25 sz25 hlen (by decide), pop_some]
    refine alw_of ze25 fun t11 m2 hle2 hb11 ho11 => store_own ho11 (by simp [toL, elv, sz25]) (by simp [toL, elv]) rfl fun m3 hn3 hx3 ho11 => ?_
    simp only [toL, elv] at ho11
    have hle3 := hle.trans (le_of_put hle2 hb11 hn3 hx3)
    have next : ∀ (M : CM) (T' W' : Bool), m.le M → (W' = false → ∀ j, j < i + 1 → (0 ≤ w.lo j ∧ w.lo j ≤ 20) ∧ 0 ≤ w.hi j ∧ w.hi j ≤ 20) → X [.bool T', .bool W', w.v, .int .i64 w.n, .int .i64 ((i + 1 : Nat) : Int)] [] M := fun M T' W' hM hr' =>
      hX _ _ _ ⟨rfl, hM, i + 1, T', W', by omega, hr', rfl⟩ (by simp only [List.map_cons, List.map_nil, q64]; omega)
    have hw1 : IntKind.i64.wrap ((i : Int) + 1) = ((i + 1 : Nat) : Int) := by rw [wrap_id (by omega) (by omega)]; simp
    cases T
    case' true => simp only [gb_bool, Bool.true_beq, dgs_false, cpick_bool, if_true, pop_some]
    case' false => simp only [gb_bool, beq_self_eq_true, dgs_true, fz25_0, fz25_1, pop_some, ldi ho11 (j := 0) rfl, ldi ho11 (j := 1) rfl, cb_gtr, cpick_bool, Bool.false_eq_true, if_false]
    all_goals
      cases W with
      | true =>
        simp only [Bool.true_beq, dgs_false, dgo_false, cpick_bool, if_true, pop_some, cb_add, hw1]
        exact next _ _ _ (hle3.trans (view0 (Nat.le_refl _) rfl)) (fun h => by cases h)
      | false =>
        simp only [beq_self_eq_true, dgs_true, dgo_true, fz25_0, fz25_1, pop_some, ldi ho11 (j := 0) rfl, ldi ho11 (j := 1) rfl]
        refine out_2J (fun t m1 h => view1 h (Nat.le_refl _) rfl) fun t m4 b4 m5 hle4 hle5 hle45 h4 => ⟨hle5, ?_⟩
        simp only [cpick_bool, Bool.false_eq_true, if_false, pop_some, cb_add, hw1]
        refine next _ _ _ ?_ (fun h j hj => ?_)
        · refine hle3.trans (memJ_le hle45.1 fun e he => ?_)
          have h2 := hle4.1; have h3 := hle5.1
          simp only [List.mem_cons, List.not_mem_nil, or_false] at he
          rcases he with rfl | rfl | rfl | rfl | rfl | rfl | rfl | rfl | rfl | rfl | rfl | rfl | rfl | rfl | rfl | rfl | rfl | rfl <;> first | exact Nat.le_refl _ | exact h2 | exact Nat.le_trans h2 h3
        · by_cases e : j = i
          · subst e; exact h4 h
          · exact hr rfl j (by omega)
  · have hc' : decide ((i : Int) < (w.n : Int)) = false := by simpa using hci
    have : i = w.n := by omega
    subst this
    rw [hc', cnd_false]
    cases W with
    | true => rw [cnd_true, leave1, RK_ret]; exact hK _ _ hle (fun h => absurd h (by decide))
    | false =>
      rw [cnd_false]
      cases T with
      | true => rw [cnd_true, leave1, RK_ret]; exact hK _ _ hle (fun h => absurd h (by decide))
      | false => rw [cnd_false, leave1, RK_ret]; exact hK _ _ hle (fun _ => ⟨rfl, hr rfl⟩)
end Go.Proofs.Ytbgfkbdcpfngaaa.B
end

section
open Go Go.Proofs Go.Proofs.Ytbgfkbdcpfngaaa
set_option maxRecDepth 100000
namespace Go.Proofs.Ytbgfkbdcpfngaaa.B
set_option maxHeartbeats 1000000 in
theorem odd50 {l : Wxs} {w : WiD} {m : CM} (hl : l.In m) (hw : w.In m) {K : Value → CM → Prop} {Kp : List PanicEntry → CM → Prop} (hK : ∀ m' (e : Int), m.le m' → (e = 0 → l.Ok ∧ w.Ok l.n) → K (.int .i64 e) m') :
    callw Try.prog 50 [l.v, .agg ⟨w.cells⟩] m K Kp := by
  apply c50
  unfold s50
  refine box_of fun t3 m1 hle1 hb1 ho1 => ?_
  replace ho1 : Own m1 t3 w.cells 0 := ho1
  refine check7 (hl.le hle1) fun p a e m2 hle2 h2 => ?_
  have hle := hle1.trans hle2
  replace ho1 := ho1.le hle2
  simp only [cext, List.getElem?_cons_zero, List.getElem?_cons_succ, pop_some, cb_neq]
  cases hb : (e != 0) with
  | true => rw [cnd_true, leave1, RK_ret]; exact hK _ _ hle (fun h => by simp [h] at hb)
  | false =>
  have hok := h2 (by simpa using hb)
  simp only [cnd_false, fz27_0, fz27_1, fz27_2, fa25_0, fa25_1, pop_some, Nat.reduceAdd]
  rw [ho1.cel.z ag23 (j := 0) rfl, pop_some, hw.s.len Try.underlying23, pop_some, hl.s.len Try.underlying22, pop_some, cb_neq, pop_some]
  cases hbn : ((w.n : Int) != (l.n : Int)) with
  | true => rw [cnd_true, leave1, RK_ret]; exact hK _ _ hle (fun h => absurd h (by decide))
  | false =>
  have hwn : w.n = l.n := by simp at hbn; omega
  rw [cnd_false, ldi ho1 (j := 1) rfl]
  simp only [pop_some]
  rw [ldi ho1 (j := 2) rfl]
  simp only [pop_some, cb_gtr]
  have fin : ∀ {m7 : CM} {T W : Bool}, m.le m7 → Own m7 t3 w.cells 0 → pop (cload Try.prog 23 (.pointer (some ⟨t3, 0, none⟩)) m7) m7 (fun t62 m => pop (clen Try.prog 23 t62 m) m (fun t63 m => lp50 (RK K Kp) (.bool T) (.bool W) t62 t63 (.int .i64 0) m)) := by
    intro m7 T W hle7 ho7
    rw [ho7.cel.z ag23 (j := 0) rfl, pop_some, hw.s.len Try.underlying23, pop_some]
    refine lp50_ok (hw.le hle7) fun m8 e hle8 he => hK _ _ (hle7.trans hle8) fun h => ⟨hok, by have := he h; rw [hwn] at this; exact this⟩
  cases decide (w.b < w.a)
  case' true => simp only [gb_bool, Bool.true_beq, gop_false, cpick_bool, if_true, pop_some]
  case' false => simp only [gb_bool, beq_self_eq_true, gop_true, ldi ho1 (j := 3) rfl, ldi ho1 (j := 4) rfl, fa25_0, fa25_1, Nat.reduceAdd, pop_some, cb_gtr, cpick_bool, Bool.false_eq_true, if_false]
  all_goals
    rw [ldi ho1 (j := 1) rfl]
    simp only [pop_some]
    rw [ldi ho1 (j := 2) rfl]
    simp only [pop_some]
    refine out_2 fun b3 m3 hle3 _ => ?_
    have hle' := hle.trans hle3
    have ho3 := ho1.le hle3
    cases b3 with
    | true =>
      simp only [gb_bool, Bool.true_beq, gop_false, cpick_bool, if_true, pop_some]
      exact fin hle' ho3
    | false =>
      simp only [gb_bool, beq_self_eq_true, gop_true, fa25_0, fa25_1, Nat.reduceAdd, pop_some]
      rw [ldi ho3 (j := 3) rfl]
      simp only [pop_some]
      rw [ldi ho3 (j := 4) rfl]
      simp only [pop_some]
      refine out_2 fun b4 m4 hle4 _ => ?_
      simp only [cpick_bool, Bool.false_eq_true, if_false, pop_some]
      exact fin (hle'.trans hle4) (ho3.le hle4)
theorem why52 {l : Wxs} {w : WiD} {m : CM} (hl : l.In m) (hok : l.Ok) (hw : w.In m) (hwk : w.n = l.n) {v : Value} {x : Nat → Int} (hv : Sl 1 m v l.n (fun i => [.int .i64 (x i)])) {K : Value → CM → Prop} {Kp : List PanicEntry → CM → Prop} (hK : ∀ m' (e : Int), m.le m' → K (.int .i64 e) m') :
    callw Try.prog 52 [l.v, .agg ⟨w.cells⟩, v] m K Kp := by
  have hn5 := hok.n5
  apply c52
  unfold s52
  refine box_of fun t4 m1 hle1 hb1 ho1 => ?_
  replace ho1 : Own m1 t4 w.cells 0 := ho1
  rw [hv.len Try.underlying28, pop_some]
  refine loopA_of (fun l0 ds m' => ds = [] ∧ m1.le m' ∧ ∃ i : Nat, i ≤ l.n ∧ l0 = [l.v, v, .pointer (some ⟨t4, 0, none⟩), .int .i64 0, v, .int .i64 l.n, .int .i64 i])
    (fun l0 _ => match l0 with | [_, _, _, _, _, _, .int _ i] => l.n - i.toNat | _ => 0) ⟨rfl, .refl m1, 0, by omega, rfl⟩ ?_
  rintro X ρ ds m' ⟨rfl, hle', i, hi, hll⟩ hX
  simp only [List.map_cons, List.map_nil, List.cons.injEq, and_true] at hll
  obtain ⟨q0, q2, q4, q6, q11, q12, q13⟩ := hll
  simp only [q0, q2, q4, q6, q11, q12, q13, cb_lss, pop_some]
  have hle := hle1.trans hle'
  replace ho1 := ho1.le hle'
  by_cases hci : i < l.n
  · have hc' : decide ((i : Int) < (l.n : Int)) = true := by simpa using hci
    obtain ⟨b, o, hia, hcel, hlen⟩ := (hv.le hle).at Try.underlying28 sz3 (i := i) (by omega) (by omega)
    obtain ⟨b2, o2, hia2, hcel2, hlen2⟩ := (hw.s.le hle).at Try.underlying23 sz25 (i := i) (by omega) (by omega)
    simp only [Int.toNat_natCast] at hcel hlen hcel2
    rw [hc', cnd_true, hia, pop_some, hcel.elv ag3 sz3 hlen (by decide)]
    simp only [pop_some, elv, fz27_0]
    rw [ho1.cel.z ag23 (j := 0) rfl]
    simp only [pop_some]
    rw [hia2]
    simp only [pop_some, fa25_0, fa25_1]
    rw [hcel2.s0 ag3 rfl]
    simp only [pop_some]
    rw [hcel2.s ag3 (j := 1) rfl]
    simp only [pop_some]
    refine out_1J (fun t m1 h => view1 h (Nat.le_refl _) rfl) fun t m4 b4 m5 hle4 hle5 hle45 h4 => ?_
    cases b4 with
    | true => rw [cnd_true, leave1, RK_ret]; exact hK _ _ (hle.trans hle45)
    | false =>
      rw [cnd_false, cb_add, pop_some, wrap_id (by omega) (by omega)]
      refine hX _ _ _ ⟨rfl, hle'.trans hle45, i + 1, by omega, by simp⟩ ?_
      simp only [List.map_cons, List.map_nil, q13]; omega
  · have hc' : decide ((i : Int) < (l.n : Int)) = false := by simpa using hci
    rw [hc', cnd_false]
    refine blend43 (hl.le hle) hok (hv.le hle) (Nat.le_refl _) fun m2 u hle2 hu => ?_
    refine ends42 (l := l) (x := x) ⟨hu, hl.le (hle.trans hle2), hok⟩ fun m3 a b c d hle3 => ?_
    simp only [cext, List.getElem?_cons_zero, List.getElem?_cons_succ, pop_some]
    refine alw_of ze25 fun t9 m4 hle4 hb9 ho9 => alw_of ze25 fun t10 m5 hle5 hb10 ho10 => ?_
    have h91 := ho9.1
    have ho9' := ho9.le hle5
    refine store_own ho9' (by simp [toL, sz25]) (by simp [toL]) rfl fun m6 hn6 hx6 ho9 => store_own (ho10.sub hn6 (hx6 _ (by omega))) (by simp [toL, sz25]) (by simp [toL]) rfl fun m7 hn7 hx7 ho10 => ?_
    simp only [toL] at ho9 ho10
    replace ho9 := ho9.sub hn7 (hx7 _ (by omega))
    have h1n := hle1.1; have h2n := hle2.1; have h3n := hle3.1; have h4n := hle4.1; have h5n := hle5.1; have hln := hle'.1
    have hle57 : m3.le m7 := le_of_put (le_of_put (hle4.trans hle5) (by omega) hn6 hx6) (by omega) hn7 hx7
    have hle7 : m.le m7 := ((hle.trans hle2).trans hle3).trans hle57
    replace ho1 := ho1.le ((hle2.trans hle3).trans hle57)
    have out : ∀ e : Int, leaveV Try.prog [.v (.int .i64 e)] [] .ret m7 (RK K Kp) := fun e => by rw [leave1, RK_ret]; exact hK _ _ hle7
    simp only [fz25_0, fz25_1, fz27_1, fz27_2, fa25_0, fa25_1, Nat.reduceAdd, pop_some, ldi ho9 (j := 0) rfl, ldi ho9 (j := 1) rfl, ldi ho10 (j := 0) rfl, ldi ho10 (j := 1) rfl, ldi ho1 (j := 1) rfl, ldi ho1 (j := 2) rfl, ldi ho1 (j := 3) rfl, ldi ho1 (j := 4) rfl, cb_mul, cb_lss, cb_gtr, gb_bool]
    cases decide (a < IntKind.i64.wrap (20 * w.a)) with
    | true => rw [cnd_true]; exact out _
    | false =>
    rw [cnd_false]
    cases decide (IntKind.i64.wrap (20 * w.b) < b) with
    | true => rw [cnd_true]; exact out _
    | false =>
    rw [cnd_false]
    cases decide (c < IntKind.i64.wrap (20 * w.c)) with
    | true => simp only [gb_bool, Bool.true_beq, gop_false, cpick_bool, if_true, pop_some, cnd_true]; exact out _
    | false =>
      simp only [gb_bool, beq_self_eq_true, gop_true, pop_some, cpick_bool, Bool.false_eq_true, if_false, fa25_0, fa25_1, Nat.reduceAdd, ldi ho10 (j := 1) rfl, ldi ho1 (j := 4) rfl, cb_mul, cb_gtr]
      cases decide (IntKind.i64.wrap (20 * w.d) < d) with
      | true => rw [cnd_true]; exact out _
      | false => rw [cnd_false]; exact out _
end Go.Proofs.Ytbgfkbdcpfngaaa.B
end

section
open Go Go.Proofs Go.Proofs.Ytbgfkbdcpfngaaa
set_option maxRecDepth 100000
namespace Go.Proofs.Ytbgfkbdcpfngaaa.B
theorem Raise12 {l : Wxs} {m : CM} (hl : l.In m) {i p : Int} {K : Value → CM → Prop} {Kp : List PanicEntry → CM → Prop} (hK : ∀ m' (a e : Int), m.le m' → K (.tuple ⟨[.int .i64 a, .int .i64 e]⟩) m') : callw Try.prog 12 [l.v, .int .i64 i, .int .i64 p] m K Kp := by
  have hn := hl.n0
  apply c12
  unfold s12
  refine check7 hl fun q a e m1 hle1 h1 => ?_
  simp only [cext, List.getElem?_cons_zero, List.getElem?_cons_succ, pop_some, cb_neq]
  cases hb : (e != 0) with
  | true => rw [cnd_true, leave2, RK_ret]; exact hK _ _ _ hle1
  | false =>
  have hok := h1 (by simpa using hb)
  have hn5 := hok.n5
  rw [cnd_false, hl.s.len Try.underlying22, pop_some, cb_sub, pop_some, wrap_id (by omega) (by omega)]
  refine out_1 fun b2 m2 hle2 h2 => ?_
  have hle := hle1.trans hle2
  cases b2 with
  | true => rw [cnd_true, leave2, RK_ret]; exact hK _ _ _ hle
  | false =>
  have h2' := h2 rfl
  rw [cnd_false]
  refine out_1 fun b3 m3 hle3 h3 => ?_
  replace hle := hle.trans hle3
  cases b3 with
  | true => rw [cnd_true, leave2, RK_ret]; exact hK _ _ _ hle
  | false =>
  obtain ⟨b, o, hia, hcel, hlen⟩ := (hl.s.le hle).at Try.underlying22 sz69 (i := i) (by omega) (by omega)
  have hcv := (hl.c i.toNat (by omega)).le hle
  obtain ⟨qa, ql, qk, hq⟩ := hcv.s.isS
  rw [cnd_false, hia]
  simp only [pop_some, fa69_4]
  rw [hcel.s ag67 (j := 6) rfl]
  simp only [pop_some]
  rw [show cbuild Try.prog 74 [(0, (l.w i.toNat).cv.v), (1, .int .i64 p)] = some (.agg ⟨[(l.w i.toNat).cv.v, .int .i64 p]⟩) by rw [hq]; exact hcb74 .., pop_some]
  refine add40 hcv (hok.c i.toNat (by omega)) fun m4 x hle4 => ?_
  rw [leave2, RK_ret]; exact hK _ _ _ (hle.trans hle4)
theorem Fits19 {l : Wxs} {w : WiD} {m : CM} (hl : l.In m) (hw : w.In m) {v : Value} {n : Nat} {x : Nat → Int} (hv : Sl 1 m v n (fun i => [.int .i64 (x i)])) (hn : n < 4611686018427387904) {K : Value → CM → Prop} {Kp : List PanicEntry → CM → Prop} (hK : ∀ m' (a e : Int), m.le m' → K (.tuple ⟨[.int .i64 a, .int .i64 e]⟩) m') :
    callw Try.prog 19 [l.v, .agg ⟨w.cells⟩, v] m K Kp := by
  apply c19
  unfold s19
  refine box_of fun t4 m1 hle1 hb1 ho1 => ?_
  replace ho1 : Own m1 t4 w.cells 0 := ho1
  rw [lda ho1 ag27 sz27, pop_some]
  refine odd50 (hl.le hle1) (hw.le hle1) fun m2 e hle2 h2 => ?_
  have hle := hle1.trans hle2
  rw [cb_neq, pop_some]
  cases hb : (e != 0) with
  | true => rw [cnd_true, leave2, RK_ret]; exact hK _ _ _ hle
  | false =>
  obtain ⟨hok, hwo⟩ := h2 (by simpa using hb)
  rw [cnd_false]
  refine strange51 (hl.le hle) (hv.le hle) hn fun m3 e3 hle3 h3 => ?_
  replace hle := hle.trans hle3
  rw [cb_neq, pop_some]
  cases hb3 : (e3 != 0) with
  | true => rw [cnd_true, leave2, RK_ret]; exact hK _ _ _ hle
  | false =>
  obtain ⟨hnl, hx⟩ := h3 (by simpa using hb3)
  subst hnl
  rw [cnd_false, lda ((ho1.le hle2).le hle3) ag27 sz27, pop_some]
  refine why52 (hl.le hle) hok (hw.le hle) hwo.e (hv.le hle) fun m4 r hle4 => ?_
  rw [leave2, RK_ret]; exact hK _ _ _ (hle.trans hle4)
theorem Weigh28 {l : Wxs} {m : CM} (hl : l.In m) {v : Value} {n : Nat} {x : Nat → Int} (hv : Sl 1 m v n (fun i => [.int .i64 (x i)])) (hn : n < 4611686018427387904) {g : Int} {K : Value → CM → Prop} {Kp : List PanicEntry → CM → Prop} (hK : ∀ m' u (e : Int), m.le m' → ResV 1 m m' u → K (.tuple ⟨[u, .int .i64 e]⟩) m') :
    callw Try.prog 28 [l.v, v, .int .i64 g] m K Kp := by
  apply c28
  unfold s28
  refine asked41 hl hv hn fun m1 e hle1 h1 => ?_
  rw [cb_neq, pop_some]
  cases hb : (e != 0) with
  | true => rw [cnd_true, leave2, RK_ret]; exact hK _ _ _ hle1 .nil
  | false =>
  obtain ⟨hok, hnl, hx⟩ := h1 (by simpa using hb)
  have hn5 := hok.n5
  rw [cnd_false]
  refine out_1 fun b2 m2 hle2 h2 => ?_
  have hle := hle1.trans hle2
  cases b2 with
  | true => rw [cnd_true, leave2, RK_ret]; exact hK _ _ _ hle .nil
  | false =>
  rw [cnd_false, hv.len Try.underlying28, pop_some]
  refine loopA_of (fun l0 ds m' => ds = [] ∧ m.le m' ∧ ∃ (i : Nat) (p : Int) (u : Value) (bn : Option Nat) (cs : List Value), i ≤ n ∧ HV m' u bn cs ∧ (∀ y, bn = some y → m.next ≤ y) ∧ cs.length = i ∧ (∀ z ∈ cs, ∃ k, z = .int .i64 k) ∧ l0 = [.int .i64 g, u, .int .i64 p, v, .int .i64 n, .int .i64 i])
    (fun l0 _ => match l0 with | [_, _, _, _, _, .int _ i] => n - i.toNat | _ => 0) ⟨rfl, hle, 0, 0, _, none, [], by omega, .nil, (by simp), rfl, (by simp), rfl⟩ ?_
  rintro X ρ ds m' ⟨rfl, hle, i, p, u, bn, cs, hi, hu, hbn, hcl, hin, hll⟩ hX
  simp only [List.map_cons, List.map_nil, List.cons.injEq, and_true] at hll
  obtain ⟨q2, q6, q8, q21, q22, q23⟩ := hll
  simp only [q2, q6, q8, q21, q22, q23, cb_lss, pop_some]
  by_cases hci : i < n
  · have hc' : decide ((i : Int) < (n : Int)) = true := by simpa using hci
    obtain ⟨b, o, hia, hcel, hlen⟩ := (hv.le hle).at Try.underlying28 sz3 (i := i) (by omega) (by omega)
    simp only [Int.toNat_natCast] at hcel hlen
    have hlim : (100 : Nat) ≤ lim := by decide
    rw [hc', cnd_true, hia, pop_some, hcel.elv ag3 sz3 hlen (by decide), pop_some, cb_mul, pop_some, cb_quo (by decide), pop_some]
    simp only [elv, List.headD_cons, cb_add, pop_some, cb_mul]
    rw [cb_quo (by decide)]
    simp only [pop_some, cb_sub]
    refine app1 Try.underlying28 sz3 ze3 ap28 by3 (by decide) (by decide) hu rfl (by omega) fun b' m3 hb' hn3 hg3 ho3 => ?_
    rw [wrap_id (n := (i : Int) + 1) (by omega) (by omega)]
    have h1n := hle.1
    refine hX _ _ _ ⟨rfl, ⟨by omega, fun y hy => by rw [hg3 y (by omega) (fun e => by have := hbn y e; omega)]; exact hle.2 y hy⟩, i + 1, _, _, some b', _, by omega, .blk ho3, fun y e => by cases e; omega, by simp; omega, fun z hz => ?_, by simp; rfl⟩ ?_
    · rcases List.mem_append.1 hz with hz | hz
      · exact hin z hz
      · simp at hz; exact ⟨_, hz⟩
    · simp only [List.map_cons, List.map_nil, q23]; omega
  · have hc' : decide ((i : Int) < (n : Int)) = false := by simpa using hci
    rw [hc', cnd_false, leave2, RK_ret]
    refine hK _ _ _ hle ⟨bn, cs, cs.length, ?_, hbn, by omega, hin⟩
    cases hu with
    | nil => exact .nil
    | blk ho => exact .blk ho (by simp)
end Go.Proofs.Ytbgfkbdcpfngaaa.B
end

section
open Go Go.Proofs Go.Proofs.Ytbgfkbdcpfngaaa
set_option maxRecDepth 100000
namespace Go.Proofs.Ytbgfkbdcpfngaaa.B
set_option maxHeartbeats 1000000 in
theorem Value14 {l : Wxs} {m : CM} (hl : l.In m) {v : Value} {n : Nat} {x : Nat → Int} (hv : Sl 1 m v n (fun i => [.int .i64 (x i)])) (hn : n < 4611686018427387904) {K : Value → CM → Prop} {Kp : List PanicEntry → CM → Prop}
    (hK : ∀ m' (a b c d p e : Int), m.le m' → K (.tuple ⟨[.agg ⟨[.int .i64 a, .int .i64 b]⟩, .agg ⟨[.int .i64 c, .int .i64 d]⟩, .int .i64 p, .int .i64 e]⟩) m') : callw Try.prog 14 [l.v, v] m K Kp := by
  apply c14
  unfold s14
  refine alw_of ze25 fun t4 m1 hle1 hb4 ho4 => alw_of ze25 fun t5 m2 hle2 hb5 ho5 => ?_
  have h41 := ho4.1
  have h1n := hle1.1
  have h45 : t4 ≠ t5 := by omega
  have hle := hle1.trans hle2
  replace ho4 := ho4.le hle2
  refine asked41 (hl.le hle) (hv.le hle) hn fun m3 e hle3 h3 => ?_
  replace ho4 := ho4.le hle3
  replace ho5 := ho5.le hle3
  replace hle := hle.trans hle3
  have fin : ∀ {M : CM} {a b c d p e : Int}, m.le M → Own M t4 [.int .i64 a, .int .i64 b] 0 → Own M t5 [.int .i64 c, .int .i64 d] 0 → leaveV Try.prog [.c 25 (.pointer (some ⟨t4, 0, none⟩)), .c 25 (.pointer (some ⟨t5, 0, none⟩)), .v (.int .i64 p), .v (.int .i64 e)] [] .ret M (RK K Kp) := by
    intro M a b c d p e hM o4 o5
    refine leave_rvs (.c (lda o4 ag25 sz25) (.c (lda o5 ag25 sz25) (.v (.v .nil)))) ?_
    show RK K Kp (.ret (.tuple ⟨[_, _, _, _]⟩)) M
    rw [RK_ret]; exact hK _ _ _ _ _ _ _ hM
  rw [cb_neq, pop_some]
  cases hb : (e != 0) with
  | true =>
    rw [cnd_true, lda ho4 ag25 sz25, pop_some, lda ho5 ag25 sz25, pop_some]
    refine lstw_own ho4.2 (by simp [toL, sz25]) (by simp [toL]) rfl ⟨⟨ho4.1, h45.symm, trivial⟩, (by simp), ?_⟩
    rw [memL1 (sel := fun i => Nat.testBit 11 i) rfl (getJ0 ho4.2 rfl)]
    refine lstw_own (c := [.int .i64 0, .int .i64 0]) (e := 0) (by rw [CM.get_put, if_neg h45.symm]; exact getJ0 ho5.2 rfl) (by simp [toL, sz25]) (by simp [toL]) rfl ⟨⟨ho5.1, trivial⟩, (by simpa using h45), ?_⟩
    generalize hML : memL m3 _ [(3, t4, _), (4, t5, _)] (fun _ => true) m3.next = ML
    rw [memL2 (by rfl) (by rfl) (getJ0 ho4.2 (by rfl)) (getJ0 ho5.2 (by rfl)) h45.symm] at hML
    have hMLx : ∀ x, x ≠ t4 → x ≠ t5 → ML.get x = m3.get x := fun x h1 h2 => by subst hML; rw [CM.get_put, if_neg h2, CM.get_put, if_neg h1]; rfl
    have hMLn : ML.next = m3.next := by subst hML; rfl
    have o4 : Own ML t4 [.int .i64 0, .int .i64 0] 0 := ⟨by rw [hMLn]; exact ho4.1, by subst hML; rw [CM.get_put, if_neg h45, CM.get_put, if_pos rfl]; rfl⟩
    have o5 : Own ML t5 [.int .i64 0, .int .i64 0] 0 := ⟨by rw [hMLn]; exact ho5.1, by subst hML; rw [CM.get_put, if_pos rfl]; rfl⟩
    exact fin ⟨by rw [hMLn]; exact hle.1, fun y hy => by rw [hMLx y (by omega) (by omega)]; exact hle.2 y hy⟩ o4 o5
  | false =>
  obtain ⟨hok, hnl, hx⟩ := h3 (by simpa using hb)
  subst hnl
  rw [cnd_false]
  refine blend43 (hl.le hle) hok (hv.le hle) (Nat.le_refl _) fun m4 u hle4 hu => ?_
  refine ends42 (l := l) (x := x) ⟨hu, hl.le (hle.trans hle4), hok⟩ fun m5 a b c d hle5 => ?_
  replace ho4 := (ho4.le hle4).le hle5
  replace ho5 := (ho5.le hle4).le hle5
  replace hle := (hle.trans hle4).trans hle5
  simp only [cext, List.getElem?_cons_zero, List.getElem?_cons_succ, pop_some]
  refine store_own ho4 (by simp [toL, sz25]) (by simp [toL]) rfl fun m6 hn6 hx6 ho4 => store_own (ho5.sub hn6 (hx6 _ h45.symm)) (by simp [toL, sz25]) (by simp [toL]) rfl fun m7 hn7 hx7 ho5 => ?_
  simp only [toL] at ho4 ho5
  replace ho4 := ho4.sub hn7 (hx7 _ h45)
  have hle7 : m.le m7 := le_of_put (le_of_put hle (by omega) hn6 hx6) (by omega) hn7 hx7
  rw [lda ho4 ag25 sz25, pop_some, lda ho5 ag25 sz25, pop_some]
  refine blend43 (hl.le hle7) hok (hv.le hle7) (Nat.le_refl _) fun m8 u' hle8 hu' => ⟨hle8, ?_⟩
  have hV1 : m8.le (memJ m7 [⟨.agg ⟨[.int .i64 a, .int .i64 b]⟩, m7.next, none⟩, ⟨.agg ⟨[.int .i64 c, .int .i64 d]⟩, m7.next, none⟩, ⟨l.v, m7.next, none⟩, ⟨v, m7.next, none⟩, ⟨u', m7.next, some m8⟩] (fun i => Nat.testBit 28 i) m8.next) := view1 hle8 (Nat.le_refl _) rfl
  refine whole44 (l := l) (x := x) ⟨hu'.le hV1, hl.le ((hle7.trans hle8).trans hV1), hok⟩ meas45 fun m9 p hle9 => ⟨hle9, ?_⟩
  have h9n := hle9.1
  have h8n := hle8.1
  have h9n' : m8.next ≤ m9.next := h9n
  have o4 := (ho4.le hle8)
  have o5 := (ho5.le hle8)
  refine lstw_own (o4.viewS1 hle8 h9n' rfl).2 (by simp [toL, sz25]) (by simp [toL]) rfl ⟨⟨ho4.1, h45.symm, trivial⟩, (by simp), ?_⟩
  generalize hML : memL m7 _ [(6, t4, _)] (fun _ => true) m9.next = ML
  rw [memL1 rfl (o4.viewS1 hle8 h9n' rfl).2] at hML
  have hMLn : ML.next = m9.next := by subst hML; rfl
  have hMLe : m7.le ML := ⟨by omega, fun y hy => by
    by_cases e : y = t4
    · subst e; subst hML; rw [CM.get_put, if_pos rfl, ho4.2]; rfl
    · subst hML; rw [CM.get_put, if_neg e, (viewS hle8 h9n' rfl).1.2 y (by omega)]; exact hle8.2 y hy⟩
  refine store_own (ho5.le hMLe) (by simp [toL, sz25]) (by simp [toL]) rfl fun mA hnA hxA ho5 => ?_
  simp only [toL] at ho5
  exact fin (le_of_put (hle7.trans hMLe) (by omega) hnA hxA) ((ho4.le hMLe).sub hnA (hxA _ h45)) ho5
end Go.Proofs.Ytbgfkbdcpfngaaa.B
end

section
open Go Go.Proofs Go.Proofs.Ytbgfkbdcpfngaaa
set_option maxRecDepth 100000
namespace Go.Proofs.Ytbgfkbdcpfngaaa.B
structure LotD where
  v : Value
  n : Nat
  a : Nat → Int
  b : Nat → Int
structure LotD.In (d : LotD) (m : CM) : Prop where
  s : Sl 2 m d.v d.n (fun j => [.int .i64 (d.a j), .int .i64 (d.b j)])
  n0 : d.n < 4611686018427387904
theorem LotD.In.le {d : LotD} {m m' : CM} (h : d.In m) (k : m.le m') : d.In m' := ⟨h.s.le k, h.n0⟩
theorem lot48 {m : CM} {v : Value} {n t4 : Nat} {x : Nat → Int} (hv : Sl 1 m v n (fun i => [.int .i64 (x i)])) (ho : Own m t4 [v] 0) {i : Nat} (hi : i < n) {a b : Int} {K : Value → CM → Prop} {Kp : List PanicEntry → CM → Prop} (hK : ∀ m' (c : Int), m.le m' → K (.int .i64 c) m') :
    callw Try.prog 48 [.int .i64 i, .agg ⟨[.int .i64 a, .int .i64 b]⟩, .pointer (some ⟨t4, 0, none⟩)] m K Kp := by
  apply c48
  unfold s48
  refine box_of fun t m1 hle1 hb1 ho1 => ?_
  simp only [toL] at ho1
  obtain ⟨b, o, hia, hcel, hlen⟩ := (hv.le hle1).at Try.underlying28 sz3 (i := i) (by omega) (by omega)
  rw [(ho.le hle1).cel.z ag28 (j := 0) rfl]
  simp only [pop_some]
  rw [hia]
  simp only [pop_some, fz87_0]
  rw [hcel.s0 ag3 rfl]
  simp only [pop_some]
  rw [ldi ho1 (j := 0) rfl]
  simp only [pop_some, cb_mul]
  rw [leave1, RK_ret]; exact hK _ _ hle1
theorem lot49 {m : CM} {v : Value} {n t4 : Nat} {x : Nat → Int} (hv : Sl 1 m v n (fun i => [.int .i64 (x i)])) (ho : Own m t4 [v] 0) {i : Nat} (hi : i < n) {a b : Int} {K : Value → CM → Prop} {Kp : List PanicEntry → CM → Prop} (hK : ∀ m' (c : Int), m.le m' → K (.int .i64 c) m') :
    callw Try.prog 49 [.int .i64 i, .agg ⟨[.int .i64 a, .int .i64 b]⟩, .pointer (some ⟨t4, 0, none⟩)] m K Kp := by
  apply c49
  unfold s49
  refine box_of fun t m1 hle1 hb1 ho1 => ?_
  simp only [toL] at ho1
  obtain ⟨b, o, hia, hcel, hlen⟩ := (hv.le hle1).at Try.underlying28 sz3 (i := i) (by omega) (by omega)
  rw [(ho.le hle1).cel.z ag28 (j := 0) rfl]
  simp only [pop_some]
  rw [hia]
  simp only [pop_some, fz87_1]
  rw [hcel.s0 ag3 rfl]
  simp only [pop_some]
  rw [ldi ho1 (j := 1) rfl]
  simp only [pop_some, cb_mul]
  rw [leave1, RK_ret]; exact hK _ _ hle1
set_option maxHeartbeats 1000000 in
theorem Made17 {l : Wxs} {d : LotD} {m : CM} (hl : l.In m) (hd : d.In m) {v : Value} {n : Nat} {x : Nat → Int} (hv : Sl 1 m v n (fun i => [.int .i64 (x i)])) (hn : n < 4611686018427387904) {K : Value → CM → Prop} {Kp : List PanicEntry → CM → Prop}
    (hK : ∀ m' (a b e : Int), m.le m' → K (.tuple ⟨[.int .i64 a, .int .i64 b, .int .i64 e]⟩) m') : callw Try.prog 17 [l.v, v, d.v] m K Kp := by
  apply c17
  unfold s17
  refine box_of fun t4 m1 hle1 hb1 ho1 => ?_
  obtain ⟨va, vl, vk, hvv⟩ := hv.isS
  have ho1 : Own m1 t4 [v] 0 := by subst hvv; exact ho1
  rw [ho1.cel.z ag28 (j := 0) rfl, pop_some]
  refine asked41 (hl.le hle1) (hv.le hle1) hn fun m2 e hle2 h2 => ?_
  have hle := hle1.trans hle2
  replace ho1 := ho1.le hle2
  rw [cb_neq, pop_some]
  cases hb : (e != 0) with
  | true => rw [cnd_true, leave3, RK_ret]; exact hK _ _ _ _ hle
  | false =>
  obtain ⟨hok, hnl, hx⟩ := h2 (by simpa using hb)
  subst hnl
  have hn5 := hok.n5
  rw [cnd_false, hd.s.len Try.underlying29, pop_some, hl.s.len Try.underlying22, pop_some, cb_neq, pop_some]
  cases hbn : ((d.n : Int) != (l.n : Int)) with
  | true => rw [cnd_true, leave3, RK_ret]; exact hK _ _ _ _ hle
  | false =>
  have hdn : d.n = l.n := by simp at hbn; omega
  rw [cnd_false, hd.s.len Try.underlying29, pop_some]
  refine loopA_of (fun l0 ds m' => ds = [] ∧ m2.le m' ∧ ∃ i : Nat, i ≤ d.n ∧ l0 = [l.v, d.v, .pointer (some ⟨t4, 0, none⟩), .int .i64 0, .int .i64 0, .int .i64 e, d.v, .int .i64 d.n, .int .i64 i])
    (fun l0 _ => match l0 with | [_, _, _, _, _, _, _, _, .int _ i] => d.n - i.toNat | _ => 0) ⟨rfl, .refl m2, 0, by omega, rfl⟩ ?_
  rintro X ρ ds m' ⟨rfl, hle', i, hi, hll⟩ hX
  simp only [List.map_cons, List.map_nil, List.cons.injEq, and_true] at hll
  obtain ⟨q0, q2, q4, q6, q7, q8, q22, q23, q24⟩ := hll
  simp only [q0, q2, q4, q6, q7, q8, q22, q23, q24, cb_lss, pop_some]
  replace hle := hle.trans hle'
  replace ho1 := ho1.le hle'
  by_cases hci : i < d.n
  · have hc' : decide ((i : Int) < (d.n : Int)) = true := by simpa using hci
    obtain ⟨b, o, hia, hcel, hlen⟩ := (hd.s.le hle).at Try.underlying29 sz87 (i := i) (by omega) (by omega)
    obtain ⟨b2, o2, hia2, hcel2, hlen2⟩ := (hl.s.le hle).at Try.underlying22 sz69 (i := i) (by omega) (by omega)
    simp only [Int.toNat_natCast] at hcel hlen hcel2 hlen2
    rw [hc', cnd_true, hia, pop_some, hcel.elv ag87 sz87 hlen (by decide), pop_some]
    refine alw_of ze87 fun t10 m3 hle3 hb10 ho10 => store_own ho10 (by simp [toL, elv, sz87]) (by simp [toL, elv]) rfl fun m4 hn4 hx4 ho10 => ?_
    simp only [toL, elv] at ho10
    have hle4 := le_of_put hle3 hb10 hn4 hx4
    replace hcel2 := hcel2.le hle4
    rw [hia2]
    simp only [pop_some, fa69_2, fa25_0, fa25_1, Nat.add_assoc, Nat.reduceAdd, fz87_0]
    rw [hcel2.s ag3 (j := 2) rfl]
    simp only [pop_some]
    rw [hcel2.s ag3 (j := 3) rfl]
    simp only [pop_some]
    rw [ldi ho10 (j := 0) rfl]
    simp only [pop_some]
    refine out_1J (fun t m1 h => view1 h (Nat.le_refl _) rfl) fun t m5 b5 m6 hle5 hle6 hle56 h5 => ⟨hle6, ?_⟩
    have h6n : m5.next ≤ m6.next := hle6.1
    have hV : ∀ (E : List Ent) (sel : Nat → Bool), (memJ m4 E sel m6.next).t = ((m4.over m4.next (m5.next - m4.next) m5).over m5.next (m6.next - m5.next) m6).t → m4.le (memJ m4 E sel m6.next) := fun E sel h => hle5.trans (viewS hle5 h6n h).1
    cases b5 with
    | true =>
      simp only [gb_bool, Bool.true_beq, dgs_false, dgo_false, gop_false, cpick_bool, if_true, pop_some, cnd_true]
      rw [leave3, RK_ret]; exact hK _ _ _ _ ((hle.trans hle4).trans (hV _ _ rfl))
    | false =>
      simp only [gb_bool, beq_self_eq_true, dgs_true, dgo_true, gop_true, hia2, pop_some, fa69_3, fa25_0, fa25_1, Nat.add_assoc, Nat.reduceAdd, fz87_1]
      rw [(hcel2.le (hV _ _ rfl)).s ag3 (j := 4) rfl]
      simp only [pop_some]
      rw [(hcel2.le (hV _ _ rfl)).s ag3 (j := 5) rfl]
      simp only [pop_some]
      rw [ldi (ho10.le (hV _ _ rfl)) (j := 1) rfl]
      simp only [pop_some]
      refine out_1J (fun t m1 h => by refine view3 (m := m4) (m1 := m5) (m2 := m6) ?_ ?_ h (Nat.le_refl _) ?_ <;> rfl) fun t m7 b7 m8 hle7 hle8 hle78 h7 => ?_
      have hle8' : m4.le m8 := (hV _ _ rfl).trans hle78
      simp only [cpick_bool, Bool.false_eq_true, if_false, pop_some]
      cases b7 with
      | true => rw [cnd_true, leave3, RK_ret]; exact hK _ _ _ _ ((hle.trans hle4).trans hle8')
      | false =>
        rw [cnd_false, cb_add, pop_some, wrap_id (by omega) (by omega)]
        refine hX _ _ _ ⟨rfl, (hle'.trans hle4).trans hle8', i + 1, by omega, by simp⟩ ?_
        simp only [List.map_cons, List.map_nil, q24]; omega
  · have hc' : decide ((i : Int) < (d.n : Int)) = false := by simpa using hci
    rw [hc', cnd_false, ho1.cel.z ag28 (j := 0) rfl, pop_some]
    refine blend43 (hl.le hle) hok (hv.le hle) (Nat.le_refl _) fun m3 u hle3 hu => ?_
    replace hle := hle.trans hle3
    refine whole44 (l := l) (x := x) ⟨hu, hl.le hle, hok⟩ meas46 fun m4 p hle4 => ?_
    replace hle := hle.trans hle4
    replace ho1 := (ho1.le hle3).le hle4
    refine sum_ok (fun h => c47 h) Try.underlying29 sz87 ag87 (by decide) ze87 rfl (by omega) (fun i hi => rfl) (hd.s.le hle) (fun i m' K Kp hi hle hK => ?_) fun m5 y hle5 => ?_
    · show callw Try.prog 48 ([] ++ [.int .i64 i, _] ++ [.pointer (some ⟨t4, 0, none⟩)]) m' _ _
      exact lot48 (hv.le (CM.le.trans (by assumption) hle)) (ho1.le hle) (by omega) hK
    replace hle := hle.trans hle5
    replace ho1 := ho1.le hle5
    rw [cb_add, pop_some]
    refine sum_ok (fun h => c47 h) Try.underlying29 sz87 ag87 (by decide) ze87 rfl (by omega) (fun i hi => rfl) (hd.s.le hle) (fun i m' K Kp hi hle hK => ?_) fun m6 y hle6 => ?_
    · show callw Try.prog 49 ([] ++ [.int .i64 i, _] ++ [.pointer (some ⟨t4, 0, none⟩)]) m' _ _
      exact lot49 (hv.le (CM.le.trans (by assumption) hle)) (ho1.le hle) (by omega) hK
    rw [leave3, RK_ret]; exact hK _ _ _ _ (hle.trans hle6)
end Go.Proofs.Ytbgfkbdcpfngaaa.B
end

section
open Go Go.Proofs Go.Proofs.Ytbgfkbdcpfngaaa
set_option maxRecDepth 100000
namespace Go.Proofs.Ytbgfkbdcpfngaaa.B
theorem cmm_min_is {a b : Int} : cmm Try.prog .min [.int .i64 a, .int .i64 b] = some (.int .i64 (if b < a then b else a)) := by
  simp only [cmm, plainL, plainV, Bool.and_self, if_true, Builtin.min_, List.foldlM_cons, List.foldlM_nil, Builtin.min2]
  rfl
abbrev fillV (L R W Y F : Nat) : Value := .func (.func 83) ⟨[]⟩ ⟨[.pointer (some ⟨L, 0, none⟩), .pointer (some ⟨R, 0, none⟩), .pointer (some ⟨W, 0, none⟩), .pointer (some ⟨Y, 0, none⟩), .pointer (some ⟨F, 0, none⟩)]⟩
def Ints (c : List Value) : Prop := ∀ u ∈ c, ∃ k, u = .int .i64 k
/-- What the search for recipes keeps: its boxes and the recipe's block rb. -/
structure FI (l : Wxs) (w : WiD) (L W Y F R rb lp : Nat) (I J : CM → Prop) : Prop where
  le : ∀ m m', I m → m.le m' → I m'
  st : ∀ m, I m → l.In m ∧ w.In m ∧ Own m L [l.v] 0 ∧ Own m W w.cells 0 ∧ Own m Y [yv lp] 0 ∧ Own m F [fillV L R W Y F] 0 ∧ Own m R [.slice (some ⟨rb, 0, none⟩) l.n 0] 0 ∧ ∃ c, Own m rb c 1 ∧ c.length = l.n ∧ Ints c
  wr : ∀ m m' c, I m → m'.next = m.next → (∀ x, x ≠ rb → m'.get x = m.get x) → Own m' rb c 1 → c.length = l.n → Ints c → I m'
  y : ∀ m K, I m → (∀ m', I m' → K (.bool true) m') → (∀ m', J m' → K (.bool false) m') → yieldw Try.prog lp [.slice (some ⟨rb, 0, none⟩) l.n 0] m K
theorem Ints.set {c : List Value} (h : Ints c) (i : Nat) (n : Int) : Ints (splice c i [.int .i64 n]) := fun u hu => by
  simp only [splice, List.mem_append, List.mem_cons, List.not_mem_nil, or_false] at hu
  rcases hu with (hu | hu) | hu
  · exact h u (List.mem_of_mem_take hu)
  · exact ⟨_, hu⟩
  · exact h u (List.mem_of_mem_drop hu)
theorem ints_row {c : List Value} {n : Nat} (h : Ints c) (hl : c.length = n) : ∃ x : Nat → Int, ∀ i, i < n → rowE 1 c i = [.int .i64 (x i)] := by
  obtain ⟨x, hx⟩ := chooseF (r := fun (i : Nat) (k : Int) => i < n → rowE 1 c i = [.int .i64 k]) fun i => by
    by_cases hi : i < n
    · obtain ⟨k, hk⟩ := get_ints h (p := i) (by omega)
      refine ⟨k, fun _ => ?_⟩
      apply List.ext_getElem?
      intro p
      rw [rowE_get]
      by_cases hp : p < 1
      · have : p = 0 := by omega
        subst this
        simp [hk]
      · rw [if_neg hp, List.getElem?_eq_none (by simp; omega)]
    · exact ⟨0, fun h => absurd h hi⟩
  exact ⟨x, hx⟩
theorem slI {m : CM} {b n : Nat} {c : List Value} (ho : Own m b c 1) (hl : c.length = n) (h : Ints c) : ∃ x : Nat → Int, Sl 1 m (.slice (some ⟨b, 0, none⟩) n 0) n (fun i => [.int .i64 (x i)]) := by
  obtain ⟨x, hx⟩ := ints_row h hl
  exact ⟨x, (ho.sl (n := n) (by omega)).congr hx⟩
set_option maxHeartbeats 1000000 in
theorem fill83 {l : Wxs} {w : WiD} {L W Y F R rb lp : Nat} {I J : CM → Prop} (hf : FI l w L W Y F R rb lp I J) (hok : l.Ok) (hwo : w.Ok l.n) : ∀ (k i : Nat) (left : Int) (m : CM) (K : Value → CM → Prop) (Kp : List PanicEntry → CM → Prop), i + k + 1 = l.n → I m → (∀ m', I m' → K (.bool true) m') → (∀ m', J m' → K (.bool false) m') →
    callw Try.prog 83 [.int .i64 i, .int .i64 left, .pointer (some ⟨L, 0, none⟩), .pointer (some ⟨R, 0, none⟩), .pointer (some ⟨W, 0, none⟩), .pointer (some ⟨Y, 0, none⟩), .pointer (some ⟨F, 0, none⟩)] m K Kp := by
  intro k
  induction k with
  | zero =>
    intro i left m K Kp hik hI hT hFa
    have hn5 := hok.n5
    obtain ⟨hl, hw, oL, oW, oY, oF, oR, c, oc, hcl, hci⟩ := hf.st m hI
    apply c83
    unfold s83
    rw [oL.cel.z ag22 (j := 0) rfl, pop_some, hl.s.len Try.underlying22, pop_some, cb_sub, pop_some, wrap_id (by omega) (by omega), cb_eql, pop_some, show ((i : Int) == (l.n : Int) - 1) = true by simp; omega, cnd_true, oR.cel.z ag28 (j := 0) rfl, pop_some, cia_own Try.underlying28 sz3 (by omega) (by omega), pop_some]
    simp only [Int.toNat_natCast, Nat.mul_one]
    refine oc.store (by simp [toL, sz3]) (by simp [toL]; omega) rfl fun m1 hn1 hx1 oc1 => ?_
    simp only [toL] at oc1
    have hI1 := hf.wr m m1 _ hI hn1 hx1 oc1 (by rw [splice_at (by omega)]; exact hcl) (hci.set _ _)
    obtain ⟨hl, hw, oL, oW, oY, oF, oR, c, oc, hcl, hci⟩ := hf.st m1 hI1
    obtain ⟨x, hx⟩ := slI oc hcl hci
    rw [oL.cel.z ag22 (j := 0) rfl, pop_some, lda oW ag27 sz27, pop_some, oR.cel.z ag28 (j := 0) rfl, pop_some]
    refine why52 hl hok hw hwo.e hx fun m2 e hle2 => ?_
    have hI2 := hf.le _ _ hI1 hle2
    rw [cb_neq, pop_some]
    cases (e != 0) with
    | true =>
      simp only [gb_bool, Bool.true_beq, gop_false, cpick_bool, if_true, pop_some]
      rw [leave1, RK_ret]; exact hT _ hI2
    | false =>
      simp only [gb_bool, beq_self_eq_true, gop_true]
      obtain ⟨hl, hw, oL, oW, oY, oF, oR, c, oc, hcl, hci⟩ := hf.st m2 hI2
      rw [oY.cel.z ag121 (j := 0) rfl]
      simp only [pop_some]
      rw [oR.cel.z ag28 (j := 0) rfl]
      simp only [pop_some]
      show yieldw Try.prog lp [_] m2 _
      refine hf.y m2 _ hI2 (fun m3 h3 => ?_) fun m3 h3 => ?_
      · simp only [cpick_bool, Bool.false_eq_true, if_false, pop_some]
        rw [leave1, RK_ret]; exact hT _ h3
      · simp only [cpick_bool, Bool.false_eq_true, if_false, pop_some]
        rw [leave1, RK_ret]; exact hFa _ h3
  | succ k ih =>
    intro i left m K Kp hik hI hT hFa
    have hn5 := hok.n5
    obtain ⟨hl, hw, oL, oW, oY, oF, oR, c, oc, hcl, hci⟩ := hf.st m hI
    have hwr := hwo.r i (by omega)
    have hwn := hwo.e
    apply c83
    unfold s83
    obtain ⟨b, o, hia, hcel, hlen⟩ := hw.s.at Try.underlying23 sz25 (i := i) (by omega) (by omega)
    simp only [Int.toNat_natCast] at hcel hlen
    rw [oL.cel.z ag22 (j := 0) rfl, pop_some, hl.s.len Try.underlying22, pop_some, cb_sub, pop_some, wrap_id (by omega) (by omega), cb_eql, pop_some, show ((i : Int) == (l.n : Int) - 1) = false by simp; omega, cnd_false, fz27_0, pop_some, oW.cel.z ag23 (j := 0) rfl, pop_some, hia]
    simp only [pop_some, fa25_0]
    rw [hcel.s0 ag3 rfl]
    simp only [pop_some]
    refine loopA_of (fun l0 ds m' => ds = [] ∧ I m' ∧ ∃ x : Int, 0 ≤ x ∧ x ≤ 21 ∧ l0 = [.int .i64 i, .int .i64 left, .pointer (some ⟨R, 0, none⟩), .pointer (some ⟨W, 0, none⟩), .pointer (some ⟨F, 0, none⟩), .bool false, .int .i64 x])
      (fun l0 _ => match l0 with | [_, _, _, _, _, _, .int _ x] => (21 - x).toNat | _ => 0) ⟨rfl, hI, _, hwr.1.1, by omega, rfl⟩ ?_
    clear hcel hia oL oW oY oF oR oc hcl hci hl hw hlen c hI
    rintro X ρ ds m' ⟨rfl, hI, x, hx0, hx1, hll⟩ hX
    simp only [List.map_cons, List.map_nil, List.cons.injEq, and_true] at hll
    obtain ⟨q0, q1, q3, q4, q6, q9, q10⟩ := hll
    obtain ⟨hl, hw, oL, oW, oY, oF, oR, c, oc, hcl, hci⟩ := hf.st m' hI
    obtain ⟨b, o, hia, hcel, hlen⟩ := hw.s.at Try.underlying23 sz25 (i := i) (by omega) (by omega)
    simp only [Int.toNat_natCast] at hcel hlen
    simp only [q0, q1, q3, q4, q6, q9, q10, fz27_0, pop_some]
    rw [oW.cel.z ag23 (j := 0) rfl, pop_some, hia]
    simp only [pop_some, fa25_1]
    rw [hcel.s ag3 (j := 1) rfl]
    simp only [pop_some]
    rw [cmm_min_is]
    simp only [pop_some, cb_leq]
    cases hb : decide (x ≤ if w.hi i < left then w.hi i else left) with
    | false => rw [cnd_false, leave1, RK_ret]; exact hT _ hI
    | true =>
      have hxh : x ≤ w.hi i := by
        simp only [decide_eq_true_eq] at hb
        split at hb <;> omega
      rw [cnd_true, oR.cel.z ag28 (j := 0) rfl, pop_some, cia_own Try.underlying28 sz3 (by omega) (by omega), pop_some]
      simp only [Int.toNat_natCast, Nat.mul_one]
      refine oc.store (by simp [toL, sz3]) (by simp [toL]; omega) rfl fun m1 hn1 hx1 oc1 => ?_
      simp only [toL] at oc1
      have hI1 := hf.wr m' m1 _ hI hn1 hx1 oc1 (by rw [splice_at (by omega)]; exact hcl) (hci.set _ _)
      obtain ⟨hl, hw, oL, oW, oY, oF, oR, c, oc, hcl, hci⟩ := hf.st m1 hI1
      rw [oF.cel.z ag122 (j := 0) rfl, pop_some, cb_add, pop_some, cb_sub, pop_some, wrap_id (n := (i : Int) + 1) (by omega) (by omega)]
      show callw Try.prog 83 ([] ++ [.int .i64 (((i + 1 : Nat)) : Int), .int .i64 (IntKind.i64.wrap (left - x))] ++ [.pointer (some ⟨L, 0, none⟩), .pointer (some ⟨R, 0, none⟩), .pointer (some ⟨W, 0, none⟩), .pointer (some ⟨Y, 0, none⟩), .pointer (some ⟨F, 0, none⟩)]) m1 _ _
      refine ih (i + 1) _ m1 _ _ (by omega) hI1 (fun m2 h2 => ?_) fun m2 h2 => ?_
      · rw [cun_not, pop_some, show (!true) = false from rfl, cnd_false, cb_add, pop_some, wrap_id (n := x + 1) (by omega) (by omega)]
        refine hX _ _ _ ⟨rfl, h2, x + 1, by omega, by omega, rfl⟩ ?_
        simp only [List.map_cons, List.map_nil, q10]; omega
      · rw [cun_not, pop_some, show (!false) = true from rfl, cnd_true, leave1, RK_ret]; exact hFa _ h2
end Go.Proofs.Ytbgfkbdcpfngaaa.B
end

section
open Go Go.Proofs Go.Proofs.Ytbgfkbdcpfngaaa
set_option maxRecDepth 100000
namespace Go.Proofs.Ytbgfkbdcpfngaaa.B
theorem ze122' : zeroL Try.prog 122 = some [.nilFunc] := by kernel_rfl
/-- The recipes that fit, one after the other. I0 rb is kept; nb: all that the search makes is not elder. -/
theorem iter82 {l : Wxs} {w : WiD} {L W lp nb : Nat} {I0 : Nat → CM → Prop} {J : CM → Prop} (hok : l.Ok) (hwo : w.Ok l.n) (hL : L < nb) (hW : W < nb)
    (hle : ∀ rb m m', I0 rb m → m.le m' → I0 rb m') (hst : ∀ rb m, I0 rb m → l.In m ∧ w.In m ∧ Own m L [l.v] 0 ∧ Own m W w.cells 0)
    (hwr : ∀ rb m m', I0 rb m → nb ≤ rb → m'.next = m.next → (∀ x, x ≠ rb → m'.get x = m.get x) → I0 rb m')
    (hy : ∀ rb c m K, I0 rb m → nb ≤ rb → Own m rb c 1 → c.length = l.n → Ints c → (∀ m', I0 rb m' → m.next ≤ m'.next → (∀ x, nb ≤ x → x < m.next → m'.get x = m.get x) → K (.bool true) m') → (∀ m', J m' → K (.bool false) m') → yieldw Try.prog lp [.slice (some ⟨rb, 0, none⟩) l.n 0] m K)
    {m : CM} (hnb : nb ≤ m.next) (h0 : ∀ rb m', m.le m' → m.next ≤ rb → rb < m'.next → I0 rb m') (hl : l.In m) (oL : Own m L [l.v] 0) {K : Value → CM → Prop} {Kp : List PanicEntry → CM → Prop} (hK : ∀ m', ((∃ rb, I0 rb m') ∨ J m') → K (.tuple ⟨[]⟩) m') :
    callw Try.prog 82 [yv lp, .pointer (some ⟨L, 0, none⟩), .pointer (some ⟨W, 0, none⟩)] m K Kp := by
  have hn5 := hok.n5
  apply c82
  unfold s82
  refine box_of fun Y m1 hle1 hbY oY => ?_
  replace oY : Own m1 Y [yv lp] 0 := oY
  rw [(oL.le hle1).cel.z ag22 (j := 0) rfl, pop_some, hl.s.len Try.underlying22, pop_some]
  refine makeS_of (e := 0) Try.underlying28 sz3 ze3 rfl by3 (by decide) (by omega) fun m2 hle2 orb hlen => ?_
  generalize hrb : m1.next = rb
  rw [hrb] at orb
  refine alw_of ze28 fun R m3 hle3 hbR oR => store_own oR (by simp [toL, sz28]) (by simp [toL]) rfl fun m4 hn4 hx4 oR => ?_
  simp only [toL] at oR
  refine alw_of ze122' fun F m5 hle5 hbF oF => store_own oF (by simp [toL, sz122]) (by simp [toL]) rfl fun m6 hn6 hx6 oF => ?_
  simp only [toL] at oF
  have a1 := hle1.1; have a2 := hle2.1; have a3 := hle3.1; have a5 := hle5.1
  have b1 := oY.1; have b2 := orb.1; have b3 := oR.1; have b5 := oF.1
  have hle4 : m2.le m4 := le_of_put hle3 hbR hn4 hx4
  have hle6 : m4.le m6 := le_of_put hle5 hbF hn6 hx6
  have oY6 := ((oY.le hle2).le hle4).le hle6
  have orb6 := (orb.le hle4).le hle6
  have oR6 := oR.le hle6
  have hf : FI l w L W Y F R rb lp (fun M => I0 rb M ∧ m6.next ≤ M.next ∧ (∀ x, nb ≤ x → x < m6.next → x ≠ rb → M.get x = m6.get x) ∧ ∃ c, Own M rb c 1 ∧ c.length = l.n ∧ Ints c) J := by
    refine ⟨?_, ?_, ?_, ?_⟩
    · rintro M M' ⟨g1, g2, g3, c, g4, g5⟩ k
      exact ⟨hle _ _ _ g1 k, Nat.le_trans g2 k.1, fun x h1 h2 h3 => by rw [k.2 x (by omega)]; exact g3 x h1 h2 h3, c, g4.le k, g5⟩
    · rintro M ⟨g1, g2, g3, g4⟩
      obtain ⟨h1, h2, h3, h4⟩ := hst _ _ g1
      exact ⟨h1, h2, h3, h4, ⟨by omega, by rw [g3 Y (by omega) (by omega) (by omega)]; exact oY6.2⟩, ⟨by omega, by rw [g3 F (by omega) (by omega) (by omega)]; exact oF.2⟩, ⟨by omega, by rw [g3 R (by omega) (by omega) (by omega)]; exact oR6.2⟩, g4⟩
    · rintro M M' c ⟨g1, g2, g3, _⟩ hn hx ho hc hi
      exact ⟨hwr _ _ _ g1 (by omega) hn hx, by omega, fun x h1 h2 h3 => by rw [hx x h3]; exact g3 x h1 h2 h3, c, ho, hc, hi⟩
    · rintro M K' ⟨g1, g2, g3, c, g4, g5, g6⟩ h1 h2
      refine hy rb c M K' g1 (by omega) g4 g5 g6 (fun M' k1 k2 k3 => h1 M' ⟨k1, by omega, fun x q1 q2 q3 => by rw [k3 x q1 (by omega)]; exact g3 x q1 q2 q3, c, ⟨by have := g4.1; omega, by rw [k3 rb (by omega) g4.1]; exact g4.2⟩, g5, g6⟩) h2
  rw [oF.cel.z ag122 (j := 0) rfl, pop_some]
  show callw Try.prog 83 ([] ++ [.int .i64 ((0 : Nat) : Int), .int .i64 20] ++ [.pointer (some ⟨L, 0, none⟩), .pointer (some ⟨R, 0, none⟩), .pointer (some ⟨W, 0, none⟩), .pointer (some ⟨Y, 0, none⟩), .pointer (some ⟨F, 0, none⟩)]) m6 _ _
  refine fill83 hf hok hwo (l.n - 1) 0 20 m6 _ _ (by omega) ⟨h0 rb m6 (((hle1.trans hle2).trans hle4).trans hle6) (by omega) (by omega), Nat.le_refl _, fun _ _ _ _ => rfl, _, orb6, by rw [hlen]; omega, fun u hu => ?_⟩ (fun m' h => ?_) fun m' h => ?_
  · have : ∀ n, ∀ u ∈ zeros [Value.int .i64 0] n, u = .int .i64 0 := by
      intro n
      induction n with
      | zero => simp [zeros]
      | succ n ih => intro u hu; simp only [zeros, List.mem_append, List.mem_cons, List.not_mem_nil, or_false] at hu; rcases hu with hu | hu; exact hu; exact ih u hu
    exact ⟨0, this _ u hu⟩
  · rw [leave0, RK_ret]; exact hK _ (.inl ⟨rb, h.1⟩)
  · rw [leave0, RK_ret]; exact hK _ (.inr h)
theorem eqn28 {x y : Operand} (b : Nat) (n : Nat) : cbin Try.prog BinOp.eql 28 x y (.slice (some ⟨b, 0, none⟩) n 0) (.slice none 0 0) = some (.bool false) := by kernel_rfl
theorem eqz28 {x y : Operand} : cbin Try.prog BinOp.eql 28 x y (.slice none 0 0) (.slice none 0 0) = some (.bool true) := by kernel_rfl
/-- slices.Clone of a recipe: a new block. -/
theorem clone54 {m : CM} {b n : Nat} {c : List Value} (ho : Own m b c 1) (hl : c.length = n) (h0 : 0 < n) (hn : n ≤ 1000) (hi : Ints c) {K : Value → CM → Prop} {Kp : List PanicEntry → CM → Prop} (hK : ∀ m' b', m.le m' → m.next ≤ b' → Own m' b' c 1 → K (.slice (some ⟨b', 0, none⟩) n 0) m') :
    callw Try.prog 54 [.slice (some ⟨b, 0, none⟩) n 0] m K Kp := by
  apply c54
  unfold s54
  rw [eqn28, pop_some, cnd_false]
  refine lit_of (c := []) Try.underlying28 (e := 0) (k := 0) sz3 ze3 rfl (by omega) rfl fun b1 m1 hle1 hb1 ho1 => ?_
  have h1 : c.all one = true := by
    rw [List.all_eq_true]; intro x hx; obtain ⟨k, rfl⟩ := hi x hx; rfl
  have hb := ho.1
  have hlim : (1000 : Nat) ≤ lim := by decide
  have hv : HVe (0 + 1) m1 (.slice (some ⟨b1, 0, none⟩) 0 0) (some b1) [] 0 := .blk ho1 (by simp)
  refine appG (e := 0) (k := n) (vs := c) Try.underlying28 sz3 ze3 rfl ap28 by3 (by decide) (by decide) hv rfl ?_ (by omega) h1 h0 (by omega) fun m2 hn2 hg2 ho2 => ?_
  · have := (ho.le hle1).2
    simp [readS, this, ← hl]
  · rw [Nat.zero_add, leave1, RK_ret]
    have a1 := hle1.1
    exact hK _ _ ⟨by omega, fun y hy => by rw [hg2 y (by omega) (fun e => by cases e; omega)]; exact hle1.2 y hy⟩ (by omega) (by simpa using ho2)
end Go.Proofs.Ytbgfkbdcpfngaaa.B
end

section
open Go Go.Proofs Go.Proofs.Ytbgfkbdcpfngaaa
set_option maxRecDepth 100000
namespace Go.Proofs.Ytbgfkbdcpfngaaa.B
noncomputable abbrev A21 (a0 a1 t2 t3 t4 t5 t9 t10 t11 t13 t15 t16 t17 : Value) : CA := (((((((((((((((enterA Try.f21 [a0, a1]).put (some 2) t2).put (some 3) t3).put (some 4) t4).put (some 5) t5).put (some 6) (.int .i64 0)).put (some 9) t9).put (some 10) t10).put (some 11) t11).put (some 6) t11).put (some 12) t11).put (some 13) t13).put (some 15) t15).put (some 16) t16).put (some 17) t17)
section
variable {a0 a1 t2 t3 t4 t5 t9 t10 t11 t13 t15 t16 t17 : Value}
theorem yield21 {l D : Nat} {x : Value} {m : CM} (hl : m.get l = some (.loop (rfRec (A21 a0 a1 t2 t3 t4 t5 t9 t10 t11 t13 t15 t16 t17) #[18] as21_0 bd21_0 D))) {RY : Value → CM → Prop} (h : r21_0 RY l (A21 a0 a1 t2 t3 t4 t5 t9 t10 t11 t13 t15 t16 t17) x m) : yieldw Try.prog l [x] m RY :=
  yield_text mixed (ann := ann21) hl rfl (by kernel_rfl) (by kernel_rfl) (by kernel_rfl) (by rw [er21_0]; exact h)
theorem A21_2 : (A21 a0 a1 t2 t3 t4 t5 t9 t10 t11 t13 t15 t16 t17).ρ 2 = t2 := rfl
theorem A21_4 : (A21 a0 a1 t2 t3 t4 t5 t9 t10 t11 t13 t15 t16 t17).ρ 4 = t4 := rfl
theorem A21_5 : (A21 a0 a1 t2 t3 t4 t5 t9 t10 t11 t13 t15 t16 t17).ρ 5 = t5 := rfl
end
theorem Wxs.vone {l : Wxs} {m : CM} (h : l.In m) : toL l.v = [l.v] := toL_one h.s.one
theorem fitting53 {l : Wxs} {w : WiD} {m : CM} (hl : l.In m) (hw : w.In m) {K : Value → CM → Prop} {Kp : List PanicEntry → CM → Prop} (hK : ∀ m' L W, m.le m' → m.next ≤ L → m.next ≤ W → Own m' L [l.v] 0 → Own m' W w.cells 0 → K (.func (.func 82) ⟨[]⟩ ⟨[.pointer (some ⟨L, 0, none⟩), .pointer (some ⟨W, 0, none⟩)]⟩) m') :
    callw Try.prog 53 [l.v, .agg ⟨w.cells⟩] m K Kp := by
  apply c53
  unfold s53
  refine box_of fun L m1 hle1 hb1 ho1 => box_of fun W m2 hle2 hb2 ho2 => ?_
  rw [Wxs.vone hl] at ho1
  replace ho2 : Own m2 W w.cells 0 := ho2
  rw [leave1, RK_ret]
  exact hK _ _ _ (hle1.trans hle2) hb1 (Nat.le_trans hle1.1 hb2) (ho1.le hle2) ho2
/-- What Cheapest has found so far: v in the block t4, a price in the block t5. -/
def Fnd (nb rb t4 t5 : Nat) (n : Nat) (m : CM) : Prop := ∃ v bn cs k, ∃ p : Int, Own m t4 [v] 0 ∧ Own m t5 [.int .i64 p] 0 ∧ HVe 1 m v bn cs k ∧ (∀ y, bn = some y → nb ≤ y ∧ y ≠ rb) ∧ Ints cs ∧ k ≤ n
theorem HVe.vone {e n : Nat} {m : CM} {v : Value} {b : Option Nat} {c : List Value} (h : HVe e m v b c n) : toL v = [v] ∧ Ytbgfkbdcpfngaaa.one v = true := by cases h <;> exact ⟨rfl, rfl⟩
set_option maxHeartbeats 1000000 in
theorem Cheapest21 {l : Wxs} {w : WiD} {m : CM} (hl : l.In m) (hw : w.In m) {K : Value → CM → Prop} {Kp : List PanicEntry → CM → Prop} (hK : ∀ m' v (p e : Int), m.le m' → ResV 1 m m' v → K (.tuple ⟨[v, .int .i64 p, .int .i64 e]⟩) m') :
    callw Try.prog 21 [l.v, .agg ⟨w.cells⟩] m K Kp := by
  apply c21
  unfold s21
  refine box_of fun t2 m1 hle1 hb2 ho2 => box_of fun t3 m2 hle2 hb3 ho3 => alw_of ze28 fun t4 m3 hle3 hb4 ho4 => alw_of ze3 fun t5 m4 hle4 hb5 ho5 => ?_
  rw [Wxs.vone hl] at ho2
  replace ho3 : Own m2 t3 w.cells 0 := ho3
  have a1 := hle1.1; have a2 := hle2.1; have a3 := hle3.1; have a4 := hle4.1
  have b2 := ho2.1; have b3 := ho3.1; have b4 := ho4.1; have b5 := ho5.1
  replace ho2 := ((ho2.le hle2).le hle3).le hle4
  replace ho3 := (ho3.le hle3).le hle4
  replace ho4 := ho4.le hle4
  have hle := ((hle1.trans hle2).trans hle3).trans hle4
  rw [ho2.cel.z ag22 (j := 0) rfl, pop_some, lda ho3 ag27 sz27, pop_some]
  refine odd50 (hl.le hle) (hw.le hle) fun m5 e hle5 h5 => ?_
  replace hle := hle.trans hle5
  replace ho2 := ho2.le hle5
  replace ho3 := ho3.le hle5
  replace ho4 := ho4.le hle5
  replace ho5 := ho5.le hle5
  have a5 := hle5.1
  have h45 : t4 ≠ t5 := by omega
  rw [cb_neq, pop_some]
  cases hb : (e != 0) with
  | true =>
    rw [cnd_true]
    refine store_own ho4 (by simp [toL, sz28]) (by simp [toL]) rfl fun m6 hn6 hx6 ho4 => store_own (ho5.sub hn6 (hx6 _ h45.symm)) (by simp [toL, sz3]) (by simp [toL]) rfl fun m7 hn7 hx7 ho5 => ?_
    simp only [toL] at ho4 ho5
    refine leave_rvs (.c ((ho4.sub hn7 (hx7 _ h45)).cel.z ag28 (j := 0) rfl) (.c (ldi ho5 (j := 0) rfl) (.v .nil))) ?_
    show RK K Kp (.ret (.tuple ⟨[_, _, _]⟩)) m7
    rw [RK_ret]
    exact hK _ _ _ _ (le_of_put (le_of_put hle (by omega) hn6 hx6) (by omega) hn7 hx7) .nil
  | false =>
  obtain ⟨hok, hwo⟩ := h5 (by simpa using hb)
  have hn5 := hok.n5
  rw [cnd_false, ho2.cel.z ag22 (j := 0) rfl, pop_some, lda ho3 ag27 sz27, pop_some]
  refine fitting53 (hl.le hle) (hw.le hle) fun m8 L W hle8 hL hW oL oW => ?_
  refine ⟨82, [], [.pointer (some ⟨L, 0, none⟩), .pointer (some ⟨W, 0, none⟩)], rfl, ?_⟩
  show callw Try.prog 82 [yv (m8.next + 1), .pointer (some ⟨L, 0, none⟩), .pointer (some ⟨W, 0, none⟩)] _ _ _
  let A : CA := A21 l.v (.agg ⟨w.cells⟩) (.pointer (some ⟨t2, 0, none⟩)) (.pointer (some ⟨t3, 0, none⟩)) (.pointer (some ⟨t4, 0, none⟩)) (.pointer (some ⟨t5, 0, none⟩)) l.v (.agg ⟨w.cells⟩) (.int .i64 e) (.bool false) l.v (.agg ⟨w.cells⟩) (.func (.func 82) ⟨[]⟩ ⟨[.pointer (some ⟨L, 0, none⟩), .pointer (some ⟨W, 0, none⟩)]⟩)
  let REC : CL := rfRec A #[18] as21_0 bd21_0 m8.next
  let Wt : Nat → Prop := fun x => x = t4 ∨ x = t5
  replace hle := hle.trans hle8
  replace ho2 := ho2.le hle8
  replace ho4 := ho4.le hle8
  replace ho5 := ho5.le hle8
  have a8 := hle8.1
  have hWt : ∀ x, Wt x → m.next ≤ x := fun x hx => by rcases hx with rfl | rfl <;> omega
  have hLt : ¬ Wt L := fun h => by rcases h with h | h <;> omega
  have hWWt : ¬ Wt W := fun h => by rcases h with h | h <;> omega
  have h2t : ¬ Wt t2 := fun h => by rcases h with h | h <;> omega
  refine iter82 (l := l) (w := w) (nb := m8.next + 2) (I0 := fun rb M => LS m8 Wt REC M ∧ Fnd (m8.next + 2) rb t4 t5 l.n M) (J := fun _ => False) hok hwo (by have := oL.1; omega) (by have := oW.1; omega) ?_ ?_ ?_ ?_ ?_ ?_ (hl.le (hle.trans ?_)) (oL.alloc2) ?_
  · rintro rb M M' ⟨g, v, bn, cs, k, p, g1, g2, g3, g4⟩ q
    exact ⟨g.le q, v, bn, cs, k, p, g1.le q, g2.le q, g3.le q, g4⟩
  · rintro rb M ⟨g, _⟩
    have hM := g.since hle hWt
    exact ⟨hl.le hM, hw.le hM, g.own oL hLt, g.own oW hWWt⟩
  · rintro rb M M' ⟨g, v, bn, cs, k, p, g1, g2, g3, g4, g5, g6⟩ hrb hn hx
    exact ⟨g.wr hn hx (.inr hrb), v, bn, cs, k, p, g1.sub hn (hx _ (by omega)), g2.sub hn (hx _ (by omega)), g3.of_get (by omega) (fun y hy => hx y (g4 y hy).2), g4, g5, g6⟩
  · rintro rb c M K' ⟨g, v, bn, cs, k, p, g1, g2, g3, g4, g5, g6⟩ hrb hoc hcl hci hT _
    have gn := g.nx
    refine yield21 g.l ?_
    unfold r21_0
    refine ⟨REC, g.l, rfl, ?_⟩
    have gB := g.put (R' := { REC with state := .busy })
    have g1' := Own.put_ne (y := .loop { REC with state := .busy }) g1 (show t4 ≠ m8.next + 1 by omega)
    have g2' := Own.put_ne (y := .loop { REC with state := .busy }) g2 (show t5 ≠ m8.next + 1 by omega)
    have gc' := Own.put_ne (y := .loop { REC with state := .busy }) hoc (show rb ≠ m8.next + 1 by omega)
    have g3' : HVe 1 (M.put (m8.next + 1) (.loop { REC with state := .busy })) v bn cs k := g3.of_get (Nat.le_refl _) fun y hy => by rw [CM.get_put, if_neg (by have := g4 y hy; omega)]
    have hBn : (M.put (m8.next + 1) (.loop { REC with state := .busy })).next = M.next := rfl
    have hBx : ∀ x, x ≠ m8.next + 1 → (M.put (m8.next + 1) (.loop { REC with state := .busy })).get x = M.get x := fun x hx => by rw [CM.get_put, if_neg hx]
    generalize M.put (m8.next + 1) (.loop { REC with state := .busy }) = B at *
    have hB := gB.since hle hWt
    rw [A21_2, (gB.own ho2 h2t).cel.z ag22 (j := 0) rfl, pop_some]
    obtain ⟨x, hx⟩ := slI gc' hcl hci
    refine blend43 (hl.le hB) hok hx (Nat.le_refl _) fun m9 u hle9 hu => ?_
    refine whole44 (l := l) (x := x) ⟨hu, hl.le (hB.trans hle9), hok⟩ meas45 fun m10 n hle10 => ?_
    have hle910 := hle9.trans hle10
    have gE := gB.le hle910
    replace g1' := g1'.le hle910
    replace g2' := g2'.le hle910
    replace gc' := gc'.le hle910
    replace g3' := g3'.le hle910
    have en := hle910.1
    have hEx : ∀ x, m8.next + 2 ≤ x → x < M.next → m10.get x = M.get x := fun x h1 h2 => by rw [hle910.2 x (by omega), hBx x (by omega)]
    rw [A21_4, A21_5, g1'.cel.z ag28 (j := 0) rfl, pop_some]
    -- the end of a round
    have fin : ∀ {M1 : CM}, LS m8 Wt { REC with state := .busy } M1 → Fnd (m8.next + 2) rb t4 t5 l.n M1 → M.next ≤ M1.next → (∀ x, m8.next + 2 ≤ x → x < M.next → M1.get x = M.get x) → j21_1 K' (m8.next + 1) M1 := by
      rintro M1 s1 ⟨v, bn, cs, k, p, f1, f2, f3, f4, f5, f6⟩ hn hx
      unfold j21_1
      refine ⟨none, _, rfl, s1.l, hT _ ⟨s1.put, v, bn, cs, k, p, Own.put_ne f1 (by omega), Own.put_ne f2 (by omega), f3.of_get (Nat.le_refl _) (fun y hy => by rw [CM.get_put, if_neg (by have := f4 y hy; omega)]), f4, f5, f6⟩ hn fun x h1 h2 => ?_⟩
      rw [CM.get_put, if_neg (by omega)]; exact hx x h1 h2
    have take : ∀ {q : Int}, callw Try.prog 54 [.slice (some ⟨rb, 0, none⟩) l.n 0] m10 (fun t31 m => sop (cstore Try.prog 28 (.pointer (some ⟨t4, 0, none⟩)) t31 m) (fun _ m => sop (cstore Try.prog 3 (.pointer (some ⟨t5, 0, none⟩)) (.int .i64 q) m) (fun _ m => j21_1 K' (m8.next + 1) m))) (fun ch m => bodyE (m8.next + 1) K' (.panic ch) m) := by
      intro q
      refine clone54 gc' hcl (by omega) (by omega) hci fun m11 b' hle11 hb' ob' => ?_
      have c11 := hle11.1
      have gF := gE.le hle11
      have f1 := g1'.le hle11
      have f2 := g2'.le hle11
      have hob := ob'.1
      have hrb' := gc'.1
      refine store_own f1 (by simp [toL, sz28]) (by simp [toL]) rfl fun m12 hn12 hx12 f1 => store_own (f2.sub hn12 (hx12 _ h45.symm)) (by simp [toL, sz3]) (by simp [toL]) rfl fun m13 hn13 hx13 f2 => ?_
      simp only [toL] at f1 f2
      have t4l : t4 < m8.next := by omega
      have t5l : t5 < m8.next := by omega
      refine fin ((gF.wr hn12 hx12 (.inl ⟨t4l, .inl rfl⟩)).wr hn13 hx13 (.inl ⟨t5l, .inr rfl⟩)) ⟨_, some b', c, l.n, q, f1.sub hn13 (hx13 _ h45), f2, .blk ((ob'.sub hn12 (hx12 _ (by omega))).sub hn13 (hx13 _ (by omega))) (by omega), fun y hy => by cases hy; exact ⟨by omega, by omega⟩, hci, Nat.le_refl _⟩ (by omega) fun x h1 h2 => ?_
      rw [hx13 x (by omega), hx12 x (by omega), hle11.2 x (by omega)]; exact hEx x h1 h2
    have keep : j21_1 K' (m8.next + 1) m10 := fin gE ⟨v, bn, cs, k, p, g1', g2', g3', g4, g5, g6⟩ (by omega) hEx
    cases g3 with
    | nil =>
      rw [eqz28, pop_some]
      simp only [gb_bool, Bool.true_beq, gop_false, cpick_bool, if_true, pop_some, cnd_true]
      exact take
    | blk _ _ =>
      rw [eqn28, pop_some]
      simp only [gb_bool, beq_self_eq_true, gop_true]
      rw [ldi g2' (j := 0) rfl]
      simp only [pop_some, cb_lss, cpick_bool, Bool.false_eq_true, if_false]
      cases decide (n < p) with
      | true => rw [cnd_true]; exact take
      | false => rw [cnd_false]; exact keep
  · simp only [CM.next_alloc]; omega
  · intro rb M' hM' hr1 hr2
    refine ⟨LS.init.le hM', _, none, [], 0, 0, (ho4.alloc2).le hM', (ho5.alloc2).le hM', .nil, (by simp), (by intro u hu; simp at hu), by omega⟩
  · exact ⟨by simp only [CM.next_alloc]; omega, fun x hx => alloc2_get hx⟩
  · rintro M (⟨rb, g, v, bn, cs, k, p, g1, g2, g3, g4, g5, g6⟩ | hf)
    · refine ⟨REC, g.l, (by intro h; cases h), .normal, rfl, ?_⟩
      show j21_0 (RK K Kp) (.pointer (some ⟨t4, 0, none⟩)) (.pointer (some ⟨t5, 0, none⟩)) [mark m8.next] _
      have gn := g.nx
      have gB := g.put (R' := { REC with state := .exhausted })
      have g1' := Own.put_ne (y := .loop { REC with state := .exhausted }) g1 (show t4 ≠ m8.next + 1 by omega)
      have g2' := Own.put_ne (y := .loop { REC with state := .exhausted }) g2 (show t5 ≠ m8.next + 1 by omega)
      have g3' : HVe 1 (M.put (m8.next + 1) (.loop { REC with state := .exhausted })) v bn cs k := g3.of_get (Nat.le_refl _) fun y hy => by rw [CM.get_put, if_neg (by have := g4 y hy; omega)]
      generalize M.put (m8.next + 1) (.loop { REC with state := .exhausted }) = B at *
      unfold j21_0
      rw [g1'.cel.z ag28 (j := 0) rfl, pop_some]
      have gBn := gB.nx
      -- the result, when both variables are written
      have out : ∀ {M1 : CM} {u : Value} {q e : Int}, LS m8 Wt { REC with state := .exhausted } M1 → Own M1 t4 [u] 0 → Own M1 t5 [.int .i64 q] 0 → (∀ M2, M2.next = M1.next → (∀ x, x ≠ m8.next → M2.get x = M1.get x) → ResV 1 m M2 u) → leaveV Try.prog [.c 28 (.pointer (some ⟨t4, 0, none⟩)), .c 3 (.pointer (some ⟨t5, 0, none⟩)), .v (.int .i64 e)] [mark m8.next] .ret M1 (RK K Kp) := by
        intro M1 u q e s1 o4 o5 hr
        refine leave_rvm (Ds := [m8.next]) (vs := [u, .int .i64 q, .int .i64 e]) (fun D hD => by simp at hD; subst hD; exact s1.d) (by simp) fun M2 hn2 hx2 => ?_
        have hx2' : ∀ x, x ≠ m8.next → M2.get x = M1.get x := fun x hx => hx2 x (by simpa using hx)
        refine ⟨.c ((o4.sub hn2 (hx2' _ (by omega))).cel.z ag28 (j := 0) rfl) (.c (ldi (o5.sub hn2 (hx2' _ (by omega))) (j := 0) rfl) (.v .nil)), ?_⟩
        show RK K Kp (.ret (.tuple ⟨[_, _, _]⟩)) M2
        rw [RK_ret]
        have hs := s1.since hle hWt
        exact hK _ _ _ _ ⟨by rw [hn2]; exact hs.1, fun y hy => by rw [hx2' y (by omega)]; exact hs.2 y hy⟩ (hr M2 hn2 hx2')
      have t4l : t4 < m8.next := by omega
      have t5l : t5 < m8.next := by omega
      cases g3 with
      | nil =>
        rw [eqz28, pop_some, cnd_true]
        refine store_own g1' (by simp [toL, sz28]) (by simp [toL]) rfl fun m12 hn12 hx12 f1 => store_own (g2'.sub hn12 (hx12 _ h45.symm)) (by simp [toL, sz3]) (by simp [toL]) rfl fun m13 hn13 hx13 f2 => ?_
        simp only [toL] at f1 f2
        exact out ((gB.wr hn12 hx12 (.inl ⟨t4l, .inl rfl⟩)).wr hn13 hx13 (.inl ⟨t5l, .inr rfl⟩)) (f1.sub hn13 (hx13 _ h45)) f2 fun _ _ _ => .nil
      | blk q1 q2 =>
        rename_i bv
        rw [eqn28, pop_some, cnd_false, g1'.cel.z ag28 (j := 0) rfl]
        simp only [pop_some]
        rw [ldi g2' (j := 0) rfl]
        simp only [pop_some]
        refine lstw_own g1'.2 (by simp [toL, sz28]) (by simp [toL]) rfl ⟨⟨g1'.1, h45.symm, trivial⟩, (by simp), ?_⟩
        generalize hML : memL B _ [(2, t4, _)] (fun _ => true) B.next = ML
        rw [memL1 rfl (getJ0 g1'.2 rfl)] at hML
        have hMLx : ∀ x, x ≠ t4 → ML.get x = B.get x := fun x hx => by subst hML; rw [CM.get_put, if_neg hx]; rfl
        have hMLn : ML.next = B.next := by subst hML; rfl
        have o4 : Own ML t4 [.slice (some ⟨bv, 0, none⟩) k 0] 0 := ⟨by rw [hMLn]; exact g1'.1, by subst hML; rw [CM.get_put, if_pos rfl]; rfl⟩
        clear hML
        refine store_own (g2'.sub hMLn (hMLx _ h45.symm)) (by simp [toL, sz3]) (by simp [toL]) rfl fun m13 hn13 hx13 f2 => ?_
        simp only [toL] at f2
        have hbv := g4 bv rfl
        refine out ((gB.wr hMLn hMLx (.inl ⟨t4l, .inl rfl⟩)).wr hn13 hx13 (.inl ⟨t5l, .inr rfl⟩)) (o4.sub hn13 (hx13 _ h45)) f2 fun M2 hn2 hx2 => ⟨some bv, cs, k, g3'.of_get (by omega) fun y hy => ?_, fun y hy => by cases hy; omega, by omega, g5⟩
        cases hy
        rw [hx2 _ (by omega), hx13 _ (by omega), hMLx _ (by omega)]
    · exact hf.elim
end Go.Proofs.Ytbgfkbdcpfngaaa.B
end

section
open Go Go.Proofs Go.Proofs.Ytbgfkbdcpfngaaa
set_option maxRecDepth 100000
namespace Go.Proofs.Ytbgfkbdcpfngaaa.B
theorem rest58 {l : Wxs} {m : CM} (hl : l.In m) (hok : l.Ok) {v : Value} {x : Nat → Int} (hv : Sl 1 m v l.n (fun i => [.int .i64 (x i)])) {t4 t7 : Nat} {q : Int} (o4 : Own m t4 [l.v] 0) (o7 : Own m t7 [.int .i64 q] 0) (h0 : 0 ≤ q) (h1 : q < l.n) {K : Value → CM → Prop} {Kp : List PanicEntry → CM → Prop} (hK : ∀ m' (c : Int), m.le m' → K (.int .i64 c) m') :
    callw Try.prog 58 [v, .pointer (some ⟨t4, 0, none⟩), .pointer (some ⟨t7, 0, none⟩)] m K Kp := by
  apply c58
  unfold s58
  rw [o4.cel.z ag22 (j := 0) rfl, pop_some]
  refine blend43 hl hok hv (Nat.le_refl _) fun m1 u hle1 hu => ⟨hle1, ?_⟩
  have hV1 := fun (E : List Ent) (sel : Nat → Bool) h => view1 (m := m) (m1 := m1) (E := E) (sel := sel) (nx := m1.next) hle1 (Nat.le_refl _) h
  refine whole44 (l := l) (x := x) ⟨hu.le (hV1 _ _ rfl), hl.le (hle1.trans (hV1 _ _ rfl)), hok⟩ meas45 fun m2 p hle2 => ⟨hle2, ?_⟩
  have hle2' : m1.le m2 := (hV1 _ _ rfl).trans hle2
  have hn2 : m.next ≤ m2.next := Nat.le_trans hle1.1 hle2'.1
  obtain ⟨b, o, hia, hcel, hlen⟩ := hv.at Try.underlying28 sz3 (i := q) h0 (by omega)
  obtain ⟨b2, o2, hia2, hcel2, hlen2⟩ := hl.s.at Try.underlying22 sz69 (i := q) h0 (by omega)
  rw [(Own.of o7 (M := memJ m _ (fun i => Nat.testBit 0 i) m2.next) rfl hn2).cel.z ag3 (j := 0) rfl]
  simp only [pop_some]
  rw [hia]
  simp only [pop_some]
  rw [(hcel.le (view0 (m := m) (nx := m2.next) hn2 rfl)).s0 ag3 rfl]
  simp only [pop_some]
  rw [(Own.of o4 (M := memJ m _ (fun i => Nat.testBit 0 i) m2.next) rfl hn2).cel.z ag22 (j := 0) rfl]
  simp only [pop_some]
  rw [(Own.of o7 (M := memJ m _ (fun i => Nat.testBit 0 i) m2.next) rfl hn2).cel.z ag3 (j := 0) rfl]
  simp only [pop_some]
  rw [hia2]
  simp only [pop_some, fa69_1]
  rw [(hcel2.le (view0 (m := m) (nx := m2.next) hn2 rfl)).s ag3 (j := 1) rfl]
  simp only [pop_some, cb_mul, cb_sub]
  rw [leave1, RK_ret]
  exact hK _ _ ((hle1.trans hle2').trans (view2 hle1 hle2' (Nat.le_refl _) rfl))
end Go.Proofs.Ytbgfkbdcpfngaaa.B
end

section
open Go Go.Proofs Go.Proofs.Ytbgfkbdcpfngaaa
set_option maxRecDepth 100000
namespace Go.Proofs.Ytbgfkbdcpfngaaa.B
theorem wrap_rng (u : Int) : -9223372036854775808 ≤ IntKind.i64.wrap u ∧ IntKind.i64.wrap u < 9223372036854775808 := by
  simp [IntKind.wrap, IntKind.signed, IntKind.bits]; omega
theorem wrap_neg_ne {b : Int} (h1 : -9223372036854775808 ≤ b) (h2 : b < 0) : IntKind.i64.wrap (-b) ≠ 0 := by
  simp [IntKind.wrap, IntKind.signed, IntKind.bits]; omega
theorem yield26 {A : CA} {l D : Nat} {x : Value} {m : CM} (hn : A.n = Try.f26.ntmps) (hl : m.get l = some (.loop (rfRec A #[49] as26_0 bd26_0 D))) {RY : Value → CM → Prop} (h : r26_0 RY l A x m) : yieldw Try.prog l [x] m RY :=
  yield_text mixed (ann := ann26) hl rfl (by rw [hn]; kernel_rfl) (by rw [hn]; kernel_rfl) (by rw [hn]; kernel_rfl) (by rw [er26_0]; exact h)
set_option maxHeartbeats 1000000 in
/-- The range of Stays: its variable s (in the block t8) holds a span then. -/
theorem range26 {l : Wxs} {w : WiD} {m0 m8 : CM} {A : CA} {t4 t5 t6 t7 t8 t10 L W : Nat} {v : Value} {x : Nat → Int} {q : Int} (hn : A.n = Try.f26.ntmps)
    (h6 : A.ρ 6 = .pointer (some ⟨t6, 0, none⟩)) (h7 : A.ρ 7 = .pointer (some ⟨t7, 0, none⟩)) (h8 : A.ρ 8 = .pointer (some ⟨t8, 0, none⟩)) (h10 : A.ρ 10 = .pointer (some ⟨t10, 0, none⟩))
    (hok : l.Ok) (hwo : w.Ok l.n) (hle : m0.le m8) (hl : l.In m0) (hw : w.In m0) (hv : Sl 1 m0 v l.n (fun i => [.int .i64 (x i)])) (q0 : 0 ≤ q) (q1 : q < l.n)
    (o4 : Own m8 t4 [l.v] 0) (o6 : Own m8 t6 [v] 0) (o7 : Own m8 t7 [.int .i64 q] 0) (o10 : Own m8 t10 [.func (.func 58) ⟨[]⟩ ⟨[.pointer (some ⟨t4, 0, none⟩), .pointer (some ⟨t7, 0, none⟩)]⟩] 0) (oL : Own m8 L [l.v] 0) (oW : Own m8 W w.cells 0)
    {a0 b0 : Int} (o8 : Own m8 t8 [.int .i64 a0, .int .i64 b0] 0) (h80 : m0.next ≤ t8) (hne : t4 ≠ t8 ∧ t6 ≠ t8 ∧ t7 ≠ t8 ∧ t10 ≠ t8 ∧ L ≠ t8 ∧ W ≠ t8)
    {KE : Nat → Exit → CM → Prop} {KP : Nat → List PanicEntry → CM → Prop} (hN : ∀ (e : Exit) (M : CM) (a b : Int), e = .normal ∨ e = .exit 1 → M.get m8.next = some .dfr → m8.next + 2 ≤ M.next → m0.le M → t8 < m8.next → Own M t8 [.int .i64 a, .int .i64 b] 0 → KE m8.next e M) :
    rfO Try.prog (.func (.func 82) ⟨[]⟩ ⟨[.pointer (some ⟨L, 0, none⟩), .pointer (some ⟨W, 0, none⟩)]⟩) m8 (fun D => rfRec A #[49] as26_0 bd26_0 D) KE KP := by
  have hn5 := hok.n5
  obtain ⟨n4, n6, n7, n10, nL, nW⟩ := hne
  have c4 := o4.1; have c6 := o6.1; have c7 := o7.1; have c8 := o8.1; have c10 := o10.1; have cL := oL.1; have cW := oW.1
  refine ⟨82, [], [.pointer (some ⟨L, 0, none⟩), .pointer (some ⟨W, 0, none⟩)], rfl, ?_⟩
  show callw Try.prog 82 [yv (m8.next + 1), .pointer (some ⟨L, 0, none⟩), .pointer (some ⟨W, 0, none⟩)] _ _ _
  let REC : CL := rfRec A #[49] as26_0 bd26_0 m8.next
  let Wt : Nat → Prop := fun x => x = t8
  have hWt : ∀ x, Wt x → m0.next ≤ x := fun x hx => by cases hx; exact h80
  refine iter82 (l := l) (w := w) (nb := m8.next + 2) (I0 := fun rb M => LS m8 Wt REC M ∧ ∃ a b : Int, Own M t8 [.int .i64 a, .int .i64 b] 0) (J := fun M => LS m8 Wt { REC with state := .done, pending := some (.exit 1) } M ∧ ∃ a b : Int, Own M t8 [.int .i64 a, .int .i64 b] 0) hok hwo (by omega) (by omega) ?_ ?_ ?_ ?_ ?_ ?_ (hl.le (hle.trans ?_)) (oL.alloc2) ?_
  · rintro rb M M' ⟨g, a, b, g1⟩ k
    exact ⟨g.le k, a, b, g1.le k⟩
  · rintro rb M ⟨g, _⟩
    have hM := g.since hle hWt
    exact ⟨hl.le hM, hw.le hM, g.own oL nL, g.own oW nW⟩
  · rintro rb M M' ⟨g, a, b, g1⟩ hrb hn hx
    exact ⟨g.wr hn hx (.inr hrb), a, b, g1.sub hn (hx _ (by omega))⟩
  · rintro rb c M K' ⟨g, a, b, g1⟩ hrb hoc hcl hci hT hF
    have gn := g.nx
    refine yield26 hn g.l ?_
    unfold r26_0
    refine ⟨REC, g.l, rfl, ?_⟩
    have gB := g.put (R' := { REC with state := .busy })
    have g1' := Own.put_ne (y := .loop { REC with state := .busy }) g1 (show t8 ≠ m8.next + 1 by omega)
    have gc' := Own.put_ne (y := .loop { REC with state := .busy }) hoc (show rb ≠ m8.next + 1 by omega)
    have hBn : (M.put (m8.next + 1) (.loop { REC with state := .busy })).next = M.next := rfl
    have hBx : ∀ x, x ≠ m8.next + 1 → (M.put (m8.next + 1) (.loop { REC with state := .busy })).get x = M.get x := fun x hx => by rw [CM.get_put, if_neg hx]
    generalize M.put (m8.next + 1) (.loop { REC with state := .busy }) = B at *
    have hB := gB.since hle hWt
    have p4 := gB.own o4 n4
    have p6 := gB.own o6 n6
    have p7 := gB.own o7 n7
    have p10 := gB.own o10 n10
    obtain ⟨y, hy⟩ := slI gc' hcl hci
    have hvB := hv.le hB
    obtain ⟨b1, o1, hia, hcel, hlen⟩ := hvB.at Try.underlying28 sz3 (i := q) q0 (by omega)
    obtain ⟨b2, o2, hia2, hcel2, hlen2⟩ := hy.at Try.underlying28 sz3 (i := q) q0 (by omega)
    simp only [h6, h7, h8, h10]
    rw [p6.cel.z ag28 (j := 0) rfl, pop_some, ldi p7 (j := 0) rfl, pop_some, hia, pop_some, hcel.s0 ag3 rfl, pop_some]
    simp only [pop_some]
    rw [hia2]
    simp only [pop_some]
    rw [hcel2.s0 ag3 rfl]
    simp only [pop_some, cb_sub]
    rw [p10.cel.z ag99 (j := 0) rfl]
    simp only [pop_some]
    show callw Try.prog 58 ([] ++ [v] ++ [.pointer (some ⟨t4, 0, none⟩), .pointer (some ⟨t7, 0, none⟩)]) B _ _
    refine rest58 (hl.le hB) hok hvB p4 p7 q0 q1 fun m9 r1 hle9 => ⟨hle9, ?_⟩
    rw [(Own.of p10 (M := memJ B _ (fun i => Nat.testBit 0 i) m9.next) rfl hle9.1).cel.z ag99 (j := 0) rfl]
    simp only [pop_some]
    have hV1 := fun (E : List Ent) (sel : Nat → Bool) h => view1 (m := B) (m1 := m9) (E := E) (sel := sel) (nx := m9.next) hle9 (Nat.le_refl _) h
    show callw Try.prog 58 ([] ++ [.slice (some ⟨rb, 0, none⟩) l.n 0] ++ [.pointer (some ⟨t4, 0, none⟩), .pointer (some ⟨t7, 0, none⟩)]) _ _ _
    refine rest58 (hl.le (hB.trans (hle9.trans (hV1 _ _ rfl)))) hok (hy.le (hle9.trans (hV1 _ _ rfl))) (p4.le (hle9.trans (hV1 _ _ rfl))) (p7.le (hle9.trans (hV1 _ _ rfl))) q0 q1 fun m10 r2 hle10 => ⟨hle10, ?_⟩
    have hle10' : m9.le m10 := (hV1 _ _ rfl).trans hle10
    simp only [cb_sub, pop_some, cb_gtr]
    generalize hMV : memJ B _ (fun _ => true) _ = MV
    have hV : m10.le MV := hMV ▸ view2 hle9 hle10' (Nat.le_refl _) rfl
    have hBV : B.le MV := (hle9.trans hle10').trans hV
    clear hMV
    have gV := gB.le hBV
    have g1V := g1'.le hBV
    have hVx : ∀ x, m8.next + 2 ≤ x → x < M.next → MV.get x = M.get x := fun x h1 h2 => by rw [hBV.2 x (by omega), hBx x (by omega)]
    have hVn := hBV.1
    clear hBx p4 p6 p7 p10 hcel hcel2 hia hia2 hlen hlen2 gc' g1' gB
    -- the end of a round
    have fin : ∀ {M1 : CM} {a b : Int}, LS m8 Wt { REC with state := .busy } M1 → Own M1 t8 [.int .i64 a, .int .i64 b] 0 → M.next ≤ M1.next → (∀ x, m8.next + 2 ≤ x → x < M.next → M1.get x = M.get x) → j26_1 K' (m8.next + 1) M1 := by
      intro M1 a b s1 f1 hn hx
      unfold j26_1
      refine ⟨none, _, rfl, s1.l, hT _ ⟨s1.put, a, b, Own.put_ne f1 (by omega)⟩ hn fun x h1 h2 => ?_⟩
      rw [CM.get_put, if_neg (by omega)]; exact hx x h1 h2
    generalize hby : IntKind.i64.wrap (x q.toNat - y q.toNat) = by'
    generalize IntKind.i64.wrap (r1 - r2) = more
    have hrg : -9223372036854775808 ≤ by' := by rw [← hby]; exact (wrap_rng _).1
    cases hd : decide (0 < by') with
    | true =>
      have hd' : 0 < by' := by simpa using hd
      simp only [cnd_true, fz25_1, pop_some]
      rw [ldi g1V (j := 1) rfl]
      simp only [pop_some, cun_neg]
      refine down59 (by omega) fun u => ⟨.refl _, ?_⟩
      obtain ⟨u2, hu2⟩ := cmm_min (P := Try.prog) (a := b) (b := u)
      rw [hu2]
      simp only [pop_some]
      generalize hMW : memJ MV _ (fun _ => true) _ = MW
      have hVW : MV.le MW := hMW ▸ view1 (.refl MV) (Nat.le_refl _) rfl
      clear hMW
      refine (g1V.le hVW).store (by simp [toL, sz3]) (by simp [toL]) rfl fun M2 hn2 hx2 ho2 => ?_
      have hWn := hVW.1
      refine fin ((gV.le hVW).wr hn2 hx2 (.inl ⟨c8, rfl⟩)) ho2 (by omega) fun x h1 h2 => ?_
      rw [hx2 x (by omega), hVW.2 x (by omega)]; exact hVx x h1 h2
    | false =>
      rw [cnd_false, cb_lss, pop_some]
      cases hd2 : decide (by' < 0) with
      | true =>
        have hd' : by' < 0 := by simpa using hd2
        simp only [cnd_true, fz25_0, pop_some]
        rw [ldi g1V (j := 0) rfl]
        simp only [pop_some, cun_neg]
        refine down59 (wrap_neg_ne hrg hd') fun u => ⟨.refl _, ?_⟩
        simp only [cun_neg, pop_some]
        obtain ⟨u2, hu2⟩ := cmm_max (P := Try.prog) (a := a) (b := IntKind.i64.wrap (-u))
        rw [hu2]
        simp only [pop_some]
        generalize hMW : memJ MV _ (fun _ => true) _ = MW
        have hVW : MV.le MW := hMW ▸ view1 (.refl MV) (Nat.le_refl _) rfl
        clear hMW
        refine (g1V.le hVW).store (by simp [toL, sz3]) (by simp [toL]) rfl fun M2 hn2 hx2 ho2 => ?_
        have hWn := hVW.1
        refine fin ((gV.le hVW).wr hn2 hx2 (.inl ⟨c8, rfl⟩)) ho2 (by omega) fun x h1 h2 => ?_
        rw [hx2 x (by omega), hVW.2 x (by omega)]; exact hVx x h1 h2
      | false =>
        rw [cnd_false]
        cases decide (0 < more) with
        | false => rw [cnd_false]; exact fin gV g1V (by omega) hVx
        | true =>
          simp only [cnd_true, fz25_1, pop_some]
          refine g1V.store (by simp [toL, sz3]) (by simp [toL]) rfl fun M2 hn2 hx2 ho2 => ?_
          have g2 := gV.wr hn2 hx2 (.inl ⟨c8, rfl⟩)
          exact ⟨some (.exit 1), _, rfl, g2.l, hF _ ⟨g2.put, a, -1, Own.put_ne ho2 (by omega)⟩⟩
  · simp only [CM.next_alloc]; omega
  · intro rb M' hM' hr1 hr2
    exact ⟨LS.init.le hM', a0, b0, (o8.alloc2).le hM'⟩
  · exact ⟨by simp only [CM.next_alloc]; omega, fun x hx => alloc2_get hx⟩
  · rintro M (⟨rb, g, a, b, g1⟩ | ⟨g, a, b, g1⟩)
    · have gP := g.put (R' := { REC with state := .exhausted })
      have gn := g.nx
      refine ⟨REC, g.l, (by intro h; cases h), .normal, rfl, ?_⟩
      exact hN .normal _ a b (.inl rfl) gP.d gP.nx (gP.since hle hWt) c8 (Own.put_ne g1 (by omega))
    · have gP := g.put (R' := { REC with state := .exhausted, pending := some (.exit 1) })
      have gn := g.nx
      refine ⟨_, g.l, (by intro h; cases h), .exit 1, rfl, ?_⟩
      exact hN (.exit 1) _ a b (.inr rfl) gP.d gP.nx (gP.since hle hWt) c8 (Own.put_ne g1 (by omega))
end Go.Proofs.Ytbgfkbdcpfngaaa.B
end
