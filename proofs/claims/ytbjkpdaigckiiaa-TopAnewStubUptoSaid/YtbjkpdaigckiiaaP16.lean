/- Part 16 of 23 of the proof that the law TopAnewStub returns true and leaves its argument as it read before, for every input that the bounded statement admits (what it reads is of bulk at most 1048576). -/
import Derived.Test.YtbjkpdaigckiiaaP06
import Derived.Test.YtbjkpdaigckiiaaP12
import Derived.Test.YtbjkpdaigckiiaaP15
section
open Go Go.Proofs Go.Proofs.Ytbjkpdaigckiiaa
set_option maxRecDepth 100000
namespace Go.Proofs.Ytbjkpdaigckiiaa
/-- Append of one row, each step in its own memory. -/
theorem appS {P : Program} {T E : TypeId} {m : CM} {K : Value → CM → Prop} {e : Nat} (h24 : e + 1 ≤ 16777216) {z : List Value} {by' : Nat} (un : P.underlying T = some (.slice E)) (sz : szOf P E = some (e + 1)) (ze : zeroL P E = some z) (hz : z.length = e + 1) (ha : appArg P T = true) (hby : bytesOf' P E = by') (h0 : 0 < by') (h64 : by' ≤ 64)
    {v x : Value} {bn : Option Nat} {cs : List Value} {n : Nat} (hv : HVe (e + 1) m v bn cs n) (hx : (toL x).length = e + 1) (h1 : (toL x).all one = true) (hB : n + 1 ≤ lim)
    (hK : ∀ m', m'.next = m.next + 2 → (∀ y, y < m.next → bn ≠ some y → m'.get y = m.get y) → Own m' (m.next + 1) (cs ++ toL x) (e + 1) → K (.slice (some ⟨m.next + 1, 0, none⟩) (n + 1) 0) m') :
    vop (cbuildS P T 1 [(0, x)] m) (fun t m1 => vop (cappend P [T, T] v t m1) K) := by
  have hb : cbuildS P T 1 [(0, x)] m = some (.slice (some ⟨m.next, 0, none⟩) 1 0, m.alloc (.cells (toL x) (e + 1) true)) := by
    have hd : z.drop (e + 1) = [] := List.drop_eq_nil_of_le (by omega)
    simp [cbuildS, un, sz, ze, zeros, cfill, hx, splice, hz, hd, h24]
  refine ⟨_, _, hb, ?_⟩
  generalize hMM : m.alloc (.cells (toL x) (e + 1) true) = M
  have hMn' : M.next = m.next + 1 := by rw [← hMM]; simp
  have hMg' : ∀ y, y < m.next → M.get y = m.get y := fun y hy => by rw [← hMM, CM.get_alloc, if_neg (by omega)]
  have hMo : Own M m.next (toL x) (e + 1) := ⟨by omega, by rw [← hMM, CM.get_alloc, if_pos rfl]⟩
  refine appG un sz ze hz ha hby h0 h64 (hv.of_get (by omega) fun y hy => hMg' y (hv.lt hy)) (k := 1) (vs := toL x) rfl ?_ (by omega) h1 (by omega) hB fun m' hn hg ho => ?_
  · simp [readS, hMo.2, hx, List.take_of_length_le]
  · rw [hMn'] at ho ⊢
    exact hK m' (by omega) (fun y hy hb => by rw [hg y (by omega) hb, hMg' y hy]) ho
theorem memJ_le {m : CM} {E : List Ent} {sel : Nat → Bool} {nx : Nat} (hn : m.next ≤ nx) (hE : ∀ e ∈ E, m.next ≤ e.lo) : m.le (memJ m E sel nx) :=
  ⟨hn, fun b hb => memJ_low m E sel nx b fun e he => Nat.lt_of_lt_of_le hb (hE e he)⟩
end Go.Proofs.Ytbjkpdaigckiiaa
namespace Go.Proofs.Ytbjkpdaigckiiaa.S
theorem cb_shl' {t : TypeId} {x y : Operand} {a b : Int} (h : 0 ≤ b) : ∃ n, n < 9223372036854775808 ∧ cbin Try.prog .shl t x y (.int .i64 a) (.int .i64 b) = some (.int .i64 n) := by
  refine ⟨IntKind.i64.wrap (a * 2 ^ (min b.toNat (IntKind.bits .i64))), ?_, ?_⟩
  · generalize a * 2 ^ (min b.toNat (IntKind.bits .i64)) = z
    simp [IntKind.wrap, IntKind.signed, IntKind.bits]; omega
  · have : ¬ b < 0 := by omega
    simp only [cbin, plainV, eqg, binOp_shl, Op.shift, Bool.and_self, if_true, if_neg this]
    rfl
theorem hcb111 (f : FuncId) : cbuild Try.prog 111 [(0, .func (.func f) ⟨[]⟩ ⟨[]⟩)] = some (.agg ⟨[.func (.func f) ⟨[]⟩ ⟨[]⟩]⟩) := by kernel_rfl
theorem hcb108z : cbuild Try.prog 108 [] = some (.agg ⟨[.int .i64 0, .int .i64 0, .int .i64 0]⟩) := by kernel_rfl
theorem hcb108 (n : Int) : cbuild Try.prog 108 [(2, .int .i64 n)] = some (.agg ⟨[.int .i64 0, .int .i64 0, .int .i64 n]⟩) := by kernel_rfl
theorem eq108 {x y : Operand} (a b c a' b' c' : Int) : ∃ t, cbin Try.prog BinOp.eql 108 x y (.agg ⟨[.int .i64 a, .int .i64 b, .int .i64 c]⟩) (.agg ⟨[.int .i64 a', .int .i64 b', .int .i64 c']⟩) = some (.bool t) := by
  refine eq_total (by kernel_rfl) rfl rfl (PrT.equal_struct Try.underlying108 (by kernel_rfl) _ _ _ fun fd hf => ?_)
  simp only [List.mem_cons, List.not_mem_nil, or_false] at hf
  rcases hf with rfl | rfl | rfl
  · exact ⟨.int .i64 a, .int .i64 a', by kernel_rfl, by kernel_rfl, PrT.equal_int Try.underlying3 _ _ _⟩
  · exact ⟨.int .i64 b, .int .i64 b', by kernel_rfl, by kernel_rfl, PrT.equal_int Try.underlying3 _ _ _⟩
  · exact ⟨.int .i64 c, .int .i64 c', by kernel_rfl, by kernel_rfl, PrT.equal_int Try.underlying3 _ _ _⟩
/-- What the measures are asked. -/
def MeasFn (F : Value) : Prop := ∀ (m' : CM) (a b c : Int) (K : Value → CM → Prop) (Kp : List PanicEntry → CM → Prop), (∀ m2 (x : Int), m'.le m2 → K (.int .i64 x) m2) → callv Try.prog F [.agg ⟨[.int .i64 a, .int .i64 b, .int .i64 c]⟩] m' K Kp
theorem meas60 : MeasFn (.func (.func 60) ⟨[]⟩ ⟨[]⟩) := fun m a b c K Kp hK => by
  show callw Try.prog 60 ([] ++ [_] ++ []) m K Kp
  apply c60
  unfold s60
  refine box_of fun t1 m1 hle1 hb1 ho1 => ?_
  replace ho1 : Own m1 t1 [.int .i64 a, .int .i64 b, .int .i64 c] 0 := ho1
  rw [fz108_0, pop_some, ldi ho1 (j := 0) rfl, pop_some, cun_neg, pop_some, leave1, RK_ret]
  exact hK _ _ hle1
theorem meas61 : MeasFn (.func (.func 61) ⟨[]⟩ ⟨[]⟩) := fun m a b c K Kp hK => by
  show callw Try.prog 61 ([] ++ [_] ++ []) m K Kp
  apply c61
  unfold s61
  refine box_of fun t1 m1 hle1 hb1 ho1 => ?_
  replace ho1 : Own m1 t1 [.int .i64 a, .int .i64 b, .int .i64 c] 0 := ho1
  rw [fz108_1, pop_some, ldi ho1 (j := 1) rfl, pop_some, leave1, RK_ret]
  exact hK _ _ hle1
theorem meas62 : MeasFn (.func (.func 62) ⟨[]⟩ ⟨[]⟩) := fun m a b c K Kp hK => by
  show callw Try.prog 62 ([] ++ [_] ++ []) m K Kp
  apply c62
  unfold s62
  refine box_of fun t1 m1 hle1 hb1 ho1 => ?_
  replace ho1 : Own m1 t1 [.int .i64 a, .int .i64 b, .int .i64 c] 0 := ho1
  rw [fz108_2, pop_some, ldi ho1 (j := 2) rfl, pop_some, cun_neg, pop_some, leave1, RK_ret]
  exact hK _ _ hle1
theorem isNaN85 {m : CM} {a : Int} {K : Value → CM → Prop} {Kp : List PanicEntry → CM → Prop} (hK : K (.bool false) m) : callw Try.prog 85 [.int .i64 a] m K Kp := by
  apply c85
  unfold s85
  rw [cb_neq, pop_some, leave1, RK_ret, show (a != a) = false by simp]
  exact hK
theorem compare64 {m : CM} {a b : Int} {K : Value → CM → Prop} {Kp : List PanicEntry → CM → Prop} (hK : ∀ x : Int, K (.int .i64 x) m) : callw Try.prog 64 [.int .i64 a, .int .i64 b] m K Kp := by
  apply c64
  unfold s64
  refine isNaN85 (isNaN85 ?_)
  rw [cnd_false, cnd_false, cb_lss, pop_some]
  cases decide (a < b) with
  | true => rw [cnd_true, leave1, RK_ret]; exact hK _
  | false =>
    rw [cnd_false, cb_gtr, pop_some]
    cases decide (b < a) with
    | true => rw [cnd_true, leave1, RK_ret]; exact hK _
    | false => rw [cnd_false, leave1, RK_ret]; exact hK _
theorem or63 {m : CM} {v : Value} {n : Nat} {x : Nat → Int} (hs : Sl 1 m v n (fun j => [.int .i64 (x j)])) (hn : n < 4611686018427387904) {K : Value → CM → Prop} {Kp : List PanicEntry → CM → Prop} (hK : ∀ x : Int, K (.int .i64 x) m) : callw Try.prog 63 [v] m K Kp := by
  apply c63
  unfold s63
  rw [hs.len Try.underlying25, pop_some]
  refine loopA_of (fun l ds m' => ds = [] ∧ m' = m ∧ ∃ i : Nat, i ≤ n ∧ l = [.int .i64 0, v, .int .i64 n, .int .i64 i])
    (fun l _ => match l with | [_, _, _, .int _ i] => n - i.toNat | _ => 0) ⟨rfl, rfl, 0, by omega, rfl⟩ ?_
  rintro X ρ ds m' ⟨rfl, rfl, i, hi, hl⟩ hX
  simp only [List.map_cons, List.map_nil, List.cons.injEq, and_true] at hl
  obtain ⟨q3, q6, q7, q8⟩ := hl
  simp only [q3, q6, q7, q8, cb_lss, pop_some]
  by_cases hci : i < n
  · have hc' : decide ((i : Int) < (n : Int)) = true := by simpa using hci
    obtain ⟨b, o, hia, hcel, hlen⟩ := hs.at Try.underlying25 sz3 (i := i) (by omega) (by omega)
    simp only [Int.toNat_natCast] at hcel hlen
    rw [hc', cnd_true, hia, pop_some, hcel.elv ag3 sz3 hlen (by decide), pop_some]
    show pop (cbin Try.prog BinOp.neq 3 (Operand.tmp 12) (Operand.tmp 13) (.int .i64 (x i)) (.int .i64 0)) m' _
    rw [cb_neq, pop_some]
    cases (x i != 0) with
    | true => rw [cnd_true, leave1, RK_ret]; exact hK _
    | false =>
      rw [cnd_false, cb_add, pop_some, wrap_id (by omega) (by omega)]
      refine hX _ _ _ ⟨rfl, rfl, i + 1, by omega, by simp⟩ ?_
      simp only [List.map_cons, List.map_nil, q8]; omega
  · have hc' : decide ((i : Int) < (n : Int)) = false := by simpa using hci
    rw [hc', cnd_false, leave1, RK_ret]
    exact hK _
end Go.Proofs.Ytbjkpdaigckiiaa.S
end

section
open Go Go.Proofs Go.Proofs.Ytbjkpdaigckiiaa
set_option maxRecDepth 100000
namespace Go.Proofs.Ytbjkpdaigckiiaa.S
theorem bag_row {cs : List Value} {c i : Nat} (hl : cs.length = c * 3) (hc : ∀ u ∈ cs, ∃ z, u = .int .i64 z) (hi : i < c) : BagRow (rowE 3 cs i) := by
  have hlen := rowE_len (e := 3) hl hi
  have hmem : ∀ u ∈ rowE 3 cs i, ∃ z, u = .int .i64 z := fun u hu => hc u (List.mem_of_mem_drop (List.mem_of_mem_take hu))
  generalize rowE 3 cs i = r at hlen hmem
  match r, hlen with
  | [x, y, z], _ =>
    obtain ⟨a, rfl⟩ := hmem x (by simp)
    obtain ⟨b, rfl⟩ := hmem y (by simp)
    obtain ⟨c, rfl⟩ := hmem z (by simp)
    exact ⟨a, b, c, rfl⟩
theorem keepX_new {m9 M2 M : CM} {t8 t11 : Nat} (h : KeepX m9 t8 M2) (k : KeepX M2 t11 M) (hn : m9.next ≤ t11) : KeepX m9 t8 M :=
  ⟨Nat.le_trans h.1 k.1, fun x hx hne => by rw [k.2 x (Nat.lt_of_lt_of_le hx h.1) (by omega)]; exact h.2 x hx hne⟩
theorem Own.c3 {M : CM} {t : Nat} {c : List Value} {g : Value} (h : Own M t c 0) (e : c = [g]) : Own M t [g] 0 := e ▸ h
set_option maxHeartbeats 2000000 in
theorem Best29 {d : BagsD} {m : CM} (hd : d.In m) {s f : Int} {K : Value → CM → Prop} {Kp : List PanicEntry → CM → Prop}
    (hK : ∀ m' v (c : Int), m.le m' → ResV 1 m m' v → K (.tuple ⟨[v, .int .i64 c]⟩) m') : callw Try.prog 29 [.agg ⟨[.int .i64 s, .int .i64 f]⟩, d.v] m K Kp := by
  apply c29
  unfold s29
  refine box_of fun t2 m1 hle1 hb2 ho2 => ?_
  replace ho2 : Own m1 t2 [.int .i64 s, .int .i64 f] 0 := ho2
  rw [lda ho2 ag27 sz27, pop_some]
  refine begin53 (hd.le hle1) fun m3 s' f' e hle3 hne => ?_
  have hle := hle1.trans hle3
  simp only [cext, List.getElem?_cons_zero, List.getElem?_cons_succ, pop_some, cb_neq]
  refine alw_of ze98 fun t6 m4 hle4 hb6 ho6 => store_own ho6 (by simp only [toL]; exact sz98) rfl rfl fun m5 hn5 hx5 ho6 => ?_
  simp only [toL] at ho6
  have hle5 := le_of_put hle4 hb6 hn5 hx5
  replace hle := hle.trans hle5
  cases hee : (e != 0) with
  | true => rw [cnd_true, leave2, RK_ret]; exact hK _ _ _ hle .nil
  | false =>
  have he0 : e = 0 := by simpa using hee
  subst he0
  have hn10 := hne rfl
  rw [cnd_false, hcb111, pop_some, hcb111, pop_some, hcb111, pop_some]
  generalize hF60 : Value.func (Fn.func 60) ⟨[]⟩ ⟨[]⟩ = F60
  generalize hF61 : Value.func (Fn.func 61) ⟨[]⟩ ⟨[]⟩ = F61
  generalize hF62 : Value.func (Fn.func 62) ⟨[]⟩ ⟨[]⟩ = F62
  have hm0 : MeasFn F60 := hF60 ▸ meas60
  have hm1 : MeasFn F61 := hF61 ▸ meas61
  have hm2 : MeasFn F62 := hF62 ▸ meas62
  have ho0 : one F60 = true := by subst hF60; rfl
  have ho1 : one F61 = true := by subst hF61; rfl
  have ho2 : one F62 = true := by subst hF62; rfl
  have hbs : cbuildS Try.prog 112 3 [(0, .agg ⟨[F60]⟩), (1, .agg ⟨[F61]⟩), (2, .agg ⟨[F62]⟩)] m5 = some (.slice (some ⟨m5.next, 0, none⟩) 3 0, m5.alloc (.cells [F60, F61, F62] 1 true)) := by
    simp [cbuildS, Try.underlying112, sz111, ze111, zeros, cfill, splice, toL]
  rw [hbs, vop_some, hcb108z, pop_some]
  generalize htb : m5.next = tb
  generalize hm6 : m5.alloc (.cells [F60, F61, F62] 1 true) = m6
  have hle6 : m5.le m6 := by subst hm6; exact ⟨by simp, fun y hy => by rw [CM.get_alloc, if_neg (by omega)]⟩
  have hob : Own m6 tb [F60, F61, F62] 1 := by subst hm6; exact ⟨by simp; omega, by rw [CM.get_alloc, if_pos htb.symm]⟩
  replace hle := hle.trans hle6
  replace ho6 := ho6.le hle6
  refine alw_of ze108 fun t8 m8 hle8 hb8 ho8 => store_own ho8 (by simp only [toL]; exact sz108) rfl rfl fun m9 hn9 hx9 ho8 => ?_
  simp only [toL] at ho8
  have hle9 := le_of_put hle8 hb8 hn9 hx9
  have h8m : m.next ≤ t8 := Nat.le_trans hle.1 hb8
  replace hle := hle.trans hle9
  have h6n : t6 ≠ t8 := by have := ho6.1; omega
  have hbn8 : tb ≠ t8 := by have := hob.1; omega
  replace ho6 := ho6.le hle9
  replace hob := hob.le hle9
  have h89 := ho8.1
  have hdn : ∀ {M : CM}, m.le M → clen Try.prog 28 d.v M = some (.int .i64 d.n) := fun h => (hd.le h).s.len Try.underlying28 _
  obtain ⟨N, hN, hsh⟩ := cb_shl' (t := 3) (x := .const (.int .i64 1)) (y := .tmp 33) (a := 1) (b := (d.n : Int)) (by omega)
  rw [hdn hle, pop_some, hsh, pop_some]
  refine loopA_of (fun l ds M => ds = [] ∧ KeepX m9 t8 M ∧ (∃ g n b : Int, Own M t8 [.int .i64 g, .int .i64 n, .int .i64 b] 0) ∧ ∃ i : Nat, l = [d.v, .slice none 0 0, .int .i64 0, .pointer (some ⟨t6, 0, none⟩), .slice (some ⟨tb, 0, none⟩) 3 0, .pointer (some ⟨t8, 0, none⟩), .int .i64 N, .int .i64 i])
    (fun l _ => match l with | [_, _, _, _, _, _, _, .int _ i] => (N - i).toNat | _ => 0) ⟨rfl, .refl m9 t8, ⟨0, 0, 0, ho8⟩, 0, rfl⟩ ?_
  rintro X1 ρ1 ds1 M ⟨rfl, hk, ⟨g, n, b, o8⟩, i, hl1⟩ hX1
  simp only [List.map_cons, List.map_nil, List.cons.injEq, and_true] at hl1
  obtain ⟨q1, q4, q5, q6, q7, q8, q34, q35⟩ := hl1
  simp only [q1, q4, q5, q6, q7, q8, q34, q35, cb_lss, pop_some]
  have hmM : m.le M := le_keepX hle hk h8m
  have hkn := hk.1
  by_cases hci : (i : Int) < N
  · -- one choice
    have hnext : ∀ M', KeepX m9 t8 M' → (∃ g n b : Int, Own M' t8 [.int .i64 g, .int .i64 n, .int .i64 b] 0) → j29_1 (RK K Kp) X1 (.int .i64 i) d.v (.slice none 0 0) (.int .i64 0) (.pointer (some ⟨t6, 0, none⟩)) (.slice (some ⟨tb, 0, none⟩) 3 0) (.pointer (some ⟨t8, 0, none⟩)) (.int .i64 N) [] M' := by
      intro M' hk' ho'
      unfold j29_1
      rw [cb_add, pop_some, wrap_id (by omega) (by omega)]
      refine hX1 _ _ _ ⟨rfl, hk', ho', i + 1, by simp⟩ ?_
      simp only [List.map_cons, List.map_nil, q35]; omega
    rw [show decide ((i : Int) < N) = true by simpa using hci, cnd_true, hcb108, pop_some]
    refine alw_of ze108 fun t11 Ma hlea hb11 ho11 => store_own ho11 (by simp only [toL]; exact sz108) rfl rfl fun M2 hn2 hx2 ho11 => ?_
    simp only [toL] at ho11
    have hle2 : M.le M2 := le_of_put hlea hb11 hn2 hx2
    have hk2 : KeepX m9 t8 M2 := hk.le hle2
    have o8' := o8.le hle2
    have hmM2 := hmM.trans hle2
    have h811 : t8 ≠ t11 := by have := o8.1; omega
    have h11l := ho11.1
    rw [hdn hmM2, pop_some]
    refine loopA_of (fun l ds M => ds = [] ∧ KeepX M2 t11 M ∧ (∃ g n b : Int, Own M t11 [.int .i64 g, .int .i64 n, .int .i64 b] 0) ∧ ∃ (k c : Nat) (v : Value) (bn : Option Nat) (cs : List Value), k ≤ d.n ∧ c ≤ k ∧ HVe 3 M v bn cs c ∧ (∀ y, bn = some y → M2.next ≤ y) ∧ (∀ u ∈ cs, ∃ z, u = .int .i64 z) ∧
        l = [d.v, .slice none 0 0, .int .i64 0, .pointer (some ⟨t6, 0, none⟩), .slice (some ⟨tb, 0, none⟩) 3 0, .pointer (some ⟨t8, 0, none⟩), .int .i64 i, v, .pointer (some ⟨t11, 0, none⟩), .int .i64 N, .int .i64 i, d.v, .int .i64 d.n, .int .i64 k])
      (fun l _ => match l with | [_, _, _, _, _, _, _, _, _, _, _, _, _, .int _ k] => d.n - k.toNat | _ => 0) ⟨rfl, .refl M2 t11, ⟨0, 0, i, ho11⟩, 0, 0, _, none, [], by omega, by omega, .nil, fun _ h => by simp at h, fun _ h => by simp at h, rfl⟩ ?_
    rintro X2 ρ2 ds2 M3 ⟨rfl, hk3, ⟨g1, n1, b1, o11⟩, k, c, v, bn, cs, hkd, hck, hv, hbn, hcs, hl2⟩ hX2
    simp only [List.map_cons, List.map_nil, List.cons.injEq, and_true] at hl2
    obtain ⟨r1, r4, r5, r6, r7, r8, r9, r10, r11, r34, r35, r40, r41, r42⟩ := hl2
    simp only [r1, r4, r5, r6, r7, r8, r9, r10, r11, r34, r35, r40, r41, r42, cb_lss, pop_some]
    have hmM3 : m.le M3 := le_keepX hmM2 hk3 (by have := hmM.1; omega)
    have hk3n := hk3.1
    by_cases hck2 : k < d.n
    · rw [show decide ((k : Int) < (d.n : Int)) = true by simpa using hck2, cnd_true]
      obtain ⟨bx, ox, hia, hcel, hlen⟩ := (hd.le hmM3).s.at Try.underlying28 sz104 (i := k) (by omega) (by omega)
      simp only [Int.toNat_natCast] at hcel hlen
      obtain ⟨a0, a1, a2, hr⟩ := hd.r k hck2
      rw [hr] at hcel hlen
      rw [hia, pop_some, hcel.elv ag104 sz104 hlen (by decide), pop_some]
      refine alw_of ze104 fun t13 Mb hleb hb13 ho13 => store_own ho13 (by simp only [elv, toL]; exact sz104) rfl rfl fun M4 hn4 hx4 ho13 => ?_
      simp only [elv, toL] at ho13
      have hle4' : M3.le M4 := le_of_put hleb hb13 hn4 hx4
      have hk4 : KeepX M2 t11 M4 := hk3.le hle4'
      have o11' := o11.le hle4'
      have hv4 := hv.le hle4'
      have h4n := hle4'.1
      rw [hdn (hmM3.trans hle4'), pop_some, cb_sub, pop_some, wrap_id (by omega) (by omega), cb_sub, pop_some, wrap_id (by omega) (by omega)]
      obtain ⟨z1, hz1⟩ := cb_shr (t := 3) (x := .tmp 47) (y := .tmp 52) (a := (i : Int)) (b := (d.n : Int) - 1 - (k : Int)) (by omega)
      obtain ⟨z2, hz2⟩ := cb_and (t := 3) (x := .tmp 53) (y := .const (.int .i64 1)) (a := z1) (b := 1)
      rw [hz1, pop_some, hz2, pop_some, cb_eql, pop_some]
      cases (z2 == 1) with
      | false =>
        rw [cnd_false]
        unfold j29_0
        rw [cb_add, pop_some, wrap_id (by omega) (by omega)]
        refine hX2 _ _ _ ⟨rfl, hk4, ⟨g1, n1, b1, o11'⟩, k + 1, c, v, bn, cs, by omega, by omega, hv4, hbn, hcs, by simp⟩ ?_
        simp only [List.map_cons, List.map_nil, r42]; omega
      | true =>
        rw [cnd_true, lda ho13 ag104 sz104, pop_some]
        refine appS (e := 2) (by omega) Try.underlying28 sz104 ze104 rfl ap28 by104 (by decide) (by decide) hv4 rfl rfl (by unfold lim; omega) fun M5 hn5' hg5 ho5 => ?_
        simp only [toL] at ho5
        have h13l := ho13.1
        have o11b : Own M5 t11 [.int .i64 g1, .int .i64 n1, .int .i64 b1] 0 := ⟨by omega, by rw [hg5 t11 (by omega) (fun e => by have := hbn _ e; omega)]; exact o11'.2⟩
        have o13b : Own M5 t13 [.int .i64 a0, .int .i64 a1, .int .i64 a2] 0 := ⟨by omega, by rw [hg5 t13 (by omega) (fun e => by have := hv.lt e; omega)]; exact ho13.2⟩
        simp only [fz108_0, fz108_1, fz104_0, fz50_0, pop_some]
        rw [ldi o11b (j := 0) rfl]
        simp only [pop_some]
        rw [ldi o13b (j := 0) rfl]
        simp only [pop_some, cb_add]
        rw [ldi o11b (j := 1) rfl]
        simp only [pop_some, cb_add]
        refine o11b.store (by simp [toL, sz3]) (by simp [toL]) rfl fun M6 hn6 hx6 o11c => ?_
        replace o11c : Own M6 t11 [.int .i64 (IntKind.i64.wrap (g1 + a0)), .int .i64 n1, .int .i64 b1] 0 := o11c
        refine o11c.store (by simp [toL, sz3]) (by simp [toL]) rfl fun M7 hn7 hx7 o11d => ?_
        replace o11d : Own M7 t11 [.int .i64 (IntKind.i64.wrap (g1 + a0)), .int .i64 (IntKind.i64.wrap (n1 + 1)), .int .i64 b1] 0 := o11d
        have hk7 : KeepX M2 t11 M7 := ⟨by omega, fun x hx hne => by
          rw [hx7 x hne, hx6 x hne, hg5 x (by omega) (fun e => by have := hbn _ e; omega)]; exact hk4.2 x hx hne⟩
        unfold j29_0
        rw [cb_add, pop_some, wrap_id (n := (k : Int) + 1) (by omega) (by omega)]
        have hlen5 := hv.len
        refine hX2 _ _ _ ⟨rfl, hk7, ⟨_, _, _, o11d⟩, k + 1, c + 1, _, some (M4.next + 1), cs ++ [.int .i64 a0, .int .i64 a1, .int .i64 a2], by omega, by omega, (HVe.blk ho5 (by simp; omega)).of_get (by omega) fun y hy => by cases hy; rw [hx7 _ (by omega), hx6 _ (by omega)], fun y hy => by cases hy; omega, fun u hu => ?_, by simp⟩ ?_
        · simp only [List.mem_append, List.mem_cons, List.not_mem_nil, or_false] at hu
          rcases hu with hu | rfl | rfl | rfl
          · exact hcs u hu
          · exact ⟨_, rfl⟩
          · exact ⟨_, rfl⟩
          · exact ⟨_, rfl⟩
        · simp only [List.map_cons, List.map_nil, r42]; omega
    · rw [show decide ((k : Int) < (d.n : Int)) = false by simpa using hck2, cnd_false]
      have hkM3 : KeepX m9 t8 M3 := keepX_new hk2 hk3 (by omega)
      have o8c : Own M3 t8 [.int .i64 g, .int .i64 n, .int .i64 b] 0 := Own.keepX o8' hk3 h811
      have o6c : Own M3 t6 [.int .i64 s', .int .i64 f'] 0 := Own.keepX ho6 hkM3 h6n
      have obc : Own M3 tb [F60, F61, F62] 1 := Own.keepX hob hkM3 hbn8
      rw [lda o11 ag108 sz108, pop_some, lda o8c ag108 sz108, pop_some]
      obtain ⟨tq, htq⟩ := eq108 (x := .tmp 72) (y := .tmp 73) g1 n1 b1 g n b
      rw [htq, pop_some]
      cases tq with
      | true =>
        simp only [gb_bool, Bool.true_beq, gop_false, cpick_bool, if_true, pop_some, cnd_true]
        exact hnext M3 hkM3 ⟨_, _, _, o8c⟩
      | false =>
        simp only [gb_bool, beq_self_eq_true, gop_true]
        rw [lda o6c ag98 sz98]
        simp only [pop_some]
        have hdl : BagsD.In ⟨v, c, rowE 3 cs⟩ M3 := ⟨hv.sl, fun j hj => bag_row hv.len hcs hj, by show c < _; omega⟩
        refine sure54 (d := ⟨v, c, rowE 3 cs⟩) hdl fun Mq x hleq => ?_
        simp only [cun_not, pop_some, cpick_bool, Bool.false_eq_true, if_false]
        have hkq : KeepX m9 t8 Mq := hkM3.le hleq
        have o8q := o8c.le hleq
        have o11q := o11.le hleq
        have obq := obc.le hleq
        cases x with
        | false => rw [show (!false) = true from rfl, cnd_true]; exact hnext Mq hkq ⟨_, _, _, o8q⟩
        | true =>
        rw [show (!true) = false from rfl, cnd_false, show clen Try.prog 112 (.slice (some ⟨tb, 0, none⟩) 3 0) Mq = some (.int .i64 ((3 : Nat) : Int)) by simp only [clen, Try.underlying112]; rfl, pop_some]
        refine loopA_of (fun l ds M => ds = [] ∧ Mq.le M ∧ ∃ (k : Nat) (o : Int), k ≤ 3 ∧ l = [d.v, .slice none 0 0, .int .i64 0, .pointer (some ⟨t6, 0, none⟩), .slice (some ⟨tb, 0, none⟩) 3 0, .pointer (some ⟨t8, 0, none⟩), .pointer (some ⟨t11, 0, none⟩), .int .i64 o, .int .i64 N, .int .i64 i, .slice (some ⟨tb, 0, none⟩) 3 0, .int .i64 ((3 : Nat) : Int), .int .i64 k])
          (fun l _ => match l with | [_, _, _, _, _, _, _, _, _, _, _, _, .int _ k] => 3 - k.toNat | _ => 0) ⟨rfl, .refl Mq, 0, 0, by omega, rfl⟩ ?_
        rintro X3 ρ3 ds3 M5 ⟨rfl, hle5', k3, o, hk3', hl3⟩ hX3
        simp only [List.map_cons, List.map_nil, List.cons.injEq, and_true] at hl3
        obtain ⟨u1, u4, u5, u6, u7, u8, u11, u14, u34, u35, u81, u82, u83⟩ := hl3
        simp only [u1, u4, u5, u6, u7, u8, u11, u14, u34, u35, u81, u82, u83, cb_lss, pop_some]
        by_cases hk4' : k3 < 3
        · rw [show decide ((k3 : Int) < ((3 : Nat) : Int)) = true by simp; omega, cnd_true]
          have hia : cia Try.prog 112 (.slice (some ⟨tb, 0, none⟩) 3 0) (.int .i64 k3) = some (.pointer (some ⟨tb, k3, none⟩)) := by
            simp [cia, Try.underlying112, sz111]; omega
          have hF : ∃ F, MeasFn F ∧ one F = true ∧ cload Try.prog 111 (.pointer (some ⟨tb, k3, none⟩)) M5 = some (.agg ⟨[F]⟩) := by
            have ob5 := obq.le hle5'
            have hza := fun j (hj : j + 1 ≤ [F60, F61, F62].length) => ob5.cel.za ag111 sz111 (j := j) hj
            rcases (by omega : k3 = 0 ∨ k3 = 1 ∨ k3 = 2) with rfl | rfl | rfl
            · exact ⟨F60, hm0, ho0, by simpa using hza 0 (by simp)⟩
            · exact ⟨F61, hm1, ho1, by simpa using hza 1 (by simp)⟩
            · exact ⟨F62, hm2, ho2, by simpa using hza 2 (by simp)⟩
          obtain ⟨F, hmF, hF1, hFl⟩ := hF
          rw [hia, pop_some, hFl, pop_some]
          refine alw_of ze111 fun t16 Mc hlec hb16 ho16 => store_own ho16 (by simp only [toL]; exact sz111) rfl (by simp [toL, hF1]) fun M6 hn6 hx6 ho16 => ?_
          simp only [toL] at ho16
          have hle6' : M5.le M6 := le_of_put hlec hb16 hn6 hx6
          have hq6 : Mq.le M6 := hle5'.trans hle6'
          have o8e := o8q.le hq6
          have o11e := o11q.le hq6
          rw [fz111_0, pop_some, ho16.cel.z ag109 (j := 0) rfl, pop_some, lda o11e ag108 sz108, pop_some]
          refine hmF M6 _ _ _ _ _ fun A x1 hA => ⟨hA, ?_⟩
          have hAn := hA.1
          rw [pop_some]
          generalize hV1 : memJ M6 _ (fun i => Nat.testBit 32 i) A.next = V1
          have hl1 : M6.le V1 := hV1 ▸ memJ_le hAn (by simp [hAn])
          rw [(ho16.le hl1).cel.z ag109 (j := 0) rfl, pop_some]
          generalize hV2 : memJ M6 _ (fun i => Nat.testBit 0 i) A.next = V2
          have hl2 : M6.le V2 := hV2 ▸ memJ_le hAn (by simp [hAn])
          rw [lda (o8e.le hl2) ag108 sz108, pop_some]
          generalize hV3 : memJ M6 _ (fun i => Nat.testBit 254 i) A.next = V3
          have hl3 : M6.le V3 := hV3 ▸ memJ_le hAn (by simp [hAn])
          have hV3n : V3.next = A.next := by rw [← hV3]; rfl
          refine hmF V3 _ _ _ _ _ fun B x2 hB => ⟨hB, ?_⟩
          have hBn : M6.next ≤ B.next := by have := hB.1; omega
          generalize hV4 : memJ M6 _ (fun i => Nat.testBit 510 i) B.next = V4
          have hl4 : M6.le V4 := hV4 ▸ memJ_le hBn (by simp [hAn])
          refine compare64 fun x3 => ⟨.refl V4, ?_⟩
          have hV4n : V4.next = B.next := by rw [← hV4]; rfl
          generalize hV5 : memJ M6 _ (fun _ => true) V4.next = V5
          have hl5 : M6.le V5 := hV5 ▸ memJ_le (by omega) (by simp [hAn, hBn])
          have hbs2 : cbuildS Try.prog 25 2 [(0, .int .i64 o), (1, .int .i64 x3)] V5 = some (.slice (some ⟨V5.next, 0, none⟩) 2 0, V5.alloc (.cells [.int .i64 o, .int .i64 x3] 1 true)) := by
            simp [cbuildS, Try.underlying25, sz3, ze3, zeros, cfill, splice, toL]
          rw [hbs2, vop_some]
          refine or63 (n := 2) (x := fun j => if j = 0 then o else x3) (.inr (.inl ⟨V5.next, 0, 0, _, true, rfl, by simp, by rw [CM.get_alloc, if_pos rfl], fun j hj => ⟨rfl, fun j' hj' => ?_⟩⟩)) (by omega) fun x4 => ?_
          · have hj0 : j' = 0 := by omega
            subst hj0
            rcases (by omega : j = 0 ∨ j = 1) with rfl | rfl <;> rfl
          · rw [cb_add, pop_some, wrap_id (by omega) (by omega)]
            have hl6 : V5.le (V5.alloc (.cells [.int .i64 o, .int .i64 x3] 1 true)) := ⟨by simp, fun y hy => by rw [CM.get_alloc, if_neg (by omega)]⟩
            refine hX3 _ _ _ ⟨rfl, (hq6.trans hl5).trans hl6, k3 + 1, x4, by omega, by simp⟩ ?_
            simp only [List.map_cons, List.map_nil, u83]; omega
        · rw [show decide ((k3 : Int) < ((3 : Nat) : Int)) = false by simp; omega, cnd_false]
          cases decide (o < 0) with
          | false => rw [cnd_false]; exact hnext M5 (hkq.le hle5') ⟨_, _, _, o8q.le hle5'⟩
          | true =>
            rw [cnd_true, lda (o11q.le hle5') ag108 sz108, pop_some]
            refine store_own (o8q.le hle5') (by simp only [toL]; exact sz108) rfl rfl fun M6 hn6 hx6 ho8f => ?_
            exact hnext M6 ((hkq.le hle5').put hn6 hx6) ⟨_, _, _, ho8f⟩
  · rw [show decide ((i : Int) < N) = false by simpa using hci, cnd_false, hdn hmM, pop_some]
    refine loopA_of (fun l ds M' => ds = [] ∧ M.le M' ∧ ∃ (k c : Nat) (v : Value) (bn : Option Nat) (cs : List Value), k ≤ d.n ∧ c ≤ k ∧ HVe 1 M' v bn cs c ∧ (∀ y, bn = some y → M.next ≤ y) ∧ (∀ u ∈ cs, ∃ z, u = .int .i64 z) ∧
        l = [d.v, v, .pointer (some ⟨t8, 0, none⟩), .int .i64 d.n, .int .i64 k])
      (fun l _ => match l with | [_, _, _, _, .int _ k] => d.n - k.toNat | _ => 0) ⟨rfl, .refl M, 0, 0, _, none, [], by omega, by omega, .nil, fun _ h => by simp at h, fun _ h => by simp at h, rfl⟩ ?_
    rintro X4 ρ4 ds4 M4 ⟨rfl, hle4', k, c, v, bn, cs, hkd, hck, hv, hbn, hcs, hl4⟩ hX4
    simp only [List.map_cons, List.map_nil, List.cons.injEq, and_true] at hl4
    obtain ⟨r1, r4, r8, r105, r106⟩ := hl4
    simp only [r1, r4, r8, r105, r106, cb_lss, pop_some]
    have hmM4 := hmM.trans hle4'
    have h4n := hle4'.1
    by_cases hck2 : k < d.n
    · rw [show decide ((k : Int) < (d.n : Int)) = true by simpa using hck2, cnd_true, fz108_2, pop_some, ldi (o8.le hle4') (j := 2) rfl, pop_some, hdn hmM4, pop_some, cb_sub, pop_some, wrap_id (by omega) (by omega), cb_sub, pop_some, wrap_id (by omega) (by omega)]
      obtain ⟨z1, hz1⟩ := cb_shr (t := 3) (x := .tmp 110) (y := .tmp 115) (a := b) (b := (d.n : Int) - 1 - (k : Int)) (by omega)
      obtain ⟨z2, hz2⟩ := cb_and (t := 3) (x := .tmp 116) (y := .const (.int .i64 1)) (a := z1) (b := 1)
      rw [hz1, pop_some, hz2, pop_some, cb_eql, pop_some]
      cases (z2 == 1) with
      | false =>
        rw [cnd_false]
        unfold j29_2
        rw [cb_add, pop_some, wrap_id (by omega) (by omega)]
        refine hX4 _ _ _ ⟨rfl, hle4', k + 1, c, v, bn, cs, by omega, by omega, hv, hbn, hcs, by simp⟩ ?_
        simp only [List.map_cons, List.map_nil, r106]; omega
      | true =>
        rw [cnd_true]
        have hlen := hv.len
        refine app1 Try.underlying25 sz3 ze3 ap25 by3 (by decide) (by decide) hv.hv rfl (by unfold lim; omega) fun b' M5 hb' hn5' hg5 ho5 => ?_
        unfold j29_2
        rw [cb_add, pop_some, wrap_id (by omega) (by omega)]
        have hcl : (cs ++ [Value.int .i64 k]).length = c + 1 := by simp; omega
        rw [hcl]
        refine hX4 _ _ _ ⟨rfl, ⟨by omega, fun y hy => by rw [hg5 y (by omega) (fun e => by have := hbn _ e; omega)]; exact hle4'.2 y hy⟩, k + 1, c + 1, _, some b', cs ++ [.int .i64 k], by omega, by omega, HVe.blk ho5 (by omega), fun y hy => by cases hy; omega, fun u hu => ?_, by simp⟩ ?_
        · simp only [List.mem_append, List.mem_cons, List.not_mem_nil, or_false] at hu
          rcases hu with hu | rfl
          · exact hcs u hu
          · exact ⟨_, rfl⟩
        · simp only [List.map_cons, List.map_nil, r106]; omega
    · rw [show decide ((k : Int) < (d.n : Int)) = false by simpa using hck2, cnd_false, leave2, RK_ret]
      exact hK M4 v 0 hmM4 ⟨bn, cs, c, hv, fun y hy => by have := hbn _ hy; have := hmM.1; omega, by omega, hcs⟩
end Go.Proofs.Ytbjkpdaigckiiaa.S
end

section
open Go Go.Proofs Go.Proofs.Ytbjkpdaigckiiaa
set_option maxRecDepth 100000
namespace Go.Proofs.Ytbjkpdaigckiiaa.S
section
variable {F : Keep} {h B : Nat} {m : CM} {K : Value → CM → Prop} {Kp : List PanicEntry → CM → Prop}
theorem p8 {n : Int} (hp : Hp F h B m) (hB : B + 1 ≤ lim) (hK : ∀ u m', Hp F h (B + 1) m' → K u m') : callw Try.prog 8 [.pointer (some ⟨h, 0, none⟩), .int .i64 n] m K Kp :=
  put8 F h B m [.int .i64 n] 1 K Kp hp (.cons (.i n) .nil) hB hK
theorem p9 {n : Int} (hp : Hp F h B m) (hB : B + 1 ≤ lim) (hK : ∀ u m', Hp F h (B + 1) m' → K u m') : callw Try.prog 9 [.pointer (some ⟨h, 0, none⟩), .int .i64 n] m K Kp :=
  put9 F h B m [.int .i64 n] 1 K Kp hp (.cons (.i n) .nil) hB hK
theorem p18 {a b : Int} (hp : Hp F h B m) (hB : B + 2 ≤ lim) (hK : ∀ u m', Hp F h (B + 2) m' → K u m') : callw Try.prog 18 [.pointer (some ⟨h, 0, none⟩), .agg ⟨[.int .i64 a, .int .i64 b]⟩] m K Kp :=
  put18 F h B m [.int .i64 a, .int .i64 b] 2 K Kp hp (.cons (.i a) (.cons (.i b) .nil)) hB hK
end
theorem wipe10 (M : CM) (K : Value → CM → Prop) (Kp : List PanicEntry → CM → Prop) (h : K (.tuple ⟨[]⟩) M) : callw Try.prog 10 [] M K Kp := c10 (by unfold s10; rw [leave0, RK_ret]; exact h)
theorem own_fw {m m' : CM} {h b e : Nat} {l : List Value} (ho : Own m b l e) (hb : b ≠ h) (hf : FW (keepBut m h) m') : Own m' b l e := by
  obtain ⟨h1, h2⟩ := hf _ _ (keepBut_get ho.1 hb)
  exact ⟨h1, by rw [h2]; exact ho.2⟩
theorem lm : (1000 : Nat) ≤ lim := by decide
/-- A closure that gives a slice, and its own that writes over it. -/
theorem clo_slice {T PUT g : Nat} {tv : CT} (ze : zeroL Try.prog T = some [.slice none 0 0]) (sz : szOf Try.prog T = some 1) (ag : aggB Try.prog T = some false) (hput : PutOk Try.prog PUT [tv] false)
    {m0 m1 : CM} {h k : Nat} {v : Value} {e : Int} {W : Nat → Prop} (hoh : Own m0 h [.slice none 0 0, .slice none 0 0] 0) (hle1 : m0.le m1) (h1v : toL v = [v] ∧ (toL v).all one = true)
    (hwt : ∀ m3, m1.le m3 → WT (keepBut m3 h) tv k v) (hk : k + 1 ≤ lim) (hW : ∀ x, W x → m0.next ≤ x ∧ x < m1.next)
    (hwipe : ∀ (t : Nat) (M : CM), Own M t [v] 0 → ¬ W t → (∀ x c e o, m0.next ≤ x → x < m1.next → m1.get x = some (.cells c e o) → M.get x = some (.cells c e o)) → m1.next ≤ M.next →
      ∀ (K : Value → CM → Prop) (Kp : List PanicEntry → CM → Prop), (∀ m', m'.next = M.next → (∀ x, ¬ W x → m'.get x = M.get x) → K (.tuple ⟨[]⟩) m') → callw Try.prog g [.pointer (some ⟨t, 0, none⟩)] M K Kp)
    {Kp1 Kp2 : List PanicEntry → CM → Prop} :
    alw Try.prog T m1 (fun t4 m => sop (cstore Try.prog T t4 v m) (fun _ m => pop (cload Try.prog T t4 m) m (fun t17 m => callw Try.prog PUT [.pointer (some ⟨h, 0, none⟩), t17] m (fun _ m => callw Try.prog 9 [.pointer (some ⟨h, 0, none⟩), .int .i64 e] m (fun _ m => leaveV Try.prog [.v (.func (Fn.func g) ⟨[]⟩ ⟨[t4]⟩)] [] .ret m (RK (CloPost Try.prog m0 h) (fun _ _ => False))) Kp1) Kp2))) := by
  obtain ⟨e1, e2⟩ := h1v
  have hhm := hoh.1
  have h1n := hle1.1
  refine alw_of ze fun b4 m2 hle2 hb4 ho4 => store_own ho4 (by simp [e1, sz]) (by simp [e1]) e2 fun m3 hn3 hx3 ho3 => ?_
  rw [e1] at ho3
  have h4h : b4 ≠ h := by omega
  have hle13 : m1.le m3 := le_of_put hle2 hb4 hn3 hx3
  have hle3 : m0.le m3 := hle1.trans hle13
  rw [ho3.cel.z ag rfl, pop_some]
  refine hput (keepBut m3 h) h 0 m3 [v] k _ _ (hp_but (hoh.le hle3)) (.cons (k' := 0) (hwt m3 hle13) .nil) (by omega) fun _ m4 hp => p9 hp (by omega) fun _ m5 hp => ?_
  rw [leave1, RK_ret]
  have h13n := hle13.1
  refine clo_of hoh.1 (fun x hx hne => by rw [keepBut_get (Nat.lt_of_lt_of_le hx hle3.1) hne, hle3.2 x hx]) hp (by omega) (W := W) (fun x hx => ⟨(hW x hx).1, _, keepBut_get (by have := (hW x hx).2; omega) (by have := (hW x hx).1; omega)⟩) rfl fun M hM hc => ?_
  have o5 := own_fw ho3 h4h hp.fw
  have oM : Own M b4 [v] 0 := ⟨by have := o5.1; omega, hc _ _ _ _ (by omega) o5.1 o5.2⟩
  have hkeep : ∀ x, x < m1.next → x ≠ h → m5.get x = m1.get x ∧ x < m5.next := fun x hx hne => by
    obtain ⟨g1, g2⟩ := hp.fw _ _ (keepBut_get (m := m3) (h := h) (x := x) (by omega) hne)
    exact ⟨by rw [g2, hle13.2 x hx], g1⟩
  refine hwipe b4 M oM (fun hw => by have := (hW b4 hw).2; omega) (fun x c e o q1 q2 q3 => ?_) ?_ _ _ fun m' q1 q2 => ⟨by omega, fun x _ hx => q2 x hx⟩
  · obtain ⟨g1, g2⟩ := hkeep x q2 (by omega)
    exact hc x c e o q1 g2 (by rw [g1]; exact q3)
  · by_cases hz : m1.next = 0
    · omega
    · by_cases hz2 : m1.next - 1 = h
      · have := o5.1; omega
      · have := (hkeep (m1.next - 1) (by omega) hz2).2; omega
theorem set52 {M : CM} {b o e : Nat} {c : List Value} (ho : Own M b c e) (hb : o < c.length) {K : Value → CM → Prop} {Kp : List PanicEntry → CM → Prop} (hK : ∀ m' c', m'.next = M.next → (∀ x, x ≠ b → m'.get x = M.get x) → Own m' b c' e → c'.length = c.length → K (.tuple ⟨[]⟩) m') :
    callw Try.prog 52 [.pointer (some ⟨b, o, none⟩)] M K Kp := by
  apply c52
  unfold s52
  simp only [cnilc, pop_some]
  refine ho.store (by simp [toL, sz3]) (by simp [toL]; omega) rfl fun m2 hn2 hx2 ho2 => ?_
  rw [leave0, RK_ret]
  exact hK _ _ hn2 hx2 ho2 (splice_at hb _)
theorem span47 {M : CM} {b o e : Nat} {c : List Value} (ho : Own M b c e) (hb : o + 1 < c.length) {K : Value → CM → Prop} {Kp : List PanicEntry → CM → Prop} (hK : ∀ m' c', m'.next = M.next → (∀ x, x ≠ b → m'.get x = M.get x) → Own m' b c' e → c'.length = c.length → K (.tuple ⟨[]⟩) m') :
    callw Try.prog 47 [.pointer (some ⟨b, o, none⟩)] M K Kp := by
  apply c47
  unfold s47
  simp only [cnilc, pop_some, fa50_0, fa50_1]
  refine set52 ho (by omega) fun m2 c2 hn2 hx2 ho2 hl2 => set52 ho2 (by omega) fun m3 c3 hn3 hx3 ho3 hl3 => ?_
  rw [leave0, RK_ret]
  exact hK _ _ (by omega) (fun x hx => by rw [hx3 x hx, hx2 x hx]) ho3 (by omega)
theorem spans46 {M : CM} {b n : Nat} {c : List Value} (ho : Own M b c 2) (hl : c.length = n * 2) (hn : n ≤ 100) {K : Value → CM → Prop} {Kp : List PanicEntry → CM → Prop} (hK : ∀ m' c', m'.next = M.next → (∀ x, x ≠ b → m'.get x = M.get x) → Own m' b c' 2 → c'.length = n * 2 → K (.tuple ⟨[]⟩) m') :
    callw Try.prog 46 [.slice (some ⟨b, 0, none⟩) n 0, .func (.func 47) ⟨[]⟩ ⟨[]⟩] M K Kp := by
  refine each_ok (T := 43) (I := 3) (fun h => c46 h) (n := n) (p := fun i => .pointer (some ⟨b, i * 2, none⟩)) (Inv := fun m' => m'.next = M.next ∧ (∀ x, x ≠ b → m'.get x = M.get x) ∧ ∃ c', Own m' b c' 2 ∧ c'.length = n * 2) (by omega) (fun m' => by simp [clen, Try.underlying43, goInt]) (fun i hi => by simp [cia, Try.underlying43, sz50, hi])
    (fun i m' K Kp hi hI hk => ?_) ⟨rfl, fun _ _ => rfl, c, ho, hl⟩ fun m' ⟨h1, h2, c', h3, h4⟩ => hK m' c' h1 h2 h3 h4
  obtain ⟨h1, h2, c', h3, h4⟩ := hI
  show callw Try.prog 47 ([] ++ [.pointer (some ⟨b, i * 2, none⟩)] ++ []) m' _ _
  exact span47 h3 (by omega) fun m2 c2 q1 q2 q3 q4 => hk m2 ⟨by omega, fun x hx => by rw [q2 x hx, h2 x hx], c2, q3, by omega⟩
theorem spans46n {M : CM} {K : Value → CM → Prop} {Kp : List PanicEntry → CM → Prop} (hK : K (.tuple ⟨[]⟩) M) : callw Try.prog 46 [.slice none 0 0, .func (.func 47) ⟨[]⟩ ⟨[]⟩] M K Kp :=
  each_ok (T := 43) (I := 3) (fun h => c46 h) (n := 0) (p := fun _ => undef) (Inv := fun m' => m' = M) (by omega) (fun m' => by simp [clen, Try.underlying43, goInt]) (fun i hi => by omega) (fun i m' K Kp hi => by omega) rfl fun m' h => by subst h; exact hK
/-- wipeSpans. -/
theorem wipe15 {M : CM} {t n : Nat} {v : Value} {bn : Option Nat} {c : List Value} {o : Nat} (hld : cload Try.prog 43 (.pointer (some ⟨t, o, none⟩)) M = some v) (hv : HVe 2 M v bn c n) (hn : n ≤ 100) {K : Value → CM → Prop} {Kp : List PanicEntry → CM → Prop}
    (hK : ∀ m' c', m'.next = M.next → (∀ x, bn ≠ some x → m'.get x = M.get x) → HVe 2 m' v bn c' n → K (.tuple ⟨[]⟩) m') : callw Try.prog 15 [.pointer (some ⟨t, o, none⟩)] M K Kp := by
  apply c15
  unfold s15
  simp only [cnilc, pop_some]
  rw [hld, pop_some]
  cases hv with
  | nil =>
    refine spans46n ?_
    rw [leave0, RK_ret]
    exact hK M [] rfl (fun _ _ => rfl) .nil
  | blk ho hl =>
    refine spans46 ho hl hn fun m2 c2 q1 q2 q3 q4 => ?_
    rw [leave0, RK_ret]
    exact hK m2 c2 q1 (fun x hx => q2 x fun e => hx (by rw [e])) (.blk q3 q4)
theorem row_int {e : Nat} {c : List Value} {i : Nat} (h : ∀ u ∈ c, ∃ k, u = .int .i64 k) : ∀ u ∈ rowE e c i, ∃ k, u = .int .i64 k := fun u hu => h u (List.mem_of_mem_drop (List.mem_of_mem_take hu))
theorem wtl1 {F : Keep} {l : List Value} (hl : l.length = 1) (h : ∀ u ∈ l, ∃ k, u = .int .i64 k) : WTL F [.i] 1 l := by
  match l, hl with
  | [a], _ =>
    obtain ⟨x, rfl⟩ := h a (by simp)
    exact .cons (k := 1) (k' := 0) (.i x) .nil
theorem wtl2 {F : Keep} {l : List Value} (hl : l.length = 2) (h : ∀ u ∈ l, ∃ k, u = .int .i64 k) : WTL F [.i, .i] 2 l := by
  match l, hl with
  | [a, b], _ =>
    obtain ⟨x, rfl⟩ := h a (by simp)
    obtain ⟨y, rfl⟩ := h b (by simp)
    exact .cons (k := 1) (k' := 1) (.i x) (.cons (k := 1) (k' := 0) (.i y) .nil)
theorem HVe.wt1 {m : CM} {h n : Nat} {v : Value} {bn : Option Nat} {c : List Value} (hv : HVe 1 m v bn c n) (hb : ∀ y, bn = some y → y ≠ h) (hi : ∀ u ∈ c, ∃ k, u = .int .i64 k) : WT (keepBut m h) (.sl [.i]) (1 + sumN (fun _ => 1) n) v :=
  hv.wt hb rfl (by decide) fun i hin => wtl1 (rowE_len hv.len hin) (row_int hi)
theorem HVe.wt2 {m : CM} {h n : Nat} {v : Value} {bn : Option Nat} {c : List Value} (hv : HVe 2 m v bn c n) (hb : ∀ y, bn = some y → y ≠ h) (hi : ∀ u ∈ c, ∃ k, u = .int .i64 k) : WT (keepBut m h) (.sl [.i, .i]) (1 + sumN (fun _ => 2) n) v :=
  hv.wt hb rfl (by decide) fun i hin => wtl2 (rowE_len hv.len hin) (row_int hi)
theorem HVe.to {e n m0 : Nat} {m1 M : CM} {v : Value} {bn : Option Nat} {c : List Value} (hv : HVe e m1 v bn c n) (hb : ∀ y, bn = some y → m0 ≤ y) (hc : ∀ x c e o, m0 ≤ x → x < m1.next → m1.get x = some (.cells c e o) → M.get x = some (.cells c e o)) (hn : m1.next ≤ M.next) : HVe e M v bn c n := by
  cases hv with
  | nil => exact .nil
  | blk ho hl => exact .blk ⟨Nat.lt_of_lt_of_le ho.1 hn, hc _ _ _ _ (hb _ rfl) ho.1 ho.2⟩ hl
theorem wipe23 {t : Nat} {v : Value} {bn : Option Nat} {cs : List Value} {m : CM} (ho : Own m t [v] 0) (hv : HV m v bn cs) (hlen : cs.length ≤ lim) {K : Value → CM → Prop} {Kp : List PanicEntry → CM → Prop} (hK : ∀ m', m'.next = m.next → (∀ x, bn ≠ some x → m'.get x = m.get x) → K (.tuple ⟨[]⟩) m') : callw Try.prog 23 [.pointer (some ⟨t, 0, none⟩)] m K Kp := by
  apply c23
  exact wipes_ok Try.underlying25 sz3 ag28 (fun h => c51 h) (fun h => c52 h) ho hv hlen (K := RK K Kp) fun m' h1 h2 => by rw [RK_ret]; exact hK m' h1 h2
section
variable {m0 m1 : CM} {h g : Nat} {v : Value} {e : Int} {Kp1 Kp2 : List PanicEntry → CM → Prop}
theorem clo19' (hoh : Own m0 h [.slice none 0 0, .slice none 0 0] 0) (hle1 : m0.le m1) (hv : ResV 1 m0 m1 v)
    (hg : ∀ (t : Nat) (M : CM) (K : Value → CM → Prop) (Kp : List PanicEntry → CM → Prop), (∀ {K' : Value → CM → Prop} {Kp' : List PanicEntry → CM → Prop}, (∀ m', K (.tuple ⟨[]⟩) m' → K' (.tuple ⟨[]⟩) m') → callw Try.prog 23 [.pointer (some ⟨t, 0, none⟩)] M K' Kp') → callw Try.prog g [.pointer (some ⟨t, 0, none⟩)] M K Kp) :
    alw Try.prog 25 m1 (fun t4 m => sop (cstore Try.prog 25 t4 v m) (fun _ m => pop (cload Try.prog 25 t4 m) m (fun t17 m => callw Try.prog 21 [.pointer (some ⟨h, 0, none⟩), t17] m (fun _ m => callw Try.prog 9 [.pointer (some ⟨h, 0, none⟩), .int .i64 e] m (fun _ m => leaveV Try.prog [.v (.func (Fn.func g) ⟨[]⟩ ⟨[t4]⟩)] [] .ret m (RK (CloPost Try.prog m0 h) (fun _ _ => False))) Kp1) Kp2))) := by
  obtain ⟨bn, cs, n, hv, hb, hn6, hi⟩ := hv
  have hhm := hoh.1
  have hl := lm
  refine clo_slice (W := fun x => bn = some x) (k := 1 + sumN (fun _ => 1) n) ze25 sz25 ag25 put21 hoh hle1 hv.toL1 (fun m3 hle3 => HVe.wt1 (hv.le hle3) (fun y hy => by have := hb y hy; omega) hi) (by rw [sumN_one]; omega) (fun x hx => ⟨hb x hx, hv.lt hx⟩) fun t M ho hw hc hn K Kp hK => ?_
  refine hg t M K Kp fun {K' Kp'} hKK => ?_
  have hv' := HVe.to hv hb hc hn
  refine wipe23 ho hv'.hv (by have := hv'.len; omega) fun m' q1 q2 => hKK m' (hK m' q1 q2)
theorem clo11' (hoh : Own m0 h [.slice none 0 0, .slice none 0 0] 0) (hle1 : m0.le m1) (hv : ResV 2 m0 m1 v) :
    alw Try.prog 43 m1 (fun t4 m => sop (cstore Try.prog 43 t4 v m) (fun _ m => pop (cload Try.prog 43 t4 m) m (fun t17 m => callw Try.prog 13 [.pointer (some ⟨h, 0, none⟩), t17] m (fun _ m => callw Try.prog 9 [.pointer (some ⟨h, 0, none⟩), .int .i64 e] m (fun _ m => leaveV Try.prog [.v (.func (Fn.func 14) ⟨[]⟩ ⟨[t4]⟩)] [] .ret m (RK (CloPost Try.prog m0 h) (fun _ _ => False))) Kp1) Kp2))) := by
  obtain ⟨bn, cs, n, hv, hb, hn6, hi⟩ := hv
  have hhm := hoh.1
  have hl := lm
  have hs := sumN_bound (ks := fun _ => 2) (c := 2) (n := n) fun _ _ => Nat.le_refl _
  refine clo_slice (W := fun x => bn = some x) (k := 1 + sumN (fun _ => 2) n) ze43 sz43 ag43 put13 hoh hle1 hv.toL1 (fun m3 hle3 => HVe.wt2 (hv.le hle3) (fun y hy => by have := hb y hy; omega) hi) (by omega) (fun x hx => ⟨hb x hx, hv.lt hx⟩) fun t M ho hw hc hn K Kp hK => ?_
  have hv' := HVe.to hv hb hc hn
  apply c14
  unfold s14
  refine wipe15 (ho.cel.z ag43 (j := 0) rfl) hv' (by omega) fun m' c' q1 q2 _ => ?_
  rw [leave0, RK_ret]
  exact hK m' q1 q2
end
end Go.Proofs.Ytbjkpdaigckiiaa.S
end

section
open Go Go.Proofs Go.Proofs.Ytbjkpdaigckiiaa
set_option maxRecDepth 100000
namespace Go.Proofs.Ytbjkpdaigckiiaa.S
/-! ### What the law is given -/
abbrev tysS : List CT := [.i, .sl [.s, .i, .i, .i], .sl [.i], .i, .i, .sl [.i, .i, .i], .i, .i, .i]
structure ArgD where
  l : LnD
  s : Int
  f : Int
  b : BagsD
  p : Int
  q : Int
  r : Int
abbrev ArgD.cells (x : ArgD) : List Value := [.int .i64 x.l.d.err, x.l.d.v, x.l.v, .int .i64 x.s, .int .i64 x.f, x.b.v, .int .i64 x.p, .int .i64 x.q, .int .i64 x.r]
theorem st4 {F : Keep} {k : Nat} {l : List Value} (h : WTL F [.s, .i, .i, .i] k l) : StepRow l := by
  obtain ⟨s, _, _, rfl, h, _⟩ := wtlS h
  obtain ⟨a, _, _, rfl, h, _⟩ := wtlI h
  obtain ⟨b, _, _, rfl, h, _⟩ := wtlI h
  obtain ⟨c, _, _, rfl, h, _⟩ := wtlI h
  rw [wtl0 h]
  exact ⟨s, a, b, c, rfl⟩
theorem bg3 {F : Keep} {k : Nat} {l : List Value} (h : WTL F [.i, .i, .i] k l) : BagRow l := by
  obtain ⟨a, _, _, rfl, h, _⟩ := wtlI h
  obtain ⟨b, _, _, rfl, h, _⟩ := wtlI h
  obtain ⟨c, _, _, rfl, h, _⟩ := wtlI h
  rw [wtl0 h]
  exact ⟨a, b, c, rfl⟩
theorem lim62 : lim < 4611686018427387904 := by decide
theorem argOf {F : Keep} {k : Nat} {l : List Value} (h : WTL F tysS k l) (hk : k ≤ lim) : ∃ x : ArgD, l = x.cells ∧ ∀ m, FW F m → x.l.In m ∧ x.b.In m := by
  have hl := lim62
  obtain ⟨er, k0, _, rfl, h, b0⟩ := wtlI h
  obtain ⟨vt, nt, rt, kt, k1, _, rfl, st, bt, ht, h, b1⟩ := wtlL h
  obtain ⟨vc, nc, cx, k6, _, rfl, sc, bc, h, b6⟩ := wtlLi h
  obtain ⟨i1, k7, _, rfl, h, b7⟩ := wtlI h
  obtain ⟨i2, k8, _, rfl, h, b8⟩ := wtlI h
  obtain ⟨vb, nb, rb, kb, k2, _, rfl, sb, bb, hb, h, b2⟩ := wtlL h
  obtain ⟨i3, _, _, rfl, h, _⟩ := wtlI h
  obtain ⟨i4, _, _, rfl, h, _⟩ := wtlI h
  obtain ⟨i5, _, _, rfl, h, _⟩ := wtlI h
  rw [wtl0 h]
  exact ⟨⟨⟨⟨er, vt, nt, rt⟩, vc, nc, cx⟩, i1, i2, ⟨vb, nb, rb⟩, i3, i4, i5⟩, rfl, fun m hm => ⟨⟨⟨st m hm, fun i hi => st4 (ht i hi).1, by show nt < _; omega⟩, sc m hm, by show nc < _; omega⟩, ⟨sb m hm, fun i hi => bg3 (hb i hi).1, by show nb < _; omega⟩⟩⟩
section
variable {x : ArgD} {t : Nat} {m : CM}
theorem la24 (h : Own m t x.cells 0) : cload Try.prog 24 (.pointer (some ⟨t, 0, none⟩)) m = some (.agg ⟨x.l.d.cells⟩) := h.cel.za ag24 sz24 (j := 0) (by simp)
theorem la25 (h : Own m t x.cells 0) : cload Try.prog 25 (.pointer (some ⟨t, 2, none⟩)) m = some x.l.v := h.cel.z ag25 rfl
theorem la27 (h : Own m t x.cells 0) : cload Try.prog 27 (.pointer (some ⟨t, 3, none⟩)) m = some (.agg ⟨[.int .i64 x.s, .int .i64 x.f]⟩) := h.cel.za ag27 sz27 (j := 3) (by simp)
theorem la28 (h : Own m t x.cells 0) : cload Try.prog 28 (.pointer (some ⟨t, 5, none⟩)) m = some x.b.v := h.cel.z ag28 rfl
end
section
variable {k : Nat} {l : List Value}
theorem clo6 (hk : k ≤ lim) : CloOk Try.prog tysS k l 6 := by
  intro F m h t hw hf hFh ho hth hoh
  obtain ⟨x, rfl, hin⟩ := argOf hw hk
  obtain ⟨hd, he⟩ := hin m hf
  have hl := lm
  apply c6
  unfold s6
  rw [fz30_0, pop_some, la24 ho, pop_some]
  refine check7 hd.d fun p a e m1 hle1 _ => ?_
  simp only [cext, List.getElem?_cons_zero, List.getElem?_cons_succ, pop_some]
  refine p8 (hp_but (hoh.le hle1)) (by omega) fun _ m2 hp => p8 hp (by omega) fun _ m3 hp => p9 hp (by omega) fun _ m4 hp => ?_
  rw [leave1, RK_ret]
  exact clo_nothing hoh hle1 hp (by omega) wipe10
theorem clo11 (hk : k ≤ lim) : CloOk Try.prog tysS k l 11 := by
  intro F m h t hw hf hFh ho hth hoh
  obtain ⟨x, rfl, hin⟩ := argOf hw hk
  obtain ⟨hd, he⟩ := hin m hf
  apply c11
  unfold s11
  rw [fz30_0, pop_some, la24 ho, pop_some, fz30_1, pop_some, la25 ho, pop_some]
  refine Weights12 hd fun m1 v e hle1 hv => ?_
  simp only [cext, List.getElem?_cons_zero, List.getElem?_cons_succ, pop_some]
  exact clo11' hoh hle1 hv
theorem clo_span {m0 m1 : CM} {h : Nat} {a b e : Int} (hoh : Own m0 h [.slice none 0 0, .slice none 0 0] 0) (hle1 : m0.le m1) {Kp1 Kp2 : List PanicEntry → CM → Prop} :
    alw Try.prog 50 m1 (fun t4 m => sop (cstore Try.prog 50 t4 (.agg ⟨[.int .i64 a, .int .i64 b]⟩) m) (fun _ m => pop (cload Try.prog 50 t4 m) m (fun t19 m => callw Try.prog 18 [.pointer (some ⟨h, 0, none⟩), t19] m (fun _ m => callw Try.prog 9 [.pointer (some ⟨h, 0, none⟩), .int .i64 e] m (fun _ m => leaveV Try.prog [.v (.func (.func 10) ⟨[]⟩ ⟨[]⟩)] [] .ret m (RK (CloPost Try.prog m0 h) (fun _ _ => False))) Kp1) Kp2))) := by
  have hl := lm
  refine alw_of ze50 fun b4 m2 hle2 hb4 ho4 => store_own ho4 (by simp [toL, sz50]) (by simp [toL]) rfl fun m3 hn3 hx3 ho3 => ?_
  simp only [toL] at ho3
  have hle3 := le_of_put (hle1.trans hle2) (by have := hle1.1; omega) hn3 hx3
  rw [lda ho3 ag50 sz50, pop_some]
  refine p18 (hp_but (hoh.le hle3)) (by omega) fun _ m4 hp => p9 hp (by omega) fun _ m5 hp => ?_
  rw [leave1, RK_ret]
  exact clo_nothing hoh hle3 hp (by omega) wipe10
theorem clo16 (hk : k ≤ lim) : CloOk Try.prog tysS k l 16 := by
  intro F m h t hw hf hFh ho hth hoh
  obtain ⟨x, rfl, hin⟩ := argOf hw hk
  obtain ⟨hd, he⟩ := hin m hf
  apply c16
  unfold s16
  rw [fz30_0, pop_some, la24 ho, pop_some, fz30_1, pop_some, la25 ho, pop_some, fz30_4, pop_some, ldi ho (j := 6) (n := x.p) rfl, pop_some, fz30_5, pop_some, ldi ho (j := 7) (n := x.q) rfl, pop_some]
  refine Lost17 hd fun m1 a b e hle1 => ?_
  simp only [cext, List.getElem?_cons_zero, List.getElem?_cons_succ, pop_some]
  exact clo_span hoh hle1
theorem clo19 (hk : k ≤ lim) : CloOk Try.prog tysS k l 19 := by
  intro F m h t hw hf hFh ho hth hoh
  obtain ⟨x, rfl, hin⟩ := argOf hw hk
  obtain ⟨hd, he⟩ := hin m hf
  apply c19
  unfold s19
  rw [fz30_0, pop_some, la24 ho, pop_some, fz30_1, pop_some, la25 ho, pop_some]
  refine Cheats20 hd fun m1 v e hle1 hv => ?_
  simp only [cext, List.getElem?_cons_zero, List.getElem?_cons_succ, pop_some]
  refine clo19' hoh hle1 hv fun t M K Kp hg => ?_
  apply c22
  unfold s22
  exact hg fun m' h => by rw [leave0, RK_ret]; exact h
theorem clo24 (hk : k ≤ lim) : CloOk Try.prog tysS k l 24 := by
  intro F m h t hw hf hFh ho hth hoh
  obtain ⟨x, rfl, hin⟩ := argOf hw hk
  obtain ⟨hd, he⟩ := hin m hf
  apply c24
  unfold s24
  rw [fz30_0, pop_some, la24 ho, pop_some, fz30_1, pop_some, la25 ho, pop_some, fz30_6, pop_some, ldi ho (j := 8) (n := x.r) rfl, pop_some]
  refine Off25 hd fun m1 a b e hle1 => ?_
  simp only [cext, List.getElem?_cons_zero, List.getElem?_cons_succ, pop_some]
  exact clo_span hoh hle1
theorem clo26 (hk : k ≤ lim) : CloOk Try.prog tysS k l 26 := by
  intro F m h t hw hf hFh ho hth hoh
  obtain ⟨x, rfl, hin⟩ := argOf hw hk
  obtain ⟨hd, he⟩ := hin m hf
  have hl := lm
  apply c26
  unfold s26
  rw [fz30_2, pop_some, la27 ho, pop_some, fz30_3, pop_some, la28 ho, pop_some]
  refine Judge27 he fun m1 a e hle1 => ?_
  simp only [cext, List.getElem?_cons_zero, List.getElem?_cons_succ, pop_some]
  refine p8 (hp_but (hoh.le hle1)) (by omega) fun _ m2 hp => p9 hp (by omega) fun _ m4 hp => ?_
  rw [leave1, RK_ret]
  exact clo_nothing hoh hle1 hp (by omega) wipe10
theorem clo28 (hk : k ≤ lim) : CloOk Try.prog tysS k l 28 := by
  intro F m h t hw hf hFh ho hth hoh
  obtain ⟨x, rfl, hin⟩ := argOf hw hk
  obtain ⟨hd, he⟩ := hin m hf
  apply c28
  unfold s28
  rw [fz30_2, pop_some, la27 ho, pop_some, fz30_3, pop_some, la28 ho, pop_some]
  refine Best29 he fun m1 v e hle1 hv => ?_
  simp only [cext, List.getElem?_cons_zero, List.getElem?_cons_succ, pop_some]
  refine clo19' hoh hle1 hv fun t M K Kp hg => ?_
  apply c30
  unfold s30
  exact hg fun m' h => by rw [leave0, RK_ret]; exact h
end
end Go.Proofs.Ytbjkpdaigckiiaa.S
end
