/- Part 13 of 21 of the proof that the law TopAnewScent returns true and leaves its argument as it read before, for every input that the bounded statement admits (what it reads is of bulk at most 1048576). -/
import Derived.Test.YtclgfagkaklnnaaGreatP12
section
open Go Go.Proofs Go.Proofs.YtclgfagkaklnnaaGreat
set_option maxRecDepth 100000
namespace Go.Proofs.YtclgfagkaklnnaaGreat.C
theorem hcb99 : cbuild Tryz.prog 99 [] = some (.agg ⟨ints (List.replicate 10 0)⟩) := by kernel_rfl
theorem eq99 (a0 a1 a2 a3 a4 a5 a6 a7 a8 a9 : Int) : ∃ b, cbin Tryz.prog .eql 99 (Operand.tmp 31) (Operand.tmp 32) (.agg ⟨ints [a0, a1, a2, a3, a4, a5, a6, a7, a8, a9]⟩) (.agg ⟨ints (List.replicate 10 0)⟩) = some (.bool b) := by
  rcases a0 with (_ | n) | n
  case ofNat.succ => exact ⟨false, by kernel_rfl⟩
  case negSucc => exact ⟨false, by kernel_rfl⟩
  rcases a1 with (_ | n) | n
  case ofNat.succ => exact ⟨false, by kernel_rfl⟩
  case negSucc => exact ⟨false, by kernel_rfl⟩
  rcases a2 with (_ | n) | n
  case ofNat.succ => exact ⟨false, by kernel_rfl⟩
  case negSucc => exact ⟨false, by kernel_rfl⟩
  rcases a3 with (_ | n) | n
  case ofNat.succ => exact ⟨false, by kernel_rfl⟩
  case negSucc => exact ⟨false, by kernel_rfl⟩
  rcases a4 with (_ | n) | n
  case ofNat.succ => exact ⟨false, by kernel_rfl⟩
  case negSucc => exact ⟨false, by kernel_rfl⟩
  rcases a5 with (_ | n) | n
  case ofNat.succ => exact ⟨false, by kernel_rfl⟩
  case negSucc => exact ⟨false, by kernel_rfl⟩
  rcases a6 with (_ | n) | n
  case ofNat.succ => exact ⟨false, by kernel_rfl⟩
  case negSucc => exact ⟨false, by kernel_rfl⟩
  rcases a7 with (_ | n) | n
  case ofNat.succ => exact ⟨false, by kernel_rfl⟩
  case negSucc => exact ⟨false, by kernel_rfl⟩
  rcases a8 with (_ | n) | n
  case ofNat.succ => exact ⟨false, by kernel_rfl⟩
  case negSucc => exact ⟨false, by kernel_rfl⟩
  rcases a9 with (_ | n) | n
  case ofNat.succ => exact ⟨false, by kernel_rfl⟩
  case negSucc => exact ⟨false, by kernel_rfl⟩
  exact ⟨true, by kernel_rfl⟩
theorem eq99l {l : List Int} (hl : l.length = 10) : ∃ b, cbin Tryz.prog .eql 99 (Operand.tmp 31) (Operand.tmp 32) (.agg ⟨ints l⟩) (.agg ⟨ints (List.replicate 10 0)⟩) = some (.bool b) := by
  match l, hl with
  | [a0, a1, a2, a3, a4, a5, a6, a7, a8, a9], _ => exact eq99 ..
theorem lmicro {m : CM} {b : Nat} {x : BatD} (hx : x.Sz) (h : Own m b x.cells 0) : cload Tryz.prog 99 (.pointer (some ⟨b, 5, none⟩)) m = some (.agg ⟨ints x.mi⟩) := by
  rw [h.cel.za ag99 (k := 10) sz99 (j := 5) (by rw [BatD.len hx]; omega), micro_of hx]
theorem lmi {m : CM} {b : Nat} {x : BatD} (hx : x.Sz) (h : Own m b x.cells 0) {j : Nat} (hj : j < 10) : cload Tryz.prog 3 (.pointer (some ⟨b, 5 + j, none⟩)) m = some (.int .i64 (x.mi.getD j 0)) := h.cel.z ag3 (BatD.getM hx hj)
/-- A thing of the shop as it is loaded and put into a block of its own. -/
theorem thRow {d : ShopD} {m : CM} (hd : d.In m) {i : Nat} (hi : i < d.nt) : ∃ p s k l w f, d.rt i = [.string s, .int .i64 k, .int .i64 l, .int .i64 w, .int .i64 f] ∧ cia Tryz.prog 22 d.vt (.int .i64 i) = some p ∧ ∀ m', m.le m' → cload Tryz.prog 80 p m' = some (.agg ⟨[.string s, .int .i64 k, .int .i64 l, .int .i64 w, .int .i64 f]⟩) := by
  obtain ⟨bx, ox, hia, hcel, hlen⟩ := hd.st.at Tryz.underlying22 sz80 (i := i) (by omega) (by omega)
  simp only [Int.toNat_natCast] at hcel hlen
  obtain ⟨s, k, l, w, f, hr⟩ := hd.rt0 i hi
  refine ⟨_, s, k, l, w, f, hr, hia, fun m' hle => ?_⟩
  rw [(hcel.le hle).elv ag80 sz80 hlen (by decide), hr]
  rfl
theorem Keeps25 {d : ShopD} {e : BatsD} {m : CM} (hd : d.In m) (he : e.In m) {K : Value → CM → Prop} {Kp : List PanicEntry → CM → Prop}
    (hK : ∀ m' (a b c : Int), m.le m' → K (.tuple ⟨[.int .i64 a, .int .i64 b, .int .i64 c]⟩) m') : callw Tryz.prog 25 [.agg ⟨d.cells⟩, e.v] m K Kp := by
  apply c25
  unfold s25
  refine box_of fun t2 m1 hle1 hb1 ho1 => ?_
  replace ho1 : Own m1 t2 d.cells 0 := ho1
  rw [lda ho1 ag25 sz25, pop_some]
  refine melt51 (hd.le hle1) (he.le hle1) fun m2 va c hle2 hnil hM => ?_
  have hle := hle1.trans hle2
  simp only [cext, List.getElem?_cons_zero, List.getElem?_cons_succ, pop_some, cb_neq]
  cases hc : (c != 0) with
  | true => rw [cnd_true]; refine ⟨fun l => by simp, ?_⟩; rw [leave3, RK_ret]; exact hK _ _ _ _ hle
  | false =>
  obtain ⟨bs, xs, hM⟩ := hM (by simpa using hc)
  have hn := hM.n; have hn6 := hM.n1; have hnt := hM.d.nt1
  replace ho1 := ho1.le hle2
  rw [cnd_false, hM.sl.len Tryz.underlying91, pop_some]
  have hend : ∀ {m' : CM} {a b : Int}, m2.le m' → j25_1 (RK K Kp) (.int .i64 a) (.int .i64 b) [] m' := fun h => ⟨fun l => by simp, by rw [leave3, RK_ret]; exact hK _ _ _ _ (hle.trans h)⟩
  refine loopA_of (fun l0 ds m' => ds = [] ∧ m2.le m' ∧ ∃ (i : Nat) (a b : Int), i ≤ bs.length ∧ l0 = [.pointer (some ⟨t2, 0, none⟩), .int .i64 a, .int .i64 b, va, .int .i64 bs.length, .int .i64 i])
    (fun l _ => match l with | [_, _, _, _, _, .int _ i] => bs.length - i.toNat | _ => 0) ⟨rfl, .refl m2, 0, _, _, by omega, rfl⟩ ?_
  rintro X ρ ds m' ⟨rfl, hle', i, a, b, hi, hll⟩ hX
  simp only [List.map_cons, List.map_nil, List.cons.injEq, and_true] at hll
  obtain ⟨p2, p4, p5, p21, p22, p23⟩ := hll
  simp only [p2, p4, p5, p21, p22, p23, cb_lss, pop_some]
  by_cases hci : i < bs.length
  · have hc' : decide ((i : Int) < (bs.length : Int)) = true := by simpa using hci
    obtain ⟨p, c, hia, hld, hown⟩ := hM.at hci
    have hsz := (hM.ok _ hci).sz
    rw [hc', cnd_true, hia, pop_some, hld _ hle', pop_some]
    simp only [cnilc, fz101_3, pop_some]
    rw [lmicro hsz (hown _ hle')]
    simp only [pop_some]
    rw [hcb99]
    simp only [pop_some]
    obtain ⟨bb, hbb⟩ := eq99l hsz.mi
    rw [hbb, pop_some]
    have hnext : ∀ {m3 : CM} {a b : Int}, m2.le m3 → j25_0 (RK K Kp) X (.int .i64 i) (.pointer (some ⟨t2, 0, none⟩)) (.int .i64 a) (.int .i64 b) va (.int .i64 bs.length) [] m3 := by
      intro m3 a b h3
      unfold j25_0
      rw [cb_add, pop_some, wrap_id (by omega) (by omega)]
      refine hX _ _ _ ⟨rfl, h3, i + 1, a, b, by omega, by simp⟩ ?_
      simp only [List.map_cons, List.map_nil, p23]; omega
    cases bb with
    | true => rw [cnd_true]; exact hnext hle'
    | false =>
    rw [cnd_false, fz25_0, pop_some, (ho1.le hle').cel.z ag22 (j := 0) rfl, pop_some, (hd.le (hle.trans hle')).st.len Tryz.underlying22, pop_some]
    refine loopA_of (fun l0 ds m3 => ds = [] ∧ m2.le m3 ∧ ∃ (j : Nat), j ≤ d.nt ∧ l0 = [.pointer (some ⟨t2, 0, none⟩), .int .i64 a, .int .i64 b, .int .i64 i, .pointer (some ⟨c, 0, none⟩), va, .int .i64 bs.length, .int .i64 i, d.vt, .int .i64 d.nt, .int .i64 j])
      (fun l _ => match l with | [_, _, _, _, _, _, _, _, _, _, .int _ i] => d.nt - i.toNat | _ => 0) ⟨rfl, hle', 0, by omega, rfl⟩ ?_
    rintro X2 ρ2 ds m3 ⟨rfl, hle3, j, hj, hll⟩ hX2
    simp only [List.map_cons, List.map_nil, List.cons.injEq, and_true] at hll
    obtain ⟨r2, r4, r5, r8, r9, r21, r22, r23, r35, r36, r37⟩ := hll
    simp only [r2, r4, r5, r8, r9, r21, r22, r23, r35, r36, r37, cb_lss, pop_some]
    by_cases hcj : j < d.nt
    · have hc' : decide ((j : Int) < (d.nt : Int)) = true := by simpa using hcj
      obtain ⟨p, s, k, l, w, f, hr, hia, hld⟩ := thRow hd hcj
      rw [hc', cnd_true, hia, pop_some, hld _ (hle.trans hle3), pop_some]
      refine alw_of ze80 fun b9 m4 hle4 hb9 ho9 => store_own ho9 (by simp [toL, sz80]) (by simp [toL]) rfl fun m5 hn5 hx5 ho9 => ?_
      simp only [toL] at ho9
      have hle5 := le_of_put (hle3.trans hle4) (by have := hle3.1; omega) hn5 hx5
      simp only [cnilc, fz101_3, pop_some, cia99 _ _ (show j < 5 by omega), fa59_1, fz80_2, fz101_1]
      rw [show 5 + j * 2 + 1 = 5 + (j * 2 + 1) by omega, lmi hsz (hown _ hle5) (by omega)]
      simp only [pop_some]
      rw [ldi ho9 (j := 2) rfl]
      simp only [pop_some]
      rw [ldi (hown _ hle5) (n := (xs i).w) rfl]
      simp only [pop_some, cb_mul, cb_gtr]
      cases decide (IntKind.i64.wrap (l * (xs i).w) < (xs i).mi.getD (j * 2 + 1) 0) with
      | true => rw [cnd_true]; exact hend hle5
      | false =>
        rw [cnd_false, cb_add, pop_some, wrap_id (by omega) (by omega)]
        refine hX2 _ _ _ ⟨rfl, hle5, j + 1, by omega, by simp⟩ ?_
        simp only [List.map_cons, List.map_nil, r37]; omega
    · have hc' : decide ((j : Int) < (d.nt : Int)) = false := by simpa using hcj
      rw [hc', cnd_false]
      exact hnext hle3
  · have hc' : decide ((i : Int) < (bs.length : Int)) = false := by simpa using hci
    rw [hc', cnd_false]
    exact hend hle'
end Go.Proofs.YtclgfagkaklnnaaGreat.C
end

section
open Go Go.Proofs Go.Proofs.YtclgfagkaklnnaaGreat
set_option maxRecDepth 100000
namespace Go.Proofs.YtclgfagkaklnnaaGreat.C
theorem cb_rem {t : TypeId} {x y : Operand} {k : IntKind} {a b : Int} (h : b ≠ 0) : cbin Tryz.prog .rem t x y (.int k a) (.int k b) = some (.int k (a.tmod b)) := by simp [cbin, plainV, eqg, binOp_rem, Op.intDiv, h, pr_pure, chk]
theorem down61 {m : CM} {a b : Int} (hb : b ≠ 0) {K : Value → CM → Prop} {Kp : List PanicEntry → CM → Prop} (hK : ∀ n : Int, K (.int .i64 n) m) : callw Tryz.prog 61 [.int .i64 a, .int .i64 b] m K Kp := by
  apply c61
  unfold s61
  rw [cb_quo hb, pop_some, cb_rem hb, pop_some, cb_lss, pop_some]
  unfold j61_0
  cases decide (a.tmod b < 0) with
  | true => rw [cnd_true, cb_sub, pop_some, leave1, RK_ret]; exact hK _
  | false => rw [cnd_false, leave1, RK_ret]; exact hK _
theorem wrap_ge (n : Int) : -9223372036854775808 ≤ IntKind.i64.wrap n := by
  simp [IntKind.wrap, IntKind.signed, IntKind.bits]; omega
theorem neg_ne {n : Int} (h0 : -9223372036854775808 ≤ n) (h : n < 0) : IntKind.i64.wrap (-n) ≠ 0 := by
  by_cases h2 : n = -9223372036854775808
  · subst h2; decide
  · rw [wrap_id (by omega) (by omega)]; omega
theorem Melt.at2 {d : ShopD} {e : BatsD} {m0 m : CM} {va : Value} {bs : List Nat} {xs : Nat → BatD} (h : Melt d e m0 va bs xs m) {i : Nat} (hi : i < bs.length) :
    ∃ p, cia Tryz.prog 91 va (.int .i64 i) = some p ∧ (∀ m', m.le m' → cload Tryz.prog 94 p m' = some (.pointer (some ⟨bs[i], 0, none⟩))) := by
  have hn := h.n; have hn6 := h.n1
  obtain ⟨bx, ox, hia, hcel, hlen⟩ := h.sl.at Tryz.underlying91 sz94 (i := i) (by omega) (by omega)
  simp only [Int.toNat_natCast] at hcel hlen
  refine ⟨_, hia, fun m' hle => ?_⟩
  rw [(hcel.le hle).elv ag94 sz94 hlen (by decide)]
  simp [ptrs, List.getD_eq_getElem?_getD, List.getElem?_eq_getElem hi, elv]
theorem KeepX.of_le {m m1 m2 : CM} {b : Nat} (h : m.le m1) (k : KeepX m1 b m2) : KeepX m b m2 := ⟨Nat.le_trans h.1 k.1, fun x hx hne => by rw [k.2 x (Nat.lt_of_lt_of_le hx h.1) hne]; exact h.2 x hx⟩
theorem hcb59z' : cbuild Tryz.prog 59 [] = some (.agg ⟨[.int .i64 0, .int .i64 0]⟩) := hcb59z
theorem Take27 {d : ShopD} {e : BatsD} {m : CM} (hd : d.In m) (he : e.In m) {lot : Int} {K : Value → CM → Prop} {Kp : List PanicEntry → CM → Prop}
    (hK : ∀ m' (a b c : Int), m.le m' → K (.tuple ⟨[.agg ⟨[.int .i64 a, .int .i64 b]⟩, .int .i64 c]⟩) m') : callw Tryz.prog 27 [.agg ⟨d.cells⟩, e.v, .int .i64 lot] m K Kp := by
  apply c27
  unfold s27
  refine box_of fun t3 m1 hle1 hb1 ho1 => alw_of ze59 fun t6 m1' hle1' hb6 ho6 => ?_
  replace ho1 : Own m1 t3 d.cells 0 := ho1
  have h36 : t3 ≠ t6 := by have := ho1.1; omega
  replace ho1 := ho1.le hle1'
  have h6m : m.next ≤ t6 := Nat.le_trans hle1.1 hb6
  have h6l := ho6.1
  replace hle1 := hle1.trans hle1'
  rw [lda ho1 ag25 sz25, pop_some]
  refine melt51 (hd.le hle1) (he.le hle1) fun m2 va c hle2 hnil hM => ?_
  have hle := hle1.trans hle2
  replace ho1 := ho1.le hle2
  replace ho6 := ho6.le hle2
  have fin : ∀ {m4 : CM} {l h a b c : Int}, m.le m4 → Own m4 t6 [.int .i64 l, .int .i64 h] 0 → sop (cstore Tryz.prog 59 (.pointer (some ⟨t6, 0, none⟩)) (.agg ⟨[.int .i64 a, .int .i64 b]⟩) m4) (fun _ m => leaveV Tryz.prog [.c 59 (.pointer (some ⟨t6, 0, none⟩)), .v (.int .i64 c)] [] .ret m (RK K Kp)) := by
    intro m4 l h a b c hl ho
    refine store_own ho (by simp [toL, sz59]) (by simp [toL]) rfl fun m5 hn5 hx5 ho5 => ?_
    simp only [toL] at ho5
    have hle5 : m.le m5 := le_of_put hl h6m hn5 hx5
    show pop (cload Tryz.prog 59 (.pointer (some ⟨t6, 0, none⟩)) m5) m5 _
    rw [lda ho5 ag59 sz59, pop_some]
    exact hK m5 _ _ c hle5
  simp only [cext, List.getElem?_cons_zero, List.getElem?_cons_succ, pop_some, cb_neq]
  cases hc : (c != 0) with
  | true => rw [cnd_true, lda ho6 ag59 sz59, pop_some]; exact fin hle ho6
  | false =>
  obtain ⟨bs, xs, hM⟩ := hM (by simpa using hc)
  have hn := hM.n; have hn6 := hM.n1; have hnt := hM.d.nt1; have hnl := hM.d.nl1
  rw [cnd_false, fz25_1, pop_some, ho1.cel.z ag23 (j := 1) rfl, pop_some, (hd.le hle).sl.len Tryz.underlying23, pop_some, cb_sub, pop_some]
  refine out_1 fun b3 m3 hle3 h3 => ?_
  replace ho6 := ho6.le hle3
  cases b3 with
  | true => rw [cnd_true, lda ho6 ag59 sz59, pop_some]; exact fin (hle.trans hle3) ho6
  | false =>
  have hlot := h3 rfl
  rw [wrap_id (by omega) (by omega)] at hlot
  replace ho1 := ho1.le hle3
  have hle' := hle.trans hle3
  have hkx : KeepX m2 t6 m3 := (KeepX.refl m2 t6).le hle3
  rw [cnd_false, hM.sl.len Tryz.underlying91, pop_some, cb_sub, pop_some, wrap_id (by omega) (by omega)]
  obtain ⟨k, hk⟩ : ∃ k : Nat, bs.length = k + 1 := ⟨bs.length - 1, by omega⟩
  have hkl : k < bs.length := by omega
  obtain ⟨p, hia, hld⟩ := (hM.keep hkx h6l).at2 hkl
  have hM3 := hM.keep hkx h6l
  have hown := hM3.own k bs[k] (List.getElem?_eq_getElem hkl)
  have hc6 : bs[k] ≠ t6 := by have := hM.ss bs[k] (List.getElem_mem hkl); omega
  generalize bs[k] = c at hld hown hc6
  rw [show ((bs.length : Int) - 1) = (k : Int) by omega, hia, pop_some, hld _ (.refl m3), pop_some]
  have hok := hM.ok k hkl
  have hsz := hok.sz
  simp only [cnilc, fz101_0, fz97_0, pop_some]
  rw [hown.cel.z ag28 (j := 0) (v := e.g k) (by rw [← hok.vg]; rfl)]
  simp only [pop_some]
  obtain ⟨bx, ox, hia2, hcel2, hlen2⟩ := ((he.le hle').sg k (by omega)).at Tryz.underlying28 sz3 (i := lot) (by omega) (by rw [hok.gn]; omega)
  rw [hia2]
  simp only [pop_some]
  rw [hcel2.elv ag3 sz3 hlen2 (by decide)]
  simp only [pop_some, elv, List.headD, cb_sub, fz59_1]
  refine ho6.store (o := 1) (by simp [toL, sz3]) (by simp [toL]) rfl fun m4 hn4 hx4 ho4 => ?_
  have hk4 : KeepX m3 t6 m4 := (KeepX.refl m3 t6).put hn4 hx4
  obtain ⟨g0, hg0⟩ : ∃ g0 : Int, Own m4 t6 [.int .i64 0, .int .i64 g0] 0 := ⟨_, ho4⟩
  simp only [fz25_0, pop_some]
  rw [(Own.keepX ho1 hk4 h36).cel.z ag22 (j := 0) rfl]
  simp only [pop_some]
  rw [(hd.le (le_keepX hle' hk4 h6m)).st.len Tryz.underlying22]
  simp only [pop_some]
  have hll := hM.d.lot lot.toNat (by omega)
  have hex : ∃ p : Int, p = 0 := ⟨0, rfl⟩
  refine loopA_of (fun l0 ds m' => ds = [] ∧ KeepX m3 t6 m' ∧ ∃ (j : Nat) (l h : Int), j ≤ d.nt ∧ Own m' t6 [.int .i64 l, .int .i64 h] 0 ∧ l0 = [.int .i64 lot, .pointer (some ⟨t3, 0, none⟩), .pointer (some ⟨t6, 0, none⟩), .pointer (some ⟨c, 0, none⟩), d.vt, .int .i64 d.nt, .int .i64 j])
    (fun l _ => match l with | [_, _, _, _, _, _, .int _ i] => d.nt - i.toNat | _ => 0) ⟨rfl, hk4, 0, 0, g0, by omega, hg0, rfl⟩ ?_
  rintro X ρ ds m' ⟨rfl, hkp, j, l, h, hj, ho', hll⟩ hX
  simp only [List.map_cons, List.map_nil, List.cons.injEq, and_true] at hll
  obtain ⟨p2, p3, p6, p9, p51, p52, p53⟩ := hll
  simp only [p2, p3, p6, p9, p51, p52, p53, cb_lss, pop_some]
  by_cases hcj : j < d.nt
  · have hc' : decide ((j : Int) < (d.nt : Int)) = true := by simpa using hcj
    obtain ⟨p, s, kk, lm, w, f, hr, hia, hld⟩ := thRow hd hcj
    rw [hc', cnd_true, hia, pop_some, hld _ (le_keepX hle' hkp h6m), pop_some]
    refine alw_of ze80 fun b9 m5 hle5 hb9 ho9 => store_own ho9 (by simp [toL, sz80]) (by simp [toL]) rfl fun m6 hn6' hx6 ho9 => ?_
    simp only [toL] at ho9
    have hle6 : m'.le m6 := le_of_put hle5 hb9 hn6' hx6
    have hk6 := hkp.le hle6
    have o6 := ho'.le hle6
    have oc := Own.keepX hown hk6 hc6
    have o3 := Own.keepX ho1 hk6 h36
    have hm6 := le_keepX hle' hk6 h6m
    simp only [cnilc, fz80_2, pop_some]
    rw [ldi ho9 (j := 2) rfl]
    simp only [fz101_1, pop_some]
    rw [ldi oc (n := (xs k).w) rfl]
    simp only [cb_mul, fz101_3, pop_some, cia99 _ _ (show j < 5 by omega), fa59_1]
    rw [show 5 + j * 2 + 1 = 5 + (j * 2 + 1) by omega, lmi hsz oc (by omega)]
    simp only [cb_sub, pop_some, fz25_1]
    rw [o3.cel.z ag23 (j := 1) rfl]
    simp only [pop_some]
    obtain ⟨by1, oy1, hia1, hcel1, hlen1⟩ := (hd.le hm6).sl.at Tryz.underlying23 sz85 (i := lot) (by omega) (by omega)
    rw [hia1]
    simp only [pop_some, fa85_1]
    rw [hcel1.s ag63 (j := 1) rfl]
    simp only [pop_some]
    have hlo := hM.d.lot lot.toNat (by omega)
    obtain ⟨by2, oy2, hia2', hcel2', hlen2'⟩ := ((hd.le hm6).sp lot.toNat (by omega)).at Tryz.underlying63 sz59 (i := j) (by omega) (by omega)
    rw [hia2']
    obtain ⟨ra, rb, hrr, _⟩ := hlo.2 j (by omega)
    simp only [Int.toNat_natCast] at hcel2'
    rw [hrr] at hcel2'
    simp only [pop_some, fa59_1, Nat.zero_add]
    rw [hcel2'.s ag3 (j := 1) rfl]
    simp only [pop_some]
    generalize hF : IntKind.i64.wrap (IntKind.i64.wrap (lm * (xs k).w) - (xs k).mi.getD (j * 2 + 1) 0) = free
    generalize hE : IntKind.i64.wrap (rb - lm) = each
    have hE0 : -9223372036854775808 ≤ each := by rw [← hE]; exact wrap_ge _
    have hnext : ∀ {m7 : CM} {l h : Int}, KeepX m3 t6 m7 → Own m7 t6 [.int .i64 l, .int .i64 h] 0 → j27_0 (RK K Kp) X (.int .i64 j) (.int .i64 lot) (.pointer (some ⟨t3, 0, none⟩)) (.pointer (some ⟨t6, 0, none⟩)) (.pointer (some ⟨c, 0, none⟩)) d.vt (.int .i64 d.nt) [] m7 := by
      intro m7 l h k7 o7
      unfold j27_0
      rw [cb_add, pop_some, wrap_id (by omega) (by omega)]
      refine hX _ _ _ ⟨rfl, k7, j + 1, l, h, by omega, o7, by simp⟩ ?_
      simp only [List.map_cons, List.map_nil, p53]; omega
    have st1 : ∀ {m7 : CM} {l h n : Int}, KeepX m3 t6 m7 → Own m7 t6 [.int .i64 l, .int .i64 h] 0 → sop (cstore Tryz.prog 3 (.pointer (some ⟨t6, 1, none⟩)) (.int .i64 n) m7) (fun _ m => j27_0 (RK K Kp) X (.int .i64 j) (.int .i64 lot) (.pointer (some ⟨t3, 0, none⟩)) (.pointer (some ⟨t6, 0, none⟩)) (.pointer (some ⟨c, 0, none⟩)) d.vt (.int .i64 d.nt) [] m) := by
      intro m7 l h n k7 o7
      refine o7.store (by simp [toL, sz3]) (by simp [toL]) rfl fun m8 hn8 hx8 ho8 => hnext (k7.put hn8 hx8) (l := l) (h := n) ho8
    have st0 : ∀ {m7 : CM} {l h n : Int}, KeepX m3 t6 m7 → Own m7 t6 [.int .i64 l, .int .i64 h] 0 → sop (cstore Tryz.prog 3 (.pointer (some ⟨t6, 0, none⟩)) (.int .i64 n) m7) (fun _ m => j27_0 (RK K Kp) X (.int .i64 j) (.int .i64 lot) (.pointer (some ⟨t3, 0, none⟩)) (.pointer (some ⟨t6, 0, none⟩)) (.pointer (some ⟨c, 0, none⟩)) d.vt (.int .i64 d.nt) [] m) := by
      intro m7 l h n k7 o7
      refine o7.store (by simp [toL, sz3]) (by simp [toL]) rfl fun m8 hn8 hx8 ho8 => hnext (k7.put hn8 hx8) (l := n) (h := h) ho8
    rw [cb_sub, hE, pop_some, cb_gtr, pop_some]
    cases hg : decide ((0 : Int) < each) with
    | true =>
      rw [cnd_true, ldi o6 rfl, pop_some]
      have hg' : (0 : Int) < each := by simpa using hg
      refine down61 (by omega) fun n => ⟨.refl m6, ?_⟩
      obtain ⟨u, hu⟩ := cmm_min (a := h) (b := n)
      rw [hu, pop_some]
      generalize hMV : memJ m6 _ (fun _ => true) m6.next = MV
      have hV : m6.le MV := hMV ▸ le_view (.refl m6) rfl fun y => get_over ..
      exact st1 (hk6.le hV) (o6.le hV)
    | false =>
    rw [cnd_false, cb_lss, pop_some]
    cases hg : decide (each < (0 : Int)) with
    | true =>
      have hg' : each < 0 := by simpa using hg
      rw [cnd_true, fz59_0, pop_some, ldi o6 rfl, pop_some, cun_neg, pop_some]
      refine down61 (neg_ne hE0 hg') fun n => ⟨.refl m6, ?_⟩
      rw [cun_neg, pop_some]
      obtain ⟨u, hu⟩ := cmm_max (a := l) (b := IntKind.i64.wrap (-n))
      rw [hu, pop_some]
      generalize hMV : memJ m6 _ (fun _ => true) m6.next = MV
      have hV : m6.le MV := hMV ▸ le_view (.refl m6) rfl fun y => get_over ..
      simp only [fz59_0, pop_some]
      exact st0 (hk6.le hV) (o6.le hV)
    | false =>
    rw [cnd_false, cb_lss, pop_some]
    cases decide (free < (0 : Int)) with
    | true =>
      rw [cnd_true]
      exact st1 hk6 o6
    | false =>
      rw [cnd_false]
      exact hnext hk6 o6
  · have hc' : decide ((j : Int) < (d.nt : Int)) = false := by simpa using hcj
    rw [hc', cnd_false, fz59_0, pop_some, ldi ho' rfl, pop_some, fz59_1, pop_some, ldi ho' rfl, pop_some, cb_gtr, pop_some]
    have hlx := le_keepX hle' hkp h6m
    cases decide (h < l) with
    | true => rw [cnd_true, hcb59z, pop_some]; exact fin hlx ho'
    | false => rw [cnd_false, lda ho' ag59 sz59, pop_some]; exact fin hlx ho'
end Go.Proofs.YtclgfagkaklnnaaGreat.C
end

section
open Go Go.Proofs Go.Proofs.YtclgfagkaklnnaaGreat
set_option maxRecDepth 100000
namespace Go.Proofs.YtclgfagkaklnnaaGreat.C
theorem lstw_own {P : Program} {t : TypeId} {M : CM} {b o e : Nat} {c : List Value} {v : Value} {K : Nat → CB → Prop} (hg : M.get b = some (.cells c e true)) (hs : szOf P t = some (toL v).length) (ho : o + (toL v).length ≤ c.length) (h1 : (toL v).all one = true) (hK : K b (.cells (splice c o (toL v)) e true)) :
    lstw (cstore P t (.pointer (some ⟨b, o, none⟩)) v M) (.pointer (some ⟨b, o, none⟩)) K := by
  refine ⟨M.put b (.cells (splice c o (toL v)) e true), b, o, _, ?_, rfl, by rw [CM.get_put, if_pos rfl], hK⟩
  simp [cstore, hs, cstoreL, hg, ho]; simpa using h1
theorem memL1 {m : CM} {E : List Ent} {j b nx : Nat} {x y : CB} {sel : Nat → Bool} (hs : sel j = true) (hg : (memJ m E sel nx).get b = some y) : memL m E [(j, b, x)] sel nx = (memJ m E sel nx).put b x := by
  simp only [memL, layW, lay1, hs, hg]
theorem cv1 (n : Int) : cconv Tryz.prog 3 145 (.int .i64 n) = some (.int .u64 (IntKind.u64.wrap n)) := by kernel_rfl
theorem cv2 (n : Int) : cconv Tryz.prog 145 3 (.int .u64 n) = some (.int .i64 (IntKind.i64.wrap n)) := by kernel_rfl
theorem cshr {t : TypeId} {x y : Operand} (n : Int) : cbin Tryz.prog .shr t x y (.int .u64 n) (.int .u64 1) = some (.int .u64 (n.fdiv 2)) := by kernel_rfl
theorem half {n : Int} (h0 : 0 ≤ n) (h1 : n ≤ 100000) : IntKind.i64.wrap ((IntKind.u64.wrap n).fdiv 2) = n / 2 := by
  have : IntKind.u64.wrap n = n := by
    simp [IntKind.wrap, IntKind.signed, IntKind.bits]; omega
  rw [this, Int.fdiv_eq_ediv_of_nonneg _ (by decide), wrap_id (by omega) (by omega)]
/-- sort.Search over numbers, with whatever question. -/
theorem search67 {m : CM} {f : Value} {n : Int} (hn : 0 ≤ n ∧ n ≤ 50000) (hf : ∀ (i : Int) (m' : CM) (K : Value → CM → Prop) (Kp : List PanicEntry → CM → Prop), m.le m' → (∀ b m2, m'.le m2 → K (.bool b) m2) → callv Tryz.prog f [.int .i64 i] m' K Kp)
    {K : Value → CM → Prop} {Kp : List PanicEntry → CM → Prop} (hK : ∀ m' (k : Int), m.le m' → K (.int .i64 k) m') : callw Tryz.prog 67 [.int .i64 n, f] m K Kp := by
  apply c67
  unfold s67
  refine loopA_of (fun l0 ds m' => ds = [] ∧ m.le m' ∧ ∃ i j : Int, 0 ≤ i ∧ i ≤ j ∧ j ≤ n ∧ l0 = [f, .int .i64 0, .int .i64 i, .int .i64 j])
    (fun l _ => match l with | [_, _, .int _ i, .int _ j] => (j - i).toNat | _ => 0) ⟨rfl, .refl m, 0, n, by omega, by omega, by omega, rfl⟩ ?_
  rintro X ρ ds m' ⟨rfl, hle, i, j, h0, hij, hj, hll⟩ hX
  simp only [List.map_cons, List.map_nil, List.cons.injEq, and_true] at hll
  obtain ⟨p1, p4, p5, p6⟩ := hll
  simp only [p1, p4, p5, p6, cb_lss, pop_some]
  by_cases hc : i < j
  · rw [show decide (i < j) = true by simpa using hc, cnd_true, cb_add, pop_some, cv1, pop_some, cshr, pop_some, cv2, pop_some, wrap_id (n := i + j) (by omega) (by omega), half (by omega) (by omega)]
    refine hf _ _ _ _ hle fun b m2 hle2 => ?_
    rw [cun_not, pop_some]
    cases b with
    | false =>
      simp only [Bool.not_false, cnd_true, cb_add, pop_some]
      rw [wrap_id (by omega) (by omega)]
      refine hX _ _ _ ⟨rfl, hle.trans hle2, _, _, ?_, ?_, ?_, rfl⟩ ?_
      · omega
      · omega
      · omega
      · simp only [List.map_cons, List.map_nil, p5, p6]; omega
    | true =>
      simp only [Bool.not_true, cnd_false]
      refine hX _ _ _ ⟨rfl, hle.trans hle2, _, _, ?_, ?_, ?_, rfl⟩ ?_
      · omega
      · omega
      · omega
      · simp only [List.map_cons, List.map_nil, p5, p6]; omega
  · rw [show decide (i < j) = false by simpa using hc, cnd_false, leave1, RK_ret]
    exact hK _ _ hle
/-- What the light does: t13 the thing, t12 the batch's pointer, t7 what shows. -/
structure PaleI (m : CM) (t13 t12 t7 c : Nat) (s : ByteArray) (k l w f : Int) (x : BatD) (n : Int) : Prop where
  o13 : Own m t13 [.string s, .int .i64 k, .int .i64 l, .int .i64 w, .int .i64 f] 0
  o12 : Own m t12 [.pointer (some ⟨c, 0, none⟩)] 0
  o7 : Own m t7 [.int .i64 n] 0
  oc : Own m c x.cells 0
theorem PaleI.le {m m' : CM} {t13 t12 t7 c : Nat} {s : ByteArray} {k l w f : Int} {x : BatD} {n : Int} (h : PaleI m t13 t12 t7 c s k l w f x n) (q : m.le m') : PaleI m' t13 t12 t7 c s k l w f x n := ⟨h.o13.le q, h.o12.le q, h.o7.le q, h.oc.le q⟩
theorem f68_ok {m : CM} {t13 t12 t7 c t4 : Nat} {s : ByteArray} {k l w f : Int} {x : BatD} {n y i : Int} (h : PaleI m t13 t12 t7 c s k l w f x n) (h4 : Own m t4 [.int .i64 y] 0) {K : Value → CM → Prop} {Kp : List PanicEntry → CM → Prop} (hK : ∀ b, K (.bool b) m) :
    callw Tryz.prog 68 [.int .i64 i, .pointer (some ⟨t4, 0, none⟩), .pointer (some ⟨t13, 0, none⟩), .pointer (some ⟨t12, 0, none⟩), .pointer (some ⟨t7, 0, none⟩)] m K Kp := by
  apply c68
  unfold s68
  rw [ldi h4 rfl]
  simp only [pop_some, fz80_4]
  rw [ldi h.o13 (j := 4) rfl]
  simp only [pop_some, cb_mul, cb_sub]
  obtain ⟨u, hu⟩ := cmm_max (a := 0) (b := IntKind.i64.wrap (1000 - IntKind.i64.wrap (f * i)))
  rw [hu]
  simp only [pop_some, cb_mul]
  rw [h.o12.cel.z ag94 (j := 0) rfl]
  simp only [pop_some, cnilc, fz101_1]
  rw [ldi h.oc (n := x.w) rfl]
  simp only [pop_some, cb_mul]
  rw [ldi h.o7 rfl]
  simp only [pop_some, cb_mul, cb_lss]
  rw [leave1, RK_ret]
  exact hK _
theorem f66_ok {m : CM} {t13 t12 t7 c : Nat} {s : ByteArray} {k l w f : Int} {x : BatD} {n y : Int} (h : PaleI m t13 t12 t7 c s k l w f x n) {K : Value → CM → Prop} {Kp : List PanicEntry → CM → Prop} (hK : ∀ m' (q : Int), m.le m' → K (.int .i64 q) m') :
    callw Tryz.prog 66 [.int .i64 y, .pointer (some ⟨t13, 0, none⟩), .pointer (some ⟨t12, 0, none⟩), .pointer (some ⟨t7, 0, none⟩)] m K Kp := by
  apply c66
  unfold s66
  refine box_of fun t4 m1 hle1 hb1 ho1 => ?_
  simp only [toL] at ho1
  refine search67 (by omega) (fun i m' K Kp hle hK => ?_) fun m' q hle => ?_
  · show callw Tryz.prog 68 ([] ++ [.int .i64 i] ++ [.pointer (some ⟨t4, 0, none⟩), .pointer (some ⟨t13, 0, none⟩), .pointer (some ⟨t12, 0, none⟩), .pointer (some ⟨t7, 0, none⟩)]) m' _ _
    exact f68_ok (h.le (hle1.trans hle)) (ho1.le hle) fun b => hK b _ (.refl m')
  · rw [leave1, RK_ret]
    exact hK _ _ (hle1.trans hle)
end Go.Proofs.YtclgfagkaklnnaaGreat.C
end

section
open Go Go.Proofs Go.Proofs.YtclgfagkaklnnaaGreat
set_option maxRecDepth 100000
namespace Go.Proofs.YtclgfagkaklnnaaGreat.C
theorem Own.of {m : CM} {M : CM} {b e : Nat} {l : List Value} (h : Own m b l e) (ht : M.t = m.t) (hn : m.next ≤ M.next) : Own M b l e := ⟨Nat.lt_of_lt_of_le h.1 hn, by unfold CM.get; rw [ht]; exact h.2⟩
theorem Pale35 {d : ShopD} {e : BatsD} {m : CM} (hd : d.In m) (he : e.In m) {dye shows : Int} {K : Value → CM → Prop} {Kp : List PanicEntry → CM → Prop}
    (hK : ∀ m' (a b c : Int), m.le m' → K (.tuple ⟨[.int .i64 a, .int .i64 b, .int .i64 c]⟩) m') : callw Tryz.prog 35 [.agg ⟨d.cells⟩, e.v, .int .i64 dye, .int .i64 shows] m K Kp := by
  apply c35
  unfold s35
  refine box_of fun t4 m0 hle0 hb0 ho4 => box_of fun t7 m1 hle01 hb7 ho7 => ?_
  replace ho4 : Own m0 t4 d.cells 0 := ho4
  simp only [toL] at ho7
  replace ho4 := ho4.le hle01
  have hle1 := hle0.trans hle01
  rw [lda ho4 ag25 sz25, pop_some]
  refine melt51 (hd.le hle1) (he.le hle1) fun m2 va c hle2 hnil hM => ?_
  have hle := hle1.trans hle2
  replace ho4 := ho4.le hle2
  replace ho7 := ho7.le hle2
  simp only [cext, List.getElem?_cons_zero, List.getElem?_cons_succ, pop_some, cb_neq]
  cases hc : (c != 0) with
  | true => rw [cnd_true, leave3, RK_ret]; exact hK _ _ _ _ hle
  | false =>
  obtain ⟨bs, xs, hM⟩ := hM (by simpa using hc)
  have hn := hM.n; have hn6 := hM.n1; have hnt := hM.d.nt1
  rw [cnd_false, fz25_0, pop_some, ho4.cel.z ag22 (j := 0) rfl, pop_some, (hd.le hle).st.len Tryz.underlying22, pop_some, cb_sub, pop_some]
  refine out_1 fun b3 m3 hle3 h3 => ?_
  replace ho4 := ho4.le hle3
  replace ho7 := ho7.le hle3
  have hle' := hle.trans hle3
  cases b3 with
  | true => rw [cnd_true, leave3, RK_ret]; exact hK _ _ _ _ hle'
  | false =>
  have hdye := h3 rfl
  rw [wrap_id (by omega) (by omega)] at hdye
  obtain ⟨i, rfl⟩ : ∃ i : Nat, dye = i := ⟨dye.toNat, by omega⟩
  have hi : i < d.nt := by omega
  rw [cnd_false, pop_some, ho4.cel.z ag22 (j := 0) rfl, pop_some]
  obtain ⟨bx, ox, hia, hcel, hlen⟩ := (hd.le hle').st.at Tryz.underlying22 sz80 (i := i) (by omega) (by omega)
  obtain ⟨s, k, l, w, f, hr⟩ := hd.rt0 i hi
  simp only [Int.toNat_natCast] at hcel hlen
  rw [hr] at hcel
  rw [hia, pop_some, fa80_1, pop_some, hcel.s ag3 (j := 1) rfl, pop_some, cb_neq, pop_some]
  cases (k != 1) with
  | true => rw [cnd_true, leave3, RK_ret]; exact hK _ _ _ _ hle'
  | false =>
  rw [cnd_false, ldi ho7 rfl, pop_some]
  refine out_1 fun b5 m5 hle5 h5 => ?_
  replace ho4 := ho4.le hle5
  replace ho7 := ho7.le hle5
  replace hle' := hle'.trans hle5
  have hle25 := hle3.trans hle5
  cases b5 with
  | true => rw [cnd_true, leave3, RK_ret]; exact hK _ _ _ _ hle'
  | false =>
  rw [cnd_false, hM.sl.len Tryz.underlying91]
  simp only [pop_some, cb_sub]
  rw [wrap_id (n := (bs.length : Int) - 1) (by omega) (by omega)]
  obtain ⟨kb, hkb⟩ : ∃ k : Nat, bs.length = k + 1 := ⟨bs.length - 1, by omega⟩
  have hkl : kb < bs.length := by omega
  obtain ⟨p, hia1, hld1⟩ := hM.at2 hkl
  rw [show ((bs.length : Int) - 1) = (kb : Int) by omega, hia1]
  simp only [pop_some]
  rw [hld1 _ hle25]
  have hsz := (hM.ok kb hkl).sz
  have oc := (hM.own kb bs[kb] (List.getElem?_eq_getElem hkl)).le hle25
  generalize bs[kb] = cb at oc
  simp only [pop_some, fz25_0]
  rw [ho4.cel.z ag22 (j := 0) rfl]
  simp only [pop_some]
  obtain ⟨p2, s', k', l', w', f', hr', hia2, hld2⟩ := thRow hd hi
  rw [hia2]
  simp only [pop_some]
  rw [hld2 _ hle']
  simp only [pop_some]
  refine alw_of ze94 fun t12 m6 hle6 hb6 ho6 => ⟨hle6, ?_⟩
  refine alw_of ze80 fun t13 m7 hle7 hb7' ho7' => ⟨hle7, ?_⟩
  have hn6 : m5.next ≤ m6.next := hle6.1
  have hn7 : m6.next ≤ m7.next := hle7.1
  have hb7'' : m6.next ≤ t13 := hb7'
  have h61 := ho6.1
  have h71 := ho7'.1
  have J : ∀ (E : List Ent) (sel : Nat → Bool), (memJ m5 E sel m7.next).t = ((m5.over m5.next (m6.next - m5.next) m6).over m6.next (m7.next - m6.next) m7).t → ∀ x, (memJ m5 E sel m7.next).get x =
      if m6.next ≤ x ∧ x < m6.next + (m7.next - m6.next) then m7.get x else if m5.next ≤ x ∧ x < m5.next + (m6.next - m5.next) then m6.get x else m5.get x := by
    intro E sel hE x
    have : (memJ m5 E sel m7.next).get x = CM.get ((m5.over m5.next (m6.next - m5.next) m6).over m6.next (m7.next - m6.next) m7) x := by
      simp only [CM.get, hE]
    rw [this, get_over, get_over]
  have J6 : ∀ (E : List Ent) (sel : Nat → Bool), (memJ m5 E sel m7.next).t = ((m5.over m5.next (m6.next - m5.next) m6).over m6.next (m7.next - m6.next) m7).t → (memJ m5 E sel m7.next).get t12 = some (.cells [.pointer none] 0 true) := fun E sel hE => by
    rw [J E sel hE, if_neg (by omega), if_pos (by omega)]; exact ho6.2
  have J7 : ∀ (E : List Ent) (sel : Nat → Bool), (memJ m5 E sel m7.next).t = ((m5.over m5.next (m6.next - m5.next) m6).over m6.next (m7.next - m6.next) m7).t → (memJ m5 E sel m7.next).get t13 = some (.cells [.string ⟨#[]⟩, .int .i64 0, .int .i64 0, .int .i64 0, .int .i64 0] 0 true) := fun E sel hE => by
    rw [J E sel hE, if_pos (by omega)]; exact ho7'.2
  refine lstw_own (J6 _ _ rfl) (by simp [toL, sz94]) (by simp [toL]) (by simp [toL, one]) ?_
  refine ⟨⟨_, rfl, hb6, h61⟩, (by simp), ?_⟩
  generalize hML : memL m5 _ [(13, t12, _)] (fun _ => true) m7.next = ML
  rw [memL1 rfl (J6 _ _ rfl)] at hML
  have hMLn : ML.next = m7.next := by subst hML; rfl
  have hMLg : ∀ x, x < m5.next → ML.get x = m5.get x := by
    intro x hx
    subst hML
    rw [CM.get_put, if_neg (by omega), J _ _ rfl, if_neg (by omega), if_neg (by omega)]
  have o12 : Own ML t12 [.pointer (some ⟨cb, 0, none⟩)] 0 := ⟨by omega, by subst hML; rw [CM.get_put, if_pos rfl]; rfl⟩
  have o13 : Own ML t13 [.string ⟨#[]⟩, .int .i64 0, .int .i64 0, .int .i64 0, .int .i64 0] 0 := ⟨by omega, by subst hML; rw [CM.get_put, if_neg (by omega)]; exact J7 _ _ rfl⟩
  have hleM : m5.le ML := ⟨by omega, hMLg⟩
  clear J J6 J7 hML
  refine store_own o13 (by simp [toL, sz80]) (by simp [toL]) rfl fun m8 hn8 hx8 o13 => ?_
  simp only [toL] at o13
  have hle8 : m5.le m8 := le_of_put hleM (by omega) hn8 hx8
  replace o12 : Own m8 t12 [.pointer (some ⟨cb, 0, none⟩)] 0 := ⟨by rw [hn8]; exact o12.1, by rw [hx8 t12 (by omega)]; exact o12.2⟩
  have hP : PaleI m8 t13 t12 t7 cb s' k' l' w' f' (xs kb) shows := ⟨o13, o12, ho7.le hle8, oc.le hle8⟩
  replace hle' := hle'.trans hle8
  have hi5 : i < 5 := by omega
  rw [hP.o12.cel.z ag94 (j := 0) rfl]
  simp only [pop_some, cnilc, fz101_3, cia99 _ _ hi5, fa59_0]
  rw [lmi hsz hP.oc (by omega)]
  simp only [pop_some]
  show callw Tryz.prog 66 ([] ++ [_] ++ [.pointer (some ⟨t13, 0, none⟩), .pointer (some ⟨t12, 0, none⟩), .pointer (some ⟨t7, 0, none⟩)]) m8 _ _
  refine f66_ok hP fun m9 q hle9 => ⟨hle9, ?_⟩
  rw [(Own.of hP.o12 (M := memJ m8 _ (fun i => Nat.testBit 0 i) m9.next) rfl hle9.1).cel.z ag94 (j := 0) rfl]
  simp only [pop_some, cnilc, fz101_3, cia99 _ _ hi5, fa59_1]
  rw [show 5 + i * 2 + 1 = 5 + (i * 2 + 1) by omega, lmi hsz (Own.of hP.oc (M := memJ m8 _ (fun i => Nat.testBit 64512 i) m9.next) rfl hle9.1) (by omega)]
  simp only [pop_some]
  generalize hMV : memJ m8 _ (fun _ => true) m9.next = MV
  have hV : m9.le MV := hMV ▸ le_view hle9 rfl fun y => get_over ..
  show callw Tryz.prog 66 ([] ++ [_] ++ [.pointer (some ⟨t13, 0, none⟩), .pointer (some ⟨t12, 0, none⟩), .pointer (some ⟨t7, 0, none⟩)]) MV _ _
  refine f66_ok (hP.le (hle9.trans hV)) fun m10 q' hle10 => ?_
  rw [leave3, RK_ret]
  exact hK _ _ _ _ (hle'.trans ((hle9.trans hV).trans hle10))
end Go.Proofs.YtclgfagkaklnnaaGreat.C
end

section
open Go Go.Proofs Go.Proofs.YtclgfagkaklnnaaGreat
set_option maxRecDepth 100000
namespace Go.Proofs.YtclgfagkaklnnaaGreat.C
theorem leave_marks {P : Program} {rv : List RV} {R : CE → CM → Prop} : ∀ {Ds : List Nat} {m : CM}, (∀ D ∈ Ds, m.get D = some .dfr) → Ds.Pairwise (· ≠ ·) → (∀ m', m'.next = m.next → (∀ x, x ∉ Ds → m'.get x = m.get x) → leaveV P rv [] .ret m' R) → leaveV P rv (Ds.map mark) .ret m R
  | [], m, _, _, h => h m rfl fun _ _ => rfl
  | D :: Ds, m, hd, hn, h => by
    rw [List.map_cons]
    refine ⟨hd D (by simp), leave_marks (fun E hE => ?_) (List.pairwise_cons.1 hn).2 fun m' h1 h2 => h m' (by rw [h1]; simp) fun x hx => ?_⟩
    · rw [CM.get_set, if_neg (fun e => (List.pairwise_cons.1 hn).1 E hE e.symm)]
      exact hd E (by simp [hE])
    · simp only [List.mem_cons, not_or] at hx
      rw [h2 x hx.2, CM.get_set, if_neg hx.1]
/-- The things of a kind, one after the other. -/
theorem iter93 {d : ShopD} {t2 t3 l : Nat} {kd : Int} {I : Nat → CM → Prop} (hI : ∀ i m m', I i m → m.le m' → I i m') (hup : ∀ i m, I i m → I (i + 1) m) (hL : ∀ i m, I i m → d.In m ∧ Own m t2 d.cells 0 ∧ Own m t3 [.int .i64 kd] 0)
    (hy : ∀ (i : Nat) (m : CM) (K : Value → CM → Prop), I i m → i < d.nt → (∀ m', I (i + 1) m' → K (.bool true) m') → yieldw Tryz.prog l [.int .i64 i, .agg ⟨d.rt i⟩] m K)
    {m : CM} (h : I 0 m) {K : Value → CM → Prop} {Kp : List PanicEntry → CM → Prop} (hK : ∀ v m', I d.nt m' → K v m') : callw Tryz.prog 93 [yv l, .pointer (some ⟨t2, 0, none⟩), .pointer (some ⟨t3, 0, none⟩)] m K Kp := by
  obtain ⟨hd, ho2, ho3⟩ := hL _ _ h
  have hnn := hd.nt0
  apply c93
  unfold s93
  rw [fz25_0, pop_some, ho2.cel.z ag22 (j := 0) rfl, pop_some, hd.st.len Tryz.underlying22, pop_some]
  refine loopA_of (fun l0 ds m' => ds = [] ∧ ∃ i : Nat, i ≤ d.nt ∧ I i m' ∧ l0 = [yv l, .pointer (some ⟨t3, 0, none⟩), d.vt, .int .i64 d.nt, .int .i64 i])
    (fun l0 _ => match l0 with | [_, _, _, _, .int _ i] => d.nt - i.toNat | _ => 0) ⟨rfl, 0, by omega, h, rfl⟩ ?_
  clear hd ho2 ho3
  rintro X ρ ds m' ⟨rfl, i, hi, hIm, hll⟩ hX
  simp only [List.map_cons, List.map_nil, List.cons.injEq, and_true] at hll
  obtain ⟨q0, q2, q7, q8, q9⟩ := hll
  simp only [q0, q2, q7, q8, q9, cb_lss, pop_some]
  obtain ⟨hd, ho2, ho3⟩ := hL _ _ hIm
  by_cases hci : i < d.nt
  · have hc' : decide ((i : Int) < (d.nt : Int)) = true := by simpa using hci
    have hw1 : IntKind.i64.wrap ((i : Int) + 1) = (i : Int) + 1 := wrap_id (by omega) (by omega)
    have next : ∀ m2, I (i + 1) m2 → pop (cbin Tryz.prog BinOp.add 3 (Operand.tmp 9) (Operand.const (Value.int IntKind.i64 1)) (.int .i64 i) (.int .i64 1)) m2 (fun t25 m => X [yv l, .pointer (some ⟨t3, 0, none⟩), d.vt, .int .i64 d.nt, t25] [] m) := by
      intro m2 h2
      rw [cb_add, pop_some, hw1]
      refine hX _ _ _ ⟨rfl, i + 1, by omega, h2, by simp⟩ ?_
      simp only [List.map_cons, List.map_nil, q9]; omega
    obtain ⟨p, s, k, lm, w, f, hr, hia, hld⟩ := thRow hd hci
    rw [hc', cnd_true, hia, pop_some, hld _ (.refl m'), pop_some]
    refine alw_of ze80 fun b9 m5 hle5 hb9 ho9 => store_own ho9 (by simp [toL, sz80]) (by simp [toL]) rfl fun m6 hn6' hx6 ho9 => ?_
    simp only [toL] at ho9
    have hle6 : m'.le m6 := le_of_put hle5 hb9 hn6' hx6
    rw [fz80_1, pop_some, ldi ho9 (j := 1) rfl, pop_some, ldi (ho3.le hle6) rfl, pop_some, cb_eql, pop_some]
    cases (k == kd) with
    | false =>
      simp only [gb_bool, Bool.false_beq, Bool.not_true, gop_false, cpick_bool, Bool.false_eq_true, if_false, pop_some, cnd_false]
      exact next _ (hup _ _ (hI _ _ _ hIm hle6))
    | true =>
      simp only [gb_bool, beq_self_eq_true, gop_true]
      rw [lda ho9 ag80 sz80, pop_some]
      show yieldw Tryz.prog l [.int .i64 i, .agg ⟨_⟩] m6 _
      rw [← hr]
      refine hy i m6 _ (hI _ _ _ hIm hle6) hci fun m3 h3 => ?_
      rw [cun_not, pop_some, cpick_bool, if_pos rfl, pop_some, show (!true) = false from rfl, cnd_false]
      exact next _ h3
  · have hc' : decide ((i : Int) < (d.nt : Int)) = false := by simpa using hci
    rw [hc', cnd_false, leave0, RK_ret]
    have : i = d.nt := by omega
    subst this
    exact hK _ _ hIm
theorem of62 {m : CM} {d : ShopD} {kd : Int} {K : Value → CM → Prop} {Kp : List PanicEntry → CM → Prop} (hK : ∀ m' t2 t3, m.le m' → m.next ≤ t2 → m.next ≤ t3 → Own m' t2 d.cells 0 → Own m' t3 [.int .i64 kd] 0 → K (.func (.func 93) ⟨[]⟩ ⟨[.pointer (some ⟨t2, 0, none⟩), .pointer (some ⟨t3, 0, none⟩)]⟩) m') :
    callw Tryz.prog 62 [.agg ⟨d.cells⟩, .int .i64 kd] m K Kp := by
  apply c62
  unfold s62
  refine box_of fun t2 m1 hle1 hb2 ho2 => box_of fun t3 m2 hle2 hb3 ho3 => ?_
  replace ho2 : Own m1 t2 d.cells 0 := ho2
  simp only [toL] at ho3
  rw [leave1, RK_ret]
  exact hK _ _ _ (hle1.trans hle2) hb2 (Nat.le_trans hle1.1 hb3) (ho2.le hle2) ho3
noncomputable abbrev A30 (ρ : Nat → Value) (ds : List Deferred) (t26 t27 t28 t8 t29 t30 t31 t32 t33 t35 t37 t10 t11 t38 t39 : Value) : CA := (((((((((((((((((((CA.mk 83 ρ ds).put (some 26) t26).put (some 27) t27).put (some 28) t28).put (some 8) t8).put (some 29) t29).put (some 30) t30).put (some 31) t31).put (some 32) t32).put (some 33) t33).put (some 9) t33).put (some 34) t33).put (some 35) t35).put (some 36) t33).put (some 37) t37).put (some 10) t10).put (some 11) t11).put (some 38) t38).put (some 39) t39)
section
variable {ρ : Nat → Value} {ds : List Deferred} {t26 t27 t28 t8 t29 t30 t31 t32 t33 t35 t37 t10 t11 t38 t39 x0 x1 : Value} {l D : Nat} {m : CM}
theorem yield30 (hl : m.get l = some (.loop (rfRec (A30 ρ ds t26 t27 t28 t8 t29 t30 t31 t32 t33 t35 t37 t10 t11 t38 t39) #[40, 41] as30_0 bd30_0 D))) {RY : Value → CM → Prop} (h : r30_0 RY l (A30 ρ ds t26 t27 t28 t8 t29 t30 t31 t32 t33 t35 t37 t10 t11 t38 t39) x0 x1 m) : yieldw Tryz.prog l [x0, x1] m RY :=
  yield_text mixed (ann := ann30) hl rfl (by kernel_rfl) (by kernel_rfl) (by kernel_rfl) (by rw [er30_0]; exact h)
theorem A30_8 : (A30 ρ ds t26 t27 t28 t8 t29 t30 t31 t32 t33 t35 t37 t10 t11 t38 t39).ρ 8 = t8 := rfl
theorem A30_10 : (A30 ρ ds t26 t27 t28 t8 t29 t30 t31 t32 t33 t35 t37 t10 t11 t38 t39).ρ 10 = t10 := rfl
theorem A30_11 : (A30 ρ ds t26 t27 t28 t8 t29 t30 t31 t32 t33 t35 t37 t10 t11 t38 t39).ρ 11 = t11 := rfl
end
theorem Own.put_ne {m : CM} {b e x : Nat} {l : List Value} {y : CB} (h : Own m b l e) (hx : b ≠ x) : Own (m.put x y) b l e := ⟨h.1, by rw [CM.get_put, if_neg hx]; exact h.2⟩
end Go.Proofs.YtclgfagkaklnnaaGreat.C
end

section
open Go Go.Proofs Go.Proofs.YtclgfagkaklnnaaGreat
set_option maxRecDepth 100000
namespace Go.Proofs.YtclgfagkaklnnaaGreat.C
set_option maxHeartbeats 1000000 in
theorem Pull30 {d : ShopD} {e : BatsD} {m : CM} (hd : d.In m) (he : e.In m) {K : Value → CM → Prop} {Kp : List PanicEntry → CM → Prop}
    (hK : ∀ m' v (c : Int), m.le m' → ResV 2 m m' v → K (.tuple ⟨[v, .int .i64 c]⟩) m') : callw Tryz.prog 30 [.agg ⟨d.cells⟩, e.v] m K Kp := by
  apply c30
  unfold s30
  refine box_of fun t2 m1 hle1 hb1 ho1 => ?_
  replace ho1 : Own m1 t2 d.cells 0 := ho1
  rw [lda ho1 ag25 sz25, pop_some]
  refine melt51 (hd.le hle1) (he.le hle1) fun m2 va er hle2 hnil hM => ?_
  have hle := hle1.trans hle2
  simp only [cext, List.getElem?_cons_zero, List.getElem?_cons_succ, pop_some, cb_neq]
  cases hc : (er != 0) with
  | true => rw [cnd_true, leave2, RK_ret]; exact hK _ _ _ hle .nil
  | false =>
  have he0 : er = 0 := by simpa using hc
  subst he0
  obtain ⟨bs, xs, hM⟩ := hM rfl
  have hn := hM.n; have hn6 := hM.n1; have hnt := hM.d.nt1
  replace ho1 := ho1.le hle2
  rw [cnd_false, hM.sl.len Tryz.underlying91, pop_some]
  refine loopA_of (fun l0 ds m' => ∃ Ds : List Nat, ds = Ds.map mark ∧ (∀ D ∈ Ds, m2.next ≤ D ∧ D < m'.next ∧ m'.get D = some .dfr) ∧ Ds.Pairwise (· ≠ ·) ∧ m2.le m' ∧ ∃ (i : Nat) (v : Value) (bn : Option Nat) (cs : List Value), i ≤ bs.length ∧ HVe 2 m' v bn cs i ∧ (∀ y, bn = some y → m2.next ≤ y) ∧ (∀ u ∈ cs, ∃ k, u = .int .i64 k) ∧ l0 = [.pointer (some ⟨t2, 0, none⟩), v, .int .i64 0, va, .int .i64 bs.length, .int .i64 i])
    (fun l _ => match l with | [_, _, _, _, _, .int _ i] => bs.length - i.toNat | _ => 0) ⟨[], rfl, fun _ h => by simp at h, .nil, .refl m2, 0, _, none, [], by omega, .nil, fun _ h => by simp at h, fun _ h => by simp at h, rfl⟩ ?_
  rintro X ρ ds m' ⟨Ds, rfl, hDs, hnd, hle', i, v, bn, cs, hi, hv, hbn, hints, hll⟩ hX
  simp only [List.map_cons, List.map_nil, List.cons.injEq, and_true] at hll
  obtain ⟨p2, p4, p5, p23, p24, p25⟩ := hll
  simp only [p2, p4, p5, p23, p24, p25, cb_lss, pop_some]
  by_cases hci : i < bs.length
  · have hc' : decide ((i : Int) < (bs.length : Int)) = true := by simpa using hci
    obtain ⟨p, hia, hld⟩ := hM.at2 hci
    have hsz := (hM.ok _ hci).sz
    have hw := (hM.ok _ hci).w
    have hoc := hM.own i bs[i] (List.getElem?_eq_getElem hci)
    generalize bs[i] = c at hld hoc
    have h22 := hle'.1
    rw [hc', cnd_true, hia, pop_some, hld _ hle', pop_some]
    refine alw_of ze94 fun t8 m3 hle3 hb8 ho8 => store_own ho8 (by simp [toL, sz94]) (by simp [toL]) rfl fun m4 hn4 hx4 ho8 => ?_
    simp only [toL] at ho8
    have hle4 : m'.le m4 := le_of_put hle3 hb8 hn4 hx4
    have hc2 := hoc.1
    rw [ho8.cel.z ag94 (j := 0) rfl]
    simp only [pop_some, cnilc, fz101_1]
    rw [ldi (hoc.le (hle'.trans hle4)) (n := (xs i).w) rfl]
    simp only [pop_some, cb_mul]
    rw [wrap_id (n := 1000 * (xs i).w) (by omega) (by omega)]
    refine alw_of ze3 fun t10 m5 hle5 hb10 ho10 => alw_of ze3 fun t11 m6 hle6 hb11 ho11 => ?_
    have h8lt := ho8.1
    have h1011 : t10 ≠ t11 := by have := ho10.1; omega
    replace ho10 := ho10.le hle6
    replace ho8 := ho8.le (hle5.trans hle6)
    refine store_own ho10 (by simp [toL, sz3]) (by simp [toL]) rfl fun m7 hn7 hx7 ho10 => ?_
    simp only [toL] at ho10
    replace ho11 : Own m7 t11 [.int .i64 0] 0 := ⟨by rw [hn7]; exact ho11.1, by rw [hx7 _ h1011.symm]; exact ho11.2⟩
    refine store_own ho11 (by simp [toL, sz3]) (by simp [toL]) rfl fun m8 hn8 hx8 ho11 => ?_
    simp only [toL] at ho11
    replace ho10 : Own m8 t10 [.int .i64 _] 0 := ⟨by rw [hn8]; exact ho10.1, by rw [hx8 _ h1011]; exact ho10.2⟩
    have hb5 := hle5.1
    have hb6 := hle6.1
    have hle7 : m4.le m8 := le_of_put (le_of_put (hle5.trans hle6) hb10 hn7 hx7) (by omega) hn8 hx8
    have hle8 : m'.le m8 := hle4.trans hle7
    replace ho8 : Own m8 t8 [.pointer (some ⟨c, 0, none⟩)] 0 := ⟨by have := ho8.1; omega, by rw [hx8 t8 (by omega), hx7 t8 (by omega)]; exact ho8.2⟩
    rw [lda (ho1.le (hle'.trans hle8)) ag25 sz25, pop_some]
    refine of62 fun m9 tS tK hle9 hbS hbK hoS hoK => ?_
    have h10lt := ho10.1
    have h11lt := ho11.1
    replace ho8 := ho8.le hle9
    replace ho10 := ho10.le hle9
    replace ho11 := ho11.le hle9
    have hle29 : m2.le m9 := hle'.trans (hle8.trans hle9)
    replace hoc := hoc.le hle29
    refine ⟨93, [], [.pointer (some ⟨tS, 0, none⟩), .pointer (some ⟨tK, 0, none⟩)], rfl, ?_⟩
    show callw Tryz.prog 93 [yv (m9.next + 1), .pointer (some ⟨tS, 0, none⟩), .pointer (some ⟨tK, 0, none⟩)] _ _ _
    generalize hD : m9.next = D
    have hc9 := hoc.1
    have hS9 := hoS.1
    have hK9 := hoK.1
    have h89 := ho8.1
    have h10D := ho10.1
    have h11D := ho11.1
    have h49 := hle4.1
    have h99 := hle9.1
    have h88 := hle7.1
    have hc10 : c ≠ t10 := by omega
    have hc11 : c ≠ t11 := by omega
    have h810 : t8 ≠ t10 := by omega
    have h811 : t8 ≠ t11 := by omega
    have hS10 : tS ≠ t10 := by omega
    have hS11 : tS ≠ t11 := by omega
    have hK10 : tK ≠ t10 := by omega
    have hK11 : tK ≠ t11 := by omega
    have hend : ∀ {M : CM} {n1 n2 : Int}, m2.le M → (∀ x, x < D → x ≠ t10 → x ≠ t11 → M.get x = m9.get x) → D < M.next → M.get D = some .dfr → Own M t10 [.int .i64 n1] 0 → Own M t11 [.int .i64 n2] 0 →
        j30_0 (RK K Kp) X v (.pointer (some ⟨t10, 0, none⟩)) (.int .i64 (1000 * (xs i).w)) (.pointer (some ⟨t11, 0, none⟩)) (.int .i64 i) (.pointer (some ⟨t2, 0, none⟩)) (.int .i64 0) va (.int .i64 bs.length) (mark D :: Ds.map mark) M := by
      intro M n1 n2 hl hg hDn hDd o1 o2
      have hw0 : (1000 * (xs i).w) ≠ 0 := by omega
      unfold j30_0
      rw [ldi o1 rfl, pop_some]
      obtain ⟨u1, hu1⟩ := cmm_max (a := 0) (b := n1)
      rw [hu1, pop_some, cb_quo hw0, pop_some, ldi o2 rfl, pop_some]
      obtain ⟨u2, hu2⟩ := cmm_max (a := 0) (b := n2)
      rw [hu2, pop_some, cb_add, pop_some, cb_sub, pop_some, cb_quo hw0, pop_some, hcb59, pop_some]
      have hv' : HVe 2 M v bn cs i := hv.of_get (by omega) fun y hy => by
        have h1 := hv.lt hy
        rw [hg y (by omega) (by omega) (by omega), hle9.2 y (by omega), hle8.2 y h1]
      refine appJ (e := 1) (by omega) Tryz.underlying63 sz59 ze59 rfl ap63 by59 (by decide) (by decide) hv' rfl rfl (by unfold lim; omega) (fun _ _ => rfl) (fun t m1 y => get_over ..) fun m3 hn3 hg3 ho3 => ?_
      unfold j30_1
      rw [cb_add, pop_some, wrap_id (by omega) (by omega)]
      have hl1 := hl.1
      have hbD : bn ≠ some D := fun e => by have := hv.lt e; omega
      refine hX _ _ _ ⟨D :: Ds, rfl, fun E hE => ?_, List.pairwise_cons.2 ⟨fun E hE e => ?_, hnd⟩, ⟨by omega, fun y hy => by rw [hg3 y (by omega) (fun e => by have := hbn y e; omega)]; exact hl.2 y hy⟩, i + 1, .slice (some ⟨M.next + 1, 0, none⟩) (i + 1) 0, _, _, by omega, .blk ho3 (by have := hv.len; simp [toL]; omega), fun y hy => by cases hy; omega, fun u hu => ?_, by simp⟩ ?_
      · rcases List.mem_cons.1 hE with rfl | hE
        · exact ⟨by omega, by omega, by rw [hg3 _ hDn hbD]; exact hDd⟩
        · obtain ⟨q1, q2, q3⟩ := hDs E hE
          have hbE : bn ≠ some E := fun e => by
            cases hv with
            | nil => cases e
            | blk ho _ => cases e; rw [ho.2] at q3; cases q3
          exact ⟨q1, by omega, by rw [hg3 E (by omega) hbE, hg E (by omega) (by omega) (by omega), hle9.2 E (by omega), hle8.2 E q2]; exact q3⟩
      · have := (hDs E hE).2.1; omega
      · simp only [List.mem_append, toL, List.mem_cons, List.not_mem_nil, or_false] at hu
        rcases hu with hu | rfl | rfl
        · exact hints u hu
        · exact ⟨_, rfl⟩
        · exact ⟨_, rfl⟩
      · simp only [List.map_cons, List.map_nil, p25]; omega
    let REC : CL := rfRec (A30 ρ (Ds.map mark) (.bool true) p (.pointer (some ⟨c, 0, none⟩)) (.pointer (some ⟨t8, 0, none⟩)) (.pointer (some ⟨c, 0, none⟩)) (.pointer (some ⟨c, 0, none⟩)) (.pointer (some ⟨c, 3, none⟩)) (.int .i64 (xs i).w) (.int .i64 (1000 * (xs i).w)) (.int .i64 (IntKind.i64.wrap (1000 * (1000 * (xs i).w)))) (.int .i64 (IntKind.i64.wrap (1000 * (1000 * (xs i).w)))) (.pointer (some ⟨t10, 0, none⟩)) (.pointer (some ⟨t11, 0, none⟩)) (.agg ⟨d.cells⟩) (.func (.func 93) ⟨[]⟩ ⟨[.pointer (some ⟨tS, 0, none⟩), .pointer (some ⟨tK, 0, none⟩)]⟩)) #[40, 41] as30_0 bd30_0 D
    have hmd : m.next ≤ D := by have := hle.1; omega
    refine iter93 (d := d) (t2 := tS) (t3 := tK) (l := D + 1) (kd := 0)
      (I := fun _ M => (∀ x, x < D → x ≠ t10 → x ≠ t11 → M.get x = m9.get x) ∧ D + 2 ≤ M.next ∧ M.get D = some .dfr ∧ M.get (D + 1) = some (.loop REC) ∧ ∃ n1 n2 : Int, Own M t10 [.int .i64 n1] 0 ∧ Own M t11 [.int .i64 n2] 0) ?_ ?_ ?_ ?_ ?_ ?_
    · rintro i m2 m3 ⟨g0, g1, g2, g3, n1, n2, g4, g5⟩ hle
      exact ⟨fun x h1 h2 h3 => by rw [hle.2 x (by omega)]; exact g0 x h1 h2 h3, by have := hle.1; omega, by rw [hle.2 _ (by omega)]; exact g2, by rw [hle.2 _ (by omega)]; exact g3, n1, n2, g4.le hle, g5.le hle⟩
    · exact fun _ _ h => h
    · rintro j M ⟨g0, g1, g2, g3, n1, n2, g4, g5⟩
      refine ⟨hd.le ⟨by omega, fun x hx => ?_⟩, ⟨by omega, by rw [g0 tS (by omega) hS10 hS11]; exact hoS.2⟩, ⟨by omega, by rw [g0 tK (by omega) hK10 hK11]; exact hoK.2⟩⟩
      have h1 := hle.1
      rw [g0 x (by omega) (by omega) (by omega), hle29.2 x (by omega)]
      exact hle.2 x hx
    · rintro j M K' ⟨g0, g1, g2, g3, n1, n2, g4, g5⟩ hj hk
      have hj5 : j < 5 := by omega
      obtain ⟨s, kk, lm, w, f, hr⟩ := hd.rt0 j hj
      refine yield30 g3 ?_
      unfold r30_0
      rw [hr]
      refine alw_of ze80 fun t13 m10 hle10 hb13 ho13 => store_own ho13 (by simp [toL, sz80]) (by simp [toL]) rfl fun m11 hn11 hx11 ho13 => ?_
      simp only [toL] at ho13
      have hle11 : M.le m11 := le_of_put hle10 hb13 hn11 hx11
      have hL3 : m11.get (D + 1) = some (.loop REC) := by rw [hle11.2 _ (by omega)]; exact g3
      refine ⟨REC, hL3, rfl, ?_⟩
      generalize hm12 : m11.put (D + 1) (.loop { REC with state := .busy }) = m12
      have hn12 : m12.next = m11.next := by rw [← hm12]; rfl
      have hP : ∀ x, x ≠ D + 1 → m12.get x = m11.get x := fun x hx => by rw [← hm12, CM.get_put, if_neg hx]
      have hL12 : m12.get (D + 1) = some (.loop { REC with state := .busy }) := by rw [← hm12, CM.get_put, if_pos rfl]
      have h11n := hle11.1
      have keepO : ∀ {x : Nat} {l : List Value} {k : Nat}, Own m11 x l k → x ≠ D + 1 → Own m12 x l k := fun o hx => ⟨by rw [hn12]; exact o.1, by rw [hP _ hx]; exact o.2⟩
      have o13 := keepO ho13 (by omega)
      have o10 := keepO (g4.le hle11) (by omega)
      have o11 := keepO (g5.le hle11) (by omega)
      have oldO : ∀ {x : Nat} {l : List Value} {k : Nat}, Own m9 x l k → x ≠ t10 → x ≠ t11 → Own m12 x l k := fun o h1 h2 => ⟨by have := o.1; omega, by have := o.1; rw [hP _ (by omega), hle11.2 _ (by omega), g0 _ (by omega) h1 h2]; exact o.2⟩
      have o8 := oldO ho8 h810 h811
      have oc := oldO hoc hc10 hc11
      rw [A30_10, A30_8, A30_11, ldi o10 rfl]
      simp only [pop_some, fz80_3]
      rw [ldi o13 (j := 3) rfl]
      simp only [pop_some]
      rw [o8.cel.z ag94 (j := 0) rfl]
      simp only [pop_some, cnilc, fz101_3, cia99 _ _ hj5, fa59_1]
      rw [show 5 + j * 2 + 1 = 5 + (j * 2 + 1) by omega, lmi hsz oc (by omega)]
      simp only [pop_some, cb_mul, cb_sub]
      refine store_own o10 (by simp [toL, sz3]) (by simp [toL]) rfl fun m13 hn13 hx13 o10' => ?_
      simp only [toL] at o10'
      have st : ∀ {x : Nat} {l : List Value} {k : Nat}, Own m12 x l k → x ≠ t10 → Own m13 x l k := fun o hx => ⟨by rw [hn13]; exact o.1, by rw [hx13 _ hx]; exact o.2⟩
      have q11 := st o11 h1011.symm
      have q13 := st o13 (by omega)
      have q8 := st o8 h810
      have qc := st oc hc10
      rw [ldi q11 rfl]
      simp only [pop_some]
      rw [ldi q13 (j := 3) rfl]
      simp only [pop_some]
      rw [q8.cel.z ag94 (j := 0) rfl]
      simp only [pop_some, fz101_3, cia99 _ _ hj5, fa59_0]
      rw [lmi hsz qc (by omega)]
      simp only [pop_some, cb_mul, cb_sub]
      refine store_own q11 (by simp [toL, sz3]) (by simp [toL]) rfl fun m14 hn14 hx14 o11' => ?_
      simp only [toL] at o11'
      have hL14 : m14.get (D + 1) = some (.loop { REC with state := .busy }) := by rw [hx14 _ (by omega), hx13 _ (by omega)]; exact hL12
      have q10 : Own m14 t10 [.int .i64 _] 0 := ⟨by rw [hn14]; exact o10'.1, by rw [hx14 _ h1011]; exact o10'.2⟩
      refine ⟨none, _, rfl, hL14, hk _ ⟨fun x h1 h2 h3 => ?_, by simp only [CM.next_put]; omega, ?_, ?_, _, _, Own.put_ne q10 (by omega), Own.put_ne o11' (by omega)⟩⟩
      · rw [CM.get_put, if_neg (by omega), hx14 x h3, hx13 x h2, hP x (by omega), hle11.2 x (by omega)]; exact g0 x h1 h2 h3
      · rw [CM.get_put, if_neg (by omega), hx14 _ (by omega), hx13 _ (by omega), hP _ (by omega), hle11.2 _ (by omega)]; exact g2
      · rw [CM.get_put, if_pos rfl]; rfl
    · have hA : ∀ x, x < D → ((m9.alloc .dfr).alloc (.loop REC)).get x = m9.get x := fun x hx => by rw [CM.get_alloc, if_neg (by simp; omega), CM.get_alloc, if_neg (by omega)]
      refine ⟨fun x hx _ _ => hA x hx, by simp only [CM.next_alloc]; omega, by rw [CM.get_alloc, if_neg (by simp only [CM.next_alloc]; omega), CM.get_alloc, if_pos (by omega)], by rw [CM.get_alloc, if_pos (by simp only [CM.next_alloc]; omega)], _, _, ⟨by simp only [CM.next_alloc]; omega, by rw [hA t10 (by omega)]; exact ho10.2⟩, ⟨by simp only [CM.next_alloc]; omega, by rw [hA t11 (by omega)]; exact ho11.2⟩⟩
    · rintro v0 M ⟨g0, g1, g2, g3, n1, n2, g4, g5⟩
      refine ⟨REC, g3, (by intro h; cases h), .normal, rfl, ?_⟩
      have g4' : Own (M.put (D + 1) (.loop { REC with state := .exhausted })) t10 [.int .i64 n1] 0 := Own.put_ne g4 (by omega)
      have g5' : Own (M.put (D + 1) (.loop { REC with state := .exhausted })) t11 [.int .i64 n2] 0 := Own.put_ne g5 (by omega)
      have hPx : ∀ x, x ≠ D + 1 → (M.put (D + 1) (.loop { REC with state := .exhausted })).get x = M.get x := fun x hx => by rw [CM.get_put, if_neg hx]
      exact hend (M := M.put (D + 1) (.loop { REC with state := .exhausted })) ⟨by simp only [CM.next_put]; have := hle29.1; omega, fun x hx => by
          have := hle29.1
          rw [hPx x (by omega), g0 x (by omega) (by omega) (by omega)]; exact hle29.2 x hx⟩ (fun x h1 h2 h3 => by rw [hPx x (by omega)]; exact g0 x h1 h2 h3) (by simp only [CM.next_put]; omega) (by rw [hPx _ (by omega)]; exact g2) g4' g5'
  · have hc' : decide ((i : Int) < (bs.length : Int)) = false := by simpa using hci
    rw [hc', cnd_false]
    show leaveV Tryz.prog _ (Ds.map mark) .ret m' _
    refine leave_marks (fun D hD => (hDs D hD).2.2) hnd fun m3 hn3 hx3 => ?_
    rw [leave2, RK_ret]
    refine hK _ _ _ ⟨by have := hle.1; have := hle'.1; omega, fun x hx => ?_⟩ ⟨bn, cs, i, hv.of_get (by omega) fun y hy => hx3 y fun hm => ?_, fun y hy => by have := hbn y hy; have := hle.1; omega, by omega, hints⟩
    · have h1 := hle.1
      rw [hx3 x (fun hm => by have := (hDs x hm).1; omega), hle'.2 x (by omega)]
      exact hle.2 x hx
    · have h1 := (hDs y hm).2.2
      cases hv with
      | nil => cases hy
      | blk ho _ => cases hy; rw [ho.2] at h1; cases h1
end Go.Proofs.YtclgfagkaklnnaaGreat.C
end

section
open Go Go.Proofs Go.Proofs.YtclgfagkaklnnaaGreat
set_option maxRecDepth 100000
namespace Go.Proofs.YtclgfagkaklnnaaGreat.C
/-! ### A truth -/
structure TruD where
  vl : Value
  nl : Nat
  lv : Nat → Value
  ln : Nat → Nat
  lx : Nat → Nat → Int
  vb : Value
  nb : Nat
  bv : Nat → Value
  bn : Nat → Nat
  bx : Nat → Nat → Int
  va : Value
  na : Nat
  ax : Nat → Int
def TruD.cells (t : TruD) : List Value := [t.vl, t.vb, t.va]
structure TruD.In (t : TruD) (m : CM) : Prop where
  sl : Sl 1 m t.vl t.nl (fun i => [t.lv i])
  sll : ∀ i, i < t.nl → Sl 1 m (t.lv i) (t.ln i) (fun j => [.int .i64 (t.lx i j)])
  sb : Sl 1 m t.vb t.nb (fun i => [t.bv i])
  sbb : ∀ i, i < t.nb → Sl 1 m (t.bv i) (t.bn i) (fun j => [.int .i64 (t.bx i j)])
  sa : Sl 1 m t.va t.na (fun j => [.int .i64 (t.ax j)])
  nl0 : t.nl < 4611686018427387904
  nb0 : t.nb < 4611686018427387904
theorem TruD.In.le {t : TruD} {m m' : CM} (h : t.In m) (k : m.le m') : t.In m' := ⟨h.sl.le k, fun i hi => (h.sll i hi).le k, h.sb.le k, fun i hi => (h.sbb i hi).le k, h.sa.le k, h.nl0, h.nb0⟩
theorem short55 {m : CM} {v : Value} {n k : Nat} {row : Nat → List Value} (hs : Sl 1 m v n row) {t11 : Nat} (h11 : Own m t11 [.int .i64 k] 0) {K : Value → CM → Prop} {Kp : List PanicEntry → CM → Prop} (hK : ∀ b, (b = false → n = k) → K (.bool b) m) :
    callw Tryz.prog 55 [v, .pointer (some ⟨t11, 0, none⟩)] m K Kp := by
  apply c55
  unfold s55
  rw [hs.len Tryz.underlying28, pop_some, ldi h11 rfl, pop_some, cb_neq, pop_some, leave1, RK_ret]
  refine hK _ fun h => ?_
  have : (n : Int) = (k : Int) := by simpa using h
  omega
theorem has56 {m : CM} {v : Value} {n k : Nat} {vs : Nat → Value} {ln : Nat → Nat} {rw' : Nat → Nat → List Value} (hs : Sl 1 m v n (fun i => [vs i])) (hn : n < 4611686018427387904) (hss : ∀ i, i < n → Sl 1 m (vs i) (ln i) (rw' i)) {t11 : Nat} (h11 : Own m t11 [.int .i64 k] 0)
    {K : Value → CM → Prop} {Kp : List PanicEntry → CM → Prop} (hK : ∀ m' b, m.le m' → (b = false → ∀ i, i < n → ln i = k) → K (.bool b) m') :
    callw Tryz.prog 56 [v, .func (.func 55) ⟨[]⟩ ⟨[.pointer (some ⟨t11, 0, none⟩)]⟩] m K Kp := by
  refine c56 (con_ok (fun h => c92 h) Tryz.underlying27 sz28 ag28 (by decide) hs hn (fun i b => b = false → ln i = k) (fun i m' hi hle => ?_) fun m2 b2 hle2 hf2 _ => hK m2 b2 hle2 fun h i hi => hf2 h i hi rfl)
  show callw Tryz.prog 55 ([] ++ [vs i] ++ [.pointer (some ⟨t11, 0, none⟩)]) m' _ _
  exact short55 ((hss i hi).le hle) (h11.le hle) fun b hb => ⟨b, rfl, .refl m', hb⟩
/-- All but two blocks are kept. -/
def Keep2 (m : CM) (b c : Nat) (m' : CM) : Prop := m.next ≤ m'.next ∧ ∀ x, x < m.next → x ≠ b → x ≠ c → m'.get x = m.get x
theorem Keep2.refl (m : CM) (b c : Nat) : Keep2 m b c m := ⟨Nat.le_refl _, fun _ _ _ _ => rfl⟩
theorem Keep2.le {m m1 m2 : CM} {b c : Nat} (h : Keep2 m b c m1) (k : m1.le m2) : Keep2 m b c m2 := ⟨Nat.le_trans h.1 k.1, fun x hx h1 h2 => by rw [k.2 x (Nat.lt_of_lt_of_le hx h.1)]; exact h.2 x hx h1 h2⟩
theorem Keep2.trans {m m1 m2 : CM} {b c : Nat} (h : Keep2 m b c m1) (k : Keep2 m1 b c m2) : Keep2 m b c m2 := ⟨Nat.le_trans h.1 k.1, fun x hx h1 h2 => by rw [k.2 x (Nat.lt_of_lt_of_le hx h.1) h1 h2]; exact h.2 x hx h1 h2⟩
theorem Keep2.put1 {m m1 m2 : CM} {b c : Nat} (h : Keep2 m b c m1) (hn : m2.next = m1.next) (hx : ∀ x, x ≠ b → m2.get x = m1.get x) : Keep2 m b c m2 := ⟨by rw [hn]; exact h.1, fun x hl h1 h2 => by rw [hx x h1]; exact h.2 x hl h1 h2⟩
theorem Keep2.put2 {m m1 m2 : CM} {b c : Nat} (h : Keep2 m b c m1) (hn : m2.next = m1.next) (hx : ∀ x, x ≠ c → m2.get x = m1.get x) : Keep2 m b c m2 := ⟨by rw [hn]; exact h.1, fun x hl h1 h2 => by rw [hx x h2]; exact h.2 x hl h1 h2⟩
theorem Own.keep2 {m m' : CM} {b c x e : Nat} {l : List Value} (h : Own m x l e) (k : Keep2 m b c m') (h1 : x ≠ b) (h2 : x ≠ c) : Own m' x l e := ⟨Nat.lt_of_lt_of_le h.1 k.1, by rw [k.2 x h.1 h1 h2]; exact h.2⟩
theorem le_keep2 {m0 m m' : CM} {b c : Nat} (h : m0.le m) (k : Keep2 m b c m') (h1 : m0.next ≤ b) (h2 : m0.next ≤ c) : m0.le m' := ⟨Nat.le_trans h.1 k.1, fun y hy => by rw [k.2 y (Nat.lt_of_lt_of_le hy h.1) (by omega) (by omega)]; exact h.2 y hy⟩
/-- What pour of Made writes: the micrograms and whether something was wrong. -/
structure Mad (m : CM) (t8 t14 bM n : Nat) (cs : List Value) (w : Bool) : Prop where
  o8 : Own m t8 [.slice (some ⟨bM, 0, none⟩) n 0] 0
  oM : Own m bM cs 1
  o14 : Own m t14 [.bool w] 0
  len : cs.length = n
  ints : ∀ u ∈ cs, ∃ k, u = .int .i64 k
theorem Mad.le {m m' : CM} {t8 t14 bM n : Nat} {cs : List Value} {w : Bool} (h : Mad m t8 t14 bM n cs w) (k : m.le m') : Mad m' t8 t14 bM n cs w := ⟨h.o8.le k, h.oM.le k, h.o14.le k, h.len, h.ints⟩
theorem pour57 {m : CM} {t8 t14 bM n : Nat} {cs : List Value} {w : Bool} (hm : Mad m t8 t14 bM n cs w) (h8 : t8 ≠ bM ∧ t8 ≠ t14) (hM14 : bM ≠ t14) {vn vf : Value} {nx : Nat → Int} {row : Nat → List Value} (hn : n ≤ 5)
    (hs : ∀ m', Keep2 m bM t14 m' → Sl 1 m' vn n (fun j => [.int .i64 (nx j)]) ∧ SlW 63 2 m' vf n row) (hR : ∀ i, i < n → SpRow (row i)) {k : Int} {K : Value → CM → Prop} {Kp : List PanicEntry → CM → Prop}
    (hK : ∀ m' cs w, Keep2 m bM t14 m' → Mad m' t8 t14 bM n cs w → K (.tuple ⟨[]⟩) m') : callw Tryz.prog 57 [.int .i64 k, vn, vf, .pointer (some ⟨t8, 0, none⟩), .pointer (some ⟨t14, 0, none⟩)] m K Kp := by
  apply c57
  unfold s57
  rw [(hs m (.refl ..)).1.len Tryz.underlying28, pop_some]
  refine loopA_of (fun l0 ds m' => ds = [] ∧ Keep2 m bM t14 m' ∧ ∃ (i : Nat) (cs : List Value) (w : Bool), i ≤ n ∧ Mad m' t8 t14 bM n cs w ∧ l0 = [.int .i64 k, vf, .pointer (some ⟨t8, 0, none⟩), .pointer (some ⟨t14, 0, none⟩), vn, .int .i64 n, .int .i64 i])
    (fun l _ => match l with | [_, _, _, _, _, _, .int _ i] => n - i.toNat | _ => 0) ⟨rfl, .refl .., 0, cs, w, by omega, hm, rfl⟩ ?_
  clear hm w cs
  rintro X ρ ds m' ⟨rfl, hkp, i, cs, w, hi, hm, hll⟩ hX
  simp only [List.map_cons, List.map_nil, List.cons.injEq, and_true] at hll
  obtain ⟨p0, p2, p3, p4, p10, p11, p12⟩ := hll
  simp only [p0, p2, p3, p4, p10, p11, p12, cb_lss, pop_some]
  by_cases hci : i < n
  · have hc' : decide ((i : Int) < (n : Int)) = true := by simpa using hci
    obtain ⟨hs1, hs2⟩ := hs _ hkp
    obtain ⟨bx, ox, hia, hcel, hlen⟩ := hs1.at Tryz.underlying28 sz3 (i := i) (by omega) (by omega)
    simp only [Int.toNat_natCast] at hcel hlen
    rw [hc', cnd_true, hia, pop_some, hcel.elv ag3 sz3 hlen (by decide), pop_some, hm.o8.cel.z ag28 (j := 0) rfl, pop_some]
    have hml := hm.len
    have hiM : cia Tryz.prog 28 (.slice (some ⟨bM, 0, none⟩) n 0) (.int .i64 i) = some (.pointer (some ⟨bM, i, none⟩)) := by
      simp [cia, Tryz.underlying28, sz3, hci]
    rw [hiM, pop_some]
    obtain ⟨u, hu⟩ : ∃ u : Int, cs[i]? = some (.int .i64 u) := by
      have : i < cs.length := by omega
      obtain ⟨q, hq⟩ := hm.ints cs[i] (List.getElem_mem this)
      exact ⟨q, by rw [List.getElem?_eq_getElem this, hq]⟩
    rw [hm.oM.cel.z ag3 hu, pop_some]
    show pop (cbin Tryz.prog BinOp.mul 3 _ _ (.int .i64 k) (.int .i64 (nx i))) m' _
    rw [cb_mul, pop_some, cb_add, pop_some]
    simp only [pop_some]
    refine hm.oM.store (by simp [toL, sz3]) (by simp [toL]; omega) rfl fun m2 hn2 hx2 ho2 => ?_
    simp only [toL] at ho2
    have hk2 := hkp.put1 hn2 hx2
    have hm2 : Mad m2 t8 t14 bM n (splice cs i [.int .i64 (IntKind.i64.wrap (u + IntKind.i64.wrap (k * nx i)))]) w := by
      refine ⟨⟨by rw [hn2]; exact hm.o8.1, by rw [hx2 _ h8.1]; exact hm.o8.2⟩, ho2, ⟨by rw [hn2]; exact hm.o14.1, by rw [hx2 _ hM14.symm]; exact hm.o14.2⟩, by rw [splice_at (by omega)]; exact hml, fun x hx => ?_⟩
      rw [splice_set (by omega)] at hx
      rcases List.mem_or_eq_of_mem_set hx with h | h
      · exact hm.ints x h
      · exact ⟨_, h⟩
    obtain ⟨hs1, hs2⟩ := hs _ hk2
    generalize splice cs i _ = cs2 at hm2
    clear hm ho2
    have hfin : ∀ {m3 : CM} {b : Bool}, m2.le m3 → sop (cstore Tryz.prog 4 (.pointer (some ⟨t14, 0, none⟩)) (.bool b) m3) (fun _ m => pop (cbin Tryz.prog BinOp.add 3 (Operand.tmp 12) (Operand.const (Value.int IntKind.i64 1)) (.int .i64 i) (.int .i64 1)) m (fun t42 m => X [.int .i64 k, vf, .pointer (some ⟨t8, 0, none⟩), .pointer (some ⟨t14, 0, none⟩), vn, .int .i64 n, t42] [] m)) := by
      intro m3 b hle3
      have hm3 := hm2.le hle3
      refine store_own hm3.o14 (by simp [toL, sz4]) (by simp [toL]) rfl fun m4 hn4 hx4 ho4 => ?_
      simp only [toL] at ho4
      rw [cb_add, pop_some, wrap_id (by omega) (by omega)]
      refine hX _ _ _ ⟨rfl, (hk2.le hle3).put2 hn4 hx4, i + 1, cs2, b, by omega, ⟨⟨by rw [hn4]; exact hm3.o8.1, by rw [hx4 _ h8.2]; exact hm3.o8.2⟩, ⟨by rw [hn4]; exact hm3.oM.1, by rw [hx4 _ hM14]; exact hm3.oM.2⟩, ho4, hm3.len, hm3.ints⟩, by simp⟩ ?_
      simp only [List.map_cons, List.map_nil, p12]; omega
    rw [hm2.o14.cel.z ag4 (j := 0) rfl, pop_some]
    cases w with
    | true =>
      simp only [gb_bool, Bool.true_beq, dgs_false, dgo_false, gop_false, cpick_bool, if_true, pop_some]
      generalize hMV : memJ m2 _ (fun _ => true) m2.next = MV
      have hV : m2.le MV := hMV ▸ ⟨Nat.le_refl _, fun _ _ => rfl⟩
      exact hfin hV
    | false =>
      obtain ⟨b2, o2, hia2, hcel2, hlen2⟩ := hs2.at' i hci
      obtain ⟨lo, hi', hr⟩ := hR i hci
      rw [hr] at hcel2
      simp only [gb_bool, beq_self_eq_true, dgs_true, dgo_true, gop_true, cpick_bool, Bool.false_eq_true, if_false, pop_some]
      rw [hia2]
      simp only [pop_some, fa59_0, fa59_1]
      rw [show cload Tryz.prog 3 (.pointer (some ⟨b2, o2, none⟩)) m2 = some (.int .i64 lo) from hcel2.s ag3 (j := 0) rfl]
      simp only [pop_some]
      rw [hcel2.s ag3 (j := 1) rfl]
      simp only [pop_some]
      have hb : cbuildS Tryz.prog 28 1 [(0, .int .i64 (nx i))] m2 = some (.slice (some ⟨m2.next, 0, none⟩) 1 0, m2.alloc (.cells [.int .i64 (nx i)] 1 true)) := by
        simp [cbuildS, Tryz.underlying28, sz3, ze3, zeros, cfill, splice, toL]
      show vop (cbuildS Tryz.prog 28 1 [(0, .int .i64 (nx i))] m2) _
      rw [hb, vop_some]
      have hle3 : m2.le (m2.alloc (.cells [.int .i64 (nx i)] 1 true)) := ⟨by simp, fun y hy => by rw [CM.get_alloc, if_neg (by omega)]⟩
      refine ⟨hle3, ?_⟩
      generalize hMV : memJ m2 _ (fun _ => true) _ = MV
      have hV : (m2.alloc (.cells [.int .i64 (nx i)] 1 true)).le MV := hMV ▸ le_view hle3 rfl fun y => get_over ..
      have hoS : Own MV m2.next [.int .i64 (nx i)] 1 := Own.le ⟨by simp, by rw [CM.get_alloc, if_pos rfl]⟩ hV
      refine out41 _ _ 1 (fun _ => nx i) _ _ _ _ ?_ (by decide) fun m5 b5 hle5 _ => ?_
      · refine .inr (.inl ⟨_, 0, 0, _, true, rfl, hoS.1, hoS.2, fun j hj => ⟨rfl, fun q hq => ?_⟩⟩)
        have hj0 : j = 0 := by omega
        have hq0 : q = 0 := by omega
        subst hj0 hq0
        rfl
      · exact hfin (hle3.trans (hV.trans hle5))
  · have hc' : decide ((i : Int) < (n : Int)) = false := by simpa using hci
    rw [hc', cnd_false, leave0, RK_ret]
    exact hK _ _ _ hkp hm
end Go.Proofs.YtclgfagkaklnnaaGreat.C
end

section
open Go Go.Proofs Go.Proofs.YtclgfagkaklnnaaGreat
set_option maxRecDepth 100000
namespace Go.Proofs.YtclgfagkaklnnaaGreat.C
theorem le_view2 {m m1 m2 M : CM} (h1 : m.le m1) (h2 : m1.le m2) (hn : M.next = m2.next) (hg : ∀ y, M.get y = if m1.next ≤ y ∧ y < m1.next + (m2.next - m1.next) then m2.get y else if m.next ≤ y ∧ y < m.next + (m1.next - m.next) then m1.get y else m.get y) : m2.le M :=
  ⟨by omega, fun y hy => by
    have q1 := h1.1; have q2 := h2.1
    rw [hg y]
    split
    · rfl
    · split
      · exact (h2.2 y (by omega)).symm
      · rw [h2.2 y (by omega), h1.2 y (by omega)]⟩
theorem KeepX.keep2 {m m1 m2 : CM} {t b c : Nat} (h : KeepX m t m1) (k : Keep2 m1 b c m2) (hb : m.next ≤ b) (hc : m.next ≤ c) : KeepX m t m2 := ⟨Nat.le_trans h.1 k.1, fun x hx hne => by rw [k.2 x (Nat.lt_of_lt_of_le hx h.1) (by omega) (by omega)]; exact h.2 x hx hne⟩
set_option maxHeartbeats 4000000 in
theorem Made17 {d : ShopD} {e : BatsD} {t : TruD} {m : CM} (hd : d.In m) (he : e.In m) (ht : t.In m) {kk : Int} {K : Value → CM → Prop} {Kp : List PanicEntry → CM → Prop}
    (hK : ∀ m' v (c : Int), m.le m' → ResV 1 m m' v → K (.tuple ⟨[v, .int .i64 c]⟩) m') : callw Tryz.prog 17 [.agg ⟨d.cells⟩, e.v, .int .i64 kk, .agg ⟨t.cells⟩] m K Kp := by
  apply c17
  unfold s17
  refine box_of fun t4 m0 hle0 hb4 ho4 => box_of fun t7 m0' hle0' hb7 ho7 => alw_of ze28 fun t8 m1 hle1 hb8 ho8 => ?_
  replace ho4 : Own m0 t4 d.cells 0 := ho4
  replace ho7 : Own m0' t7 t.cells 0 := ho7
  have h48 : t4 ≠ t8 := by have := ho4.1; have := hle0'.1; omega
  have h78 : t7 ≠ t8 := by have := ho7.1; omega
  replace ho4 := ho4.le (hle0'.trans hle1)
  replace ho7 := ho7.le hle1
  have h8m : m.next ≤ t8 := by have := hle0.1; have := hle0'.1; omega
  have h8l := ho8.1
  replace hle1 := hle0.trans (hle0'.trans hle1)
  rw [lda ho4 ag25 sz25, pop_some]
  refine melt51 (hd.le hle1) (he.le hle1) fun m2 va c hle2 hnil hM => ?_
  have hle := hle1.trans hle2
  replace ho4 := ho4.le hle2
  replace ho7 := ho7.le hle2
  replace ho8 := ho8.le hle2
  have o4m := ho4
  have o7m := ho7
  have h12n := hle2.1
  have fin : ∀ {m4 : CM} {v : Value} {c : Int}, m.le m4 → Own m4 t8 [v] 0 → sop (cstore Tryz.prog 28 (.pointer (some ⟨t8, 0, none⟩)) (.slice none 0 0) m4) (fun _ m => leaveV Tryz.prog [.c 28 (.pointer (some ⟨t8, 0, none⟩)), .v (.int .i64 c)] [] .ret m (RK K Kp)) := by
    intro m4 v c hl ho
    refine store_own ho (by simp [toL, sz28]) (by simp [toL]) rfl fun m5 hn5 hx5 ho5 => ?_
    simp only [toL] at ho5
    show pop (cload Tryz.prog 28 (.pointer (some ⟨t8, 0, none⟩)) m5) m5 _
    rw [ho5.cel.z ag28 (j := 0) rfl, pop_some]
    exact hK m5 _ c (le_of_put hl h8m hn5 hx5) .nil
  simp only [cext, List.getElem?_cons_zero, List.getElem?_cons_succ, pop_some, cb_neq]
  cases hc : (c != 0) with
  | true => rw [cnd_true]; exact fin hle ho8
  | false =>
  have hc0 : c = 0 := by simpa using hc
  subst hc0
  obtain ⟨bs, xs, hM⟩ := hM rfl
  have hn := hM.n; have hn6 := hM.n1; have hnt := hM.d.nt1; have hnl := hM.d.nl1
  rw [cnd_false, (he.s.le hle).len Tryz.underlying26, pop_some, cb_sub, pop_some]
  refine out_1 fun b3 m5 hle5 h3 => ?_
  replace ho4 := ho4.le hle5
  replace ho7 := ho7.le hle5
  replace ho8 := ho8.le hle5
  have hle' := hle.trans hle5
  cases b3 with
  | true => rw [cnd_true]; exact fin hle' ho8
  | false =>
  have hkk := h3 rfl
  rw [wrap_id (by omega) (by omega)] at hkk
  obtain ⟨kx, rfl⟩ : ∃ i : Nat, kk = i := ⟨kk.toNat, by omega⟩
  have hkl : kx < bs.length := by omega
  rw [cnd_false, fz25_0, pop_some, ho4.cel.z ag22 (j := 0) rfl]
  simp only [pop_some]
  rw [(hd.le hle').st.len Tryz.underlying22]
  simp only [pop_some]
  obtain ⟨p, hia, hld⟩ := hM.at2 hkl
  rw [hia]
  simp only [pop_some]
  rw [hld _ hle5]
  simp only [pop_some]
  have hok := hM.ok kx hkl
  have hsz := hok.sz
  have hoc2 := hM.own kx bs[kx] (List.getElem?_eq_getElem hkl)
  have hc8 : bs[kx] ≠ t8 := by have := hM.ss bs[kx] (List.getElem_mem hkl); omega
  generalize hcb : bs[kx] = cb at hoc2 hc8
  have hoc := hoc2.le hle5
  refine alw_of ze3 fun t11 m6 hle6 hb11 ho11 => ⟨hle6, ?_⟩
  have h11l := ho11.1
  have h66 := hle6.1
  have J : ∀ (E : List Ent) (sel : Nat → Bool), (memJ m5 E sel m6.next).t = (m5.over m5.next (m6.next - m5.next) m6).t → ∀ x, (memJ m5 E sel m6.next).get x = if m5.next ≤ x ∧ x < m5.next + (m6.next - m5.next) then m6.get x else m5.get x := by
    intro E sel hE x
    have : (memJ m5 E sel m6.next).get x = CM.get (m5.over m5.next (m6.next - m5.next) m6) x := by simp only [CM.get, hE]
    rw [this, get_over]
  have J6 : ∀ (E : List Ent) (sel : Nat → Bool), (memJ m5 E sel m6.next).t = (m5.over m5.next (m6.next - m5.next) m6).t → (memJ m5 E sel m6.next).get t11 = some (.cells [.int .i64 0] 0 true) := fun E sel hE => by
    rw [J E sel hE, if_pos (by omega)]; exact ho11.2
  refine lstw_own (J6 _ _ rfl) (by simp [toL, sz3]) (by simp [toL]) (by simp [toL, one]) ?_
  refine ⟨⟨_, rfl, hb11, h11l⟩, (by simp), ?_⟩
  generalize hML : memL m5 _ [(8, t11, _)] (fun _ => true) m6.next = ML
  rw [memL1 rfl (J6 _ _ rfl)] at hML
  have hleM : m5.le ML := by
    subst hML
    exact ⟨h66, fun x hx => by rw [CM.get_put, if_neg (by omega), J _ _ rfl, if_neg (by omega)]⟩
  have o11 : Own ML t11 [.int .i64 d.nt] 0 := by
    subst hML
    exact ⟨h11l, by rw [CM.get_put, if_pos rfl]; rfl⟩
  clear hML J J6
  replace ho4 := ho4.le hleM
  replace ho7 := ho7.le hleM
  replace ho8 := ho8.le hleM
  replace hle' := hle'.trans hleM
  replace hoc := hoc.le hleM
  simp only [fz30_0, fz30_1, fz30_2, fz25_1, cnilc, fz101_0, fz97_0, fz97_1, pop_some]
  have l7l : ∀ {M : CM}, ML.le M → cload Tryz.prog 27 (.pointer (some ⟨t7, 0, none⟩)) M = some t.vl := fun h => (ho7.le h).cel.z ag27 (j := 0) rfl
  have l7b : ∀ {M : CM}, ML.le M → cload Tryz.prog 27 (.pointer (some ⟨t7, 1, none⟩)) M = some t.vb := fun h => (ho7.le h).cel.z ag27 (j := 1) rfl
  have l7a : ∀ {M : CM}, ML.le M → cload Tryz.prog 28 (.pointer (some ⟨t7, 2, none⟩)) M = some t.va := fun h => (ho7.le h).cel.z ag28 (j := 2) rfl
  have ht' := fun {M : CM} (h : ML.le M) => ht.le (hle'.trans h)
  rw [l7l (.refl ML)]
  simp only [pop_some]
  rw [(ht' (.refl ML)).sl.len Tryz.underlying27, ho4.cel.z ag23 (j := 1) rfl]
  simp only [pop_some]
  rw [(hd.le hle').sl.len Tryz.underlying23]
  simp only [pop_some, cb_neq]
  cases hb1 : ((t.nl : Int) != (d.nl : Int)) with
  | true =>
    simp only [gb_bool, Bool.true_beq, dgs_false, dgo_false, gop_false, cpick_bool, if_true, pop_some, cnd_true]
    generalize hMV : memJ ML _ (fun _ => true) _ = MV
    have hV : ML.le MV := hMV ▸ ⟨Nat.le_refl _, fun _ _ => rfl⟩
    exact fin (hle'.trans hV) (ho8.le hV)
  | false =>
  have e1 : t.nl = d.nl := by have : (t.nl : Int) = (d.nl : Int) := by simpa using hb1
                              omega
  simp only [cnilc, fz101_0, fz97_1, gb_bool, beq_self_eq_true, dgs_true, cpick_bool, Bool.false_eq_true, if_false, pop_some]
  rw [l7b (.refl ML)]
  simp only [pop_some]
  rw [(ht' (.refl ML)).sb.len Tryz.underlying27, hoc.cel.z ag28 (j := 1) (v := e.k kx) (by rw [← hok.vb]; rfl)]
  simp only [pop_some]
  rw [((he.le hle').sk kx (by omega)).len Tryz.underlying28]
  simp only [pop_some, cb_neq]
  cases hb2 : ((t.nb : Int) != (e.kn kx : Int)) with
  | true =>
    simp only [gb_bool, Bool.true_beq, dgs_false, dgo_false, gop_false, cpick_bool, if_true, pop_some, cnd_true]
    generalize hMV : memJ ML _ (fun _ => true) _ = MV
    have hV : ML.le MV := hMV ▸ ⟨Nat.le_refl _, fun _ _ => rfl⟩
    exact fin (hle'.trans hV) (ho8.le hV)
  | false =>
  have e2 : t.nb = e.kn kx := by have : (t.nb : Int) = (e.kn kx : Int) := by simpa using hb2
                                 omega
  simp only [fz30_2, gb_bool, beq_self_eq_true, dgs_true, dgo_true, cpick_bool, Bool.false_eq_true, if_false, pop_some]
  rw [l7a (.refl ML)]
  simp only [pop_some]
  show callw Tryz.prog 55 ([] ++ [t.va] ++ [.pointer (some ⟨t11, 0, none⟩)]) ML _ _
  refine short55 (ht' (.refl ML)).sa o11 fun b3 e3 => ⟨.refl ML, ?_⟩
  cases b3 with
  | true =>
    simp only [gb_bool, Bool.true_beq, dgs_false, dgo_false, gop_false, cpick_bool, if_true, pop_some, cnd_true]
    generalize hMV : memJ ML _ (fun _ => true) _ = MV
    have hV : ML.le MV := hMV ▸ le_view (.refl ML) rfl fun y => get_over ..
    exact fin (hle'.trans hV) (ho8.le hV)
  | false =>
  replace e3 := e3 rfl
  simp only [fz30_0, gb_bool, beq_self_eq_true, dgs_true, dgo_true, cpick_bool, Bool.false_eq_true, if_false, pop_some]
  generalize hV1 : memJ ML _ (fun i => Nat.testBit 134217727 i) ML.next = V1
  have hL1 : ML.le V1 := hV1 ▸ le_view (.refl ML) rfl fun y => get_over ..
  rw [l7l hL1]
  simp only [pop_some]
  generalize hV2 : memJ ML _ (fun i => Nat.testBit 536870911 i) ML.next = V2
  have hL2 : ML.le V2 := hV2 ▸ le_view (.refl ML) rfl fun y => get_over ..
  refine has56 (ht' hL2).sl (ht' hL2).nl0 (ht' hL2).sll (o11.le hL2) fun m9 b4 hle9 e4 => ⟨hle9, ?_⟩
  have hle9' : ML.le m9 := hL2.trans hle9
  cases b4 with
  | true =>
    simp only [gb_bool, Bool.true_beq, dgs_false, dgo_false, gop_false, cpick_bool, if_true, pop_some, cnd_true]
    generalize hMV : memJ ML _ (fun _ => true) _ = MV
    have hV : m9.le MV := hMV ▸ le_view2 (.refl ML) hle9' rfl fun y => (get_over (ML.over ML.next (ML.next - ML.next) ML) ML.next (m9.next - ML.next) m9 y).trans (by rw [get_over])
    exact fin (hle'.trans (hle9'.trans hV)) (ho8.le (hle9'.trans hV))
  | false =>
  replace e4 := e4 rfl
  simp only [fz30_1, gb_bool, beq_self_eq_true, dgs_true, dgo_true, gop_true, cpick_bool, Bool.false_eq_true, if_false, pop_some]
  generalize hV3 : memJ ML _ (fun i => Nat.testBit 8589934591 i) m9.next = V3
  have hL3 : m9.le V3 := hV3 ▸ le_view2 (.refl ML) hle9' rfl fun y => (get_over (ML.over ML.next (ML.next - ML.next) ML) ML.next (m9.next - ML.next) m9 y).trans (by rw [get_over])
  rw [l7b (hle9'.trans hL3)]
  simp only [pop_some]
  generalize hV4 : memJ ML _ (fun _ => true) m9.next = V4
  have hL4 : m9.le V4 := hV4 ▸ le_view2 (.refl ML) hle9' rfl fun y => (get_over (ML.over ML.next (ML.next - ML.next) ML) ML.next (m9.next - ML.next) m9 y).trans (by rw [get_over])
  have hL4' := hle9'.trans hL4
  clear hV1 hV2 hV3 hV4
  refine has56 (ht' hL4').sb (ht' hL4').nb0 (ht' hL4').sbb (o11.le hL4') fun m10 b5 hle10 e5 => ?_
  have h10 := hL4'.trans hle10
  cases b5 with
  | true => rw [cnd_true]; exact fin (hle'.trans h10) (ho8.le h10)
  | false =>
  replace e5 := e5 rfl
  rw [cnd_false, ldi (o11.le h10) rfl, pop_some]
  have hmk : cmakeS Tryz.prog 28 (.int .i64 d.nt) (.int .i64 d.nt) m10 = some (.slice (some ⟨m10.next, 0, none⟩) d.nt 0, m10.alloc (.cells (zeros [.int .i64 0] d.nt) 1 true)) := by
    have : (bytesOf' Tryz.prog 3 : Int) * d.nt ≤ 2 ^ 48 := by rw [by3]; omega
    simp only [cmakeS, Tryz.underlying28, sz3, ze3]
    rw [if_pos ⟨rfl, by omega, by omega, by omega, this⟩]
    simp
  rw [hmk, vop_some]
  generalize hbM : m10.next = bM
  have hleA : m10.le (m10.alloc (.cells (zeros [.int .i64 0] d.nt) 1 true)) := ⟨by simp, fun y hy => by rw [CM.get_alloc, if_neg (by omega)]⟩
  have hoM : Own (m10.alloc (.cells (zeros [.int .i64 0] d.nt) 1 true)) bM (zeros [.int .i64 0] d.nt) 1 := ⟨by simp; omega, by rw [CM.get_alloc, if_pos hbM.symm]⟩
  have h10n := h10.1
  have hMLn := hleM.1
  have h5n := hle5.1
  refine store_own ((ho8.le h10).le hleA) (by simp [toL, sz28]) (by simp [toL]) rfl fun m11 hn11 hx11 ho8 => ?_
  simp only [toL] at ho8
  replace hoM : Own m11 bM (zeros [.int .i64 0] d.nt) 1 := ⟨by rw [hn11]; exact hoM.1, by rw [hx11 bM (by omega)]; exact hoM.2⟩
  refine alw_of ze4 fun t14 m12 hle12 hb14 ho14 => store_own ho14 (by simp [toL, sz4]) (by simp [toL]) rfl fun m13 hn13 hx13 ho14 => ?_
  simp only [toL] at ho14
  have hle13 : m11.le m13 := le_of_put hle12 hb14 hn13 hx13
  have hM14 : bM ≠ t14 := by have := hoM.1; omega
  have h814 : t8 ≠ t14 := by have := ho8.1; omega
  have h8M : t8 ≠ bM := by omega
  have hmad : Mad m13 t8 t14 bM d.nt (zeros [.int .i64 0] d.nt) false := ⟨ho8.le hle13, hoM.le hle13, ho14, by rw [zeros_length]; simp, fun u hu => by
    have : ∀ n, u ∈ zeros [.int .i64 0] n → u = .int .i64 0 := fun n => by
      induction n with
      | zero => intro h; simp [zeros] at h
      | succ n ih => intro h; simp only [zeros, List.mem_append, List.mem_singleton] at h; rcases h with h | h; exact h; exact ih h
    exact ⟨0, this _ hu⟩⟩
  have hkx : KeepX m2 t8 m13 := by
    refine ⟨?_, fun x hx hne => ?_⟩
    · have := hle13.1; simp only [CM.next_alloc] at hn11; omega
    · rw [hle13.2 x (by simp only [CM.next_alloc] at hn11; omega), hx11 x hne, hleA.2 x (by omega), h10.2 x (by omega), hleM.2 x (by omega), hle5.2 x hx]
  have hb2 : m2.next ≤ bM := by omega
  have h142 : m2.next ≤ t14 := by simp only [CM.next_alloc] at hn11; omega
  have h11M : t11 ≠ bM := by have := (o11.le h10).1; omega
  have h1114 : t11 ≠ t14 := by have := (o11.le h10).1; simp only [CM.next_alloc] at hn11; omega
  have h118 : t11 ≠ t8 := by have := hkx.1; have := (hM.keep (KeepX.refl m2 t8) h8l); omega
  have o11' : Own m13 t11 [.int .i64 d.nt] 0 := Own.le ⟨by have := ((o11.le h10).le hleA).1; omega, by rw [hx11 _ h118]; exact ((o11.le h10).le hleA).2⟩ hle13
  -- what is known of a memory in which all is kept but the two
  have B : ∀ {M : CM}, Keep2 m13 bM t14 M → m.le M ∧ Own M t4 d.cells 0 ∧ Own M t7 t.cells 0 ∧ Own M t11 [.int .i64 d.nt] 0 ∧ Own M cb (xs kx).cells 0 ∧ Melt d e m1 va bs xs M := fun {M} k => by
    have kx2 := hkx.keep2 k hb2 h142
    exact ⟨le_keepX hle kx2 h8m, Own.keepX o4m kx2 h48, Own.keepX o7m kx2 h78, Own.keep2 o11' k h11M h1114, Own.keepX hoc2 kx2 hc8, hM.keep kx2 h8l⟩
  have mad57 : ∀ {M : CM} {cs : List Value} {w : Bool} {vn vf : Value} {nx : Nat → Int} {row : Nat → List Value} {q : Int} {Kc : Value → CM → Prop} {Kp' : List PanicEntry → CM → Prop}, Keep2 m13 bM t14 M → Mad M t8 t14 bM d.nt cs w →
      (∀ M', Keep2 m13 bM t14 M' → Sl 1 M' vn d.nt (fun j => [.int .i64 (nx j)]) ∧ SlW 63 2 M' vf d.nt row) → (∀ i, i < d.nt → SpRow (row i)) → (∀ M' cs w, Keep2 m13 bM t14 M' → Mad M' t8 t14 bM d.nt cs w → Kc (.tuple ⟨[]⟩) M') →
      callv Tryz.prog (.func (Fn.func 57) ⟨[]⟩ ⟨[.pointer (some ⟨t8, 0, none⟩), .pointer (some ⟨t14, 0, none⟩)]⟩) [.int .i64 q, vn, vf] M Kc Kp' := fun {M cs w vn vf nx row q Kc Kp'} hk hmd hs hR hKc => by
    show callw Tryz.prog 57 ([] ++ [.int .i64 q, vn, vf] ++ [.pointer (some ⟨t8, 0, none⟩), .pointer (some ⟨t14, 0, none⟩)]) M _ _
    exact pour57 hmd ⟨h8M, h814⟩ hM14 hnt.2 (fun M' k => hs M' (hk.trans k)) hR fun M' cs w k h => hKc M' cs w (hk.trans k) h
  obtain ⟨q1, q2, q3, q4, q5, q6⟩ := B (.refl m13 bM t14)
  rw [q3.cel.z ag28 (j := 2) rfl]
  simp only [pop_some, fz97_2]
  rw [q5.cel.z ag63 (j := 2) (v := e.a kx) (by rw [← hok.va]; rfl)]
  simp only [pop_some]
  have hkn : kx < e.n := by omega
  refine mad57 (nx := t.ax) (row := e.ar kx) (.refl m13 bM t14) hmad (fun M' k => ⟨by rw [← e3]; exact (ht.le (B k).1).sa, by rw [← hok.an]; exact Sl.w ((he.le (B k).1).sa kx hkn) Tryz.underlying63 sz59⟩) (fun i hi => he.ar0 kx hkn i (by rw [hok.an]; exact hi)) fun m14 cs w k14 hm14 => ?_
  clear q1 q2 q3 q4 q5 q6 hmad
  obtain ⟨q1, q2, q3, q4, q5, q6⟩ := B k14
  rw [q3.cel.z ag27 (j := 0) rfl]
  simp only [pop_some]
  rw [(ht.le q1).sl.len Tryz.underlying27]
  simp only [pop_some]
  refine loopA_of (fun l0 ds m' => ds = [] ∧ ∃ (i : Nat) (cs : List Value) (w : Bool), i ≤ t.nl ∧ Keep2 m13 bM t14 m' ∧ Mad m' t8 t14 bM d.nt cs w ∧ l0 = [.pointer (some ⟨t4, 0, none⟩), .pointer (some ⟨t7, 0, none⟩), .pointer (some ⟨t8, 0, none⟩), .int .i64 0, va, .pointer (some ⟨t11, 0, none⟩), .pointer (some ⟨cb, 0, none⟩), .pointer (some ⟨t14, 0, none⟩), .func (Fn.func 57) ⟨[]⟩ ⟨[.pointer (some ⟨t8, 0, none⟩), .pointer (some ⟨t14, 0, none⟩)]⟩, t.vl, .int .i64 t.nl, .int .i64 i])
    (fun l _ => match l with | [_, _, _, _, _, _, _, _, _, _, _, .int _ i] => t.nl - i.toNat | _ => 0) ⟨rfl, 0, cs, w, by omega, k14, hm14, rfl⟩ ?_
  clear q1 q2 q3 q4 q5 q6 k14 hm14 cs w
  rintro X ρ ds m' ⟨rfl, i, cs, w, hi, hk, hmd, hll⟩ hX
  simp only [List.map_cons, List.map_nil, List.cons.injEq, and_true] at hll
  obtain ⟨p4, p7, p8, p9, p10, p11, p12, p14, p15, p95, p96, p97⟩ := hll
  simp only [p4, p7, p8, p9, p10, p11, p12, p14, p15, p95, p96, p97, cb_lss, pop_some]
  obtain ⟨q1, q2, q3, q4, q5, q6⟩ := B hk
  by_cases hci : i < t.nl
  · have hc' : decide ((i : Int) < (t.nl : Int)) = true := by simpa using hci
    obtain ⟨bx, ox, hia, hcel, hlen⟩ := (ht.le q1).sl.at Tryz.underlying27 sz28 (i := i) (by omega) (by omega)
    simp only [Int.toNat_natCast] at hcel hlen
    rw [hc', cnd_true, hia, pop_some, hcel.elv ag28 sz28 hlen (by decide), pop_some]
    simp only [fz101_0, fz97_0, pop_some]
    rw [q5.cel.z ag28 (j := 0) (v := e.g kx) (by rw [← hok.vg]; rfl)]
    simp only [pop_some]
    obtain ⟨by1, oy1, hia1, hcel1, hlen1⟩ := ((he.le q1).sg kx hkn).at Tryz.underlying28 sz3 (i := i) (by omega) (by rw [hok.gn]; omega)
    rw [hia1]
    simp only [pop_some]
    rw [hcel1.elv ag3 sz3 hlen1 (by decide)]
    simp only [pop_some, fz25_1]
    rw [q2.cel.z ag23 (j := 1) rfl]
    simp only [pop_some]
    obtain ⟨by2, oy2, hia2, hcel2, hlen2⟩ := (hd.le q1).sl.at Tryz.underlying23 sz85 (i := i) (by omega) (by omega)
    rw [hia2]
    simp only [pop_some, fa85_1]
    rw [hcel2.s ag63 (j := 1) rfl]
    simp only [pop_some, elv, List.headD, Int.toNat_natCast]
    have hlot := hM.d.lot i (by omega)
    refine mad57 (nx := t.lx i) (row := d.lr i) hk hmd (fun M' k => ⟨by rw [← e4 i hci]; exact (ht.le (B k).1).sll i hci, by rw [← hlot.1]; exact Sl.w ((hd.le (B k).1).sp i (by omega)) Tryz.underlying63 sz59⟩) (fun j hj => hd.lr0 i (by omega) j (by rw [hlot.1]; exact hj)) fun m15 cs' w' k15 hm15 => ?_
    rw [cb_add, pop_some, wrap_id (by have := ht.nl0; omega) (by have := ht.nl0; omega)]
    refine hX _ _ _ ⟨rfl, i + 1, cs', w', by omega, k15, hm15, by simp⟩ ?_
    simp only [List.map_cons, List.map_nil, p97]; omega
  · have hc' : decide ((i : Int) < (t.nl : Int)) = false := by simpa using hci
    rw [hc', cnd_false, fz30_1, pop_some, q3.cel.z ag27 (j := 1) rfl, pop_some, (ht.le q1).sb.len Tryz.underlying27, pop_some]
    clear hX hia p4 p7 p8 p9 p10 p11 p12 p14 p15 p95 p96 p97
    refine loopA_of (fun l0 ds m' => ds = [] ∧ ∃ (i : Nat) (cs : List Value) (w : Bool), i ≤ t.nb ∧ Keep2 m13 bM t14 m' ∧ Mad m' t8 t14 bM d.nt cs w ∧ l0 = [.pointer (some ⟨t8, 0, none⟩), .int .i64 0, va, .pointer (some ⟨t11, 0, none⟩), .pointer (some ⟨cb, 0, none⟩), .pointer (some ⟨t14, 0, none⟩), .func (Fn.func 57) ⟨[]⟩ ⟨[.pointer (some ⟨t8, 0, none⟩), .pointer (some ⟨t14, 0, none⟩)]⟩, t.vb, .int .i64 t.nb, .int .i64 i])
      (fun l _ => match l with | [_, _, _, _, _, _, _, _, _, .int _ i] => t.nb - i.toNat | _ => 0) ⟨rfl, 0, cs, w, by omega, hk, hmd, rfl⟩ ?_
    clear q1 q2 q3 q4 q5 q6 hk hmd cs w hc' hci hi
    rintro X ρ ds m' ⟨rfl, i, cs, w, hi, hk, hmd, hll⟩ hX
    simp only [List.map_cons, List.map_nil, List.cons.injEq, and_true] at hll
    obtain ⟨p8, p9, p10, p11, p12, p14, p15, p121, p122, p123⟩ := hll
    simp only [p8, p9, p10, p11, p12, p14, p15, p121, p122, p123, cb_lss, pop_some]
    obtain ⟨q1, q2, q3, q4, q5, q6⟩ := B hk
    by_cases hci : i < t.nb
    · have hc' : decide ((i : Int) < (t.nb : Int)) = true := by simpa using hci
      obtain ⟨bx, ox, hia, hcel, hlen⟩ := (ht.le q1).sb.at Tryz.underlying27 sz28 (i := i) (by omega) (by omega)
      simp only [Int.toNat_natCast] at hcel hlen
      rw [hc', cnd_true, hia, pop_some, hcel.elv ag28 sz28 hlen (by decide), pop_some]
      simp only [fz101_0, fz97_1, pop_some]
      rw [q5.cel.z ag28 (j := 1) (v := e.k kx) (by rw [← hok.vb]; rfl)]
      simp only [pop_some]
      obtain ⟨by1, oy1, hia1, hcel1, hlen1⟩ := ((he.le q1).sk kx hkn).at Tryz.underlying28 sz3 (i := i) (by omega) (by omega)
      rw [hia1]
      simp only [pop_some]
      rw [hcel1.elv ag3 sz3 hlen1 (by decide)]
      simp only [pop_some]
      have hkk := hok.kn
      have hib : i < bs.length := by omega
      obtain ⟨p2, hia2, hld2⟩ := q6.at2 hib
      rw [hia2]
      simp only [pop_some]
      rw [hld2 _ (.refl m')]
      simp only [pop_some, fz101_4]
      rw [ldi q4 rfl]
      simp only [pop_some]
      rw [cslice99 _ _ _ hnt.2]
      simp only [pop_some, elv, List.headD, Int.toNat_natCast]
      have hsz2 := (hM.ok i hib).sz
      refine mad57 (nx := t.bx i) (row := partRow (xs i)) hk hmd (fun M' k => ⟨by rw [← e5 i hci]; exact (ht.le (B k).1).sbb i hci, slW_parts hsz2 ((B k).2.2.2.2.2.own i bs[i] (List.getElem?_eq_getElem hib)) hnt.2⟩) (fun j hj => ⟨_, _, rfl⟩) fun m15 cs' w' k15 hm15 => ?_
      rw [cb_add, pop_some, wrap_id (by have := ht.nb0; omega) (by have := ht.nb0; omega)]
      refine hX _ _ _ ⟨rfl, i + 1, cs', w', by omega, k15, hm15, by simp⟩ ?_
      simp only [List.map_cons, List.map_nil, p123]; omega
    · have hc' : decide ((i : Int) < (t.nb : Int)) = false := by simpa using hci
      rw [hc', cnd_false, hmd.o14.cel.z ag4 (j := 0) rfl, pop_some]
      cases w with
      | true => rw [cnd_true]; exact fin q1 hmd.o8
      | false =>
        rw [cnd_false, hmd.o8.cel.z ag28 (j := 0) rfl, pop_some]
        refine store_own hmd.o8 (by simp [toL, sz28]) (by simp [toL]) rfl fun m16 hn16 hx16 ho16 => ?_
        simp only [toL] at ho16
        show pop (cload Tryz.prog 28 (.pointer (some ⟨t8, 0, none⟩)) m16) m16 _
        rw [ho16.cel.z ag28 (j := 0) rfl, pop_some]
        refine hK m16 _ 0 (le_of_put q1 h8m hn16 hx16) ⟨some bM, cs, d.nt, .blk ⟨by rw [hn16]; exact hmd.oM.1, by rw [hx16 bM h8M.symm]; exact hmd.oM.2⟩ (by rw [hmd.len]; omega), fun y hy => by cases hy; have := hle.1; omega, by omega, hmd.ints⟩
end Go.Proofs.YtclgfagkaklnnaaGreat.C
end

section
namespace Go.Proofs.YtclgfagkaklnnaaGreat
open Go
theorem Sl.congr {e n : Nat} {m : CM} {v : Value} {row row' : Nat → List Value} (h : Sl e m v n row) (hr : ∀ i, i < n → row i = row' i) : Sl e m v n row' := by
  rcases h with h | ⟨b, o, k, c, own, h1, h2, h3, h4⟩ | h
  · exact .inl h
  · exact .inr (.inl ⟨b, o, k, c, own, h1, h2, h3, fun i hi => by rw [← hr i hi]; exact h4 i hi⟩)
  · exact .inr (.inr h)
theorem chooseF {α β : Type} {r : α → β → Prop} (h : ∀ x, ∃ y, r x y) : ∃ f : α → β, ∀ x, r x (f x) := ⟨fun x => Classical.choose (h x), fun x => Classical.choose_spec (h x)⟩
theorem sumN_at {ks : Nat → Nat} {i n : Nat} (h : i < n) : ks i ≤ sumN ks n := by
  have := sumN_le (ks := ks) (i := i + 1) (n := n) h
  simp only [sumN] at this; omega
theorem sumN_bound {ks : Nat → Nat} {c : Nat} : ∀ {n : Nat}, (∀ i, i < n → ks i ≤ c) → sumN ks n ≤ n * c
  | 0, _ => by simp [sumN]
  | n + 1, h => by
    have h1 := sumN_bound (ks := ks) (n := n) fun i hi => h i (by omega)
    have h2 := h n (by omega)
    simp only [sumN, Nat.add_mul]; omega
theorem wtlI {F : Keep} {k : Nat} {l : List Value} {cs : List CT} (h : WTL F (.i :: cs) k l) : ∃ n k' l', l = .int .i64 n :: l' ∧ WTL F cs k' l' ∧ k' ≤ k := by
  cases h with
  | cons h t => cases h with
  | i x => exact ⟨x, _, _, rfl, t, by omega⟩
theorem wtlS {F : Keep} {k : Nat} {l : List Value} {cs : List CT} (h : WTL F (.s :: cs) k l) : ∃ n k' l', l = .string n :: l' ∧ WTL F cs k' l' ∧ k' ≤ k := by
  cases h with
  | cons h t => cases h with
  | s x => exact ⟨x, _, _, rfl, t, by omega⟩
theorem wtl0 {F : Keep} {k : Nat} {l : List Value} (h : WTL F [] k l) : l = [] := by cases h; rfl
/-- A slice ahead: its rows, each with a weight of at most k. -/
theorem wtlL {F : Keep} {k : Nat} {l : List Value} {cs tys : List CT} (h : WTL F (.sl tys :: cs) k l) : ∃ v n row, ∃ ks : Nat → Nat, ∃ k' l', l = v :: l' ∧ SlF F tys.length v n row ∧ n ≤ k ∧ (∀ i, i < n → WTL F tys (ks i) (row i) ∧ ks i ≤ k) ∧ WTL F cs k' l' ∧ k' ≤ k := by
  cases h with
  | cons h t => cases h with
  | @sl _ _ n row ks hs hp hr =>
    have h1 := sumN_ge (ks := ks) (n := n) fun i hi => Nat.le_trans hp (hr i hi).pos
    refine ⟨_, n, row, ks, _, _, rfl, hs, by omega, fun i hi => ⟨hr i hi, ?_⟩, t, by omega⟩
    have := sumN_at (ks := ks) hi
    omega
/-- A slice of numbers ahead. -/
theorem wtlLi {F : Keep} {k : Nat} {l : List Value} {cs : List CT} (h : WTL F (.sl [.i] :: cs) k l) : ∃ v n, ∃ x : Nat → Int, ∃ k' l', l = v :: l' ∧ SlF F 1 v n (fun j => [.int .i64 (x j)]) ∧ n ≤ k ∧ WTL F cs k' l' ∧ k' ≤ k := by
  obtain ⟨v, n, row, ks, k', l', h1, h2, h3, h4, h5, h6⟩ := wtlL h
  obtain ⟨x, hx⟩ := chooseF (r := fun (i : Nat) (u : Int) => i < n → row i = [.int .i64 u]) fun i => by
    by_cases hi : i < n
    · obtain ⟨u, _, _, e, t, _⟩ := wtlI (h4 i hi).1
      exact ⟨u, fun _ => by rw [e, wtl0 t]⟩
    · exact ⟨0, fun h => absurd h hi⟩
  exact ⟨v, n, x, k', l', h1, fun m hm => (h2 m hm).congr fun i hi => hx i hi, h3, h5, h6⟩
/-- A slice of slices of numbers ahead. -/
theorem wtlLLi {F : Keep} {k : Nat} {l : List Value} {cs : List CT} (h : WTL F (.sl [.sl [.i]] :: cs) k l) : ∃ v n, ∃ vs : Nat → Value, ∃ ns : Nat → Nat, ∃ x : Nat → Nat → Int, ∃ k' l', l = v :: l' ∧ SlF F 1 v n (fun i => [vs i]) ∧ n ≤ k ∧ (∀ i, i < n → SlF F 1 (vs i) (ns i) (fun j => [.int .i64 (x i j)]) ∧ ns i ≤ k) ∧ WTL F cs k' l' ∧ k' ≤ k := by
  obtain ⟨v, n, row, ks, k', l', h1, h2, h3, h4, h5, h6⟩ := wtlL h
  obtain ⟨q, hq⟩ := chooseF (r := fun (i : Nat) (u : Value × Nat × (Nat → Int)) => i < n → row i = [u.1] ∧ SlF F 1 u.1 u.2.1 (fun j => [.int .i64 (u.2.2 j)]) ∧ u.2.1 ≤ k) fun i => by
    by_cases hi : i < n
    · obtain ⟨v', n', x, _, _, e, s, b, t, _⟩ := wtlLi (h4 i hi).1
      exact ⟨⟨v', n', x⟩, fun _ => ⟨by rw [e, wtl0 t], s, Nat.le_trans b (h4 i hi).2⟩⟩
    · exact ⟨⟨undef, 0, fun _ => 0⟩, fun h => absurd h hi⟩
  exact ⟨v, n, fun i => (q i).1, fun i => (q i).2.1, fun i => (q i).2.2, k', l', h1, fun m hm => (h2 m hm).congr fun i hi => (hq i hi).1, h3, fun i hi => ⟨(hq i hi).2.1, (hq i hi).2.2⟩, h5, h6⟩
section
variable {P : Program} {I T : TypeId}
/-- One after the other, by pointers. -/
theorem each_ok {g : FuncId} (c1 : ∀ {a0 a1 : Value} {m : CM} {K : Value → CM → Prop} {Kp : List PanicEntry → CM → Prop}, sEach P I T (RK K Kp) a0 a1 m → callw P g [a0, a1] m K Kp)
    {v f : Value} {n : Nat} {p : Nat → Value} {m : CM} {Inv : CM → Prop} (hn : n < 4611686018427387904) (hlen : ∀ m', clen P T v m' = some (.int .i64 n)) (hcia : ∀ i : Nat, i < n → cia P T v (.int .i64 i) = some (p i))
    (hf : ∀ (i : Nat) (m' : CM) (K : Value → CM → Prop) (Kp : List PanicEntry → CM → Prop), i < n → Inv m' → (∀ m2, Inv m2 → K (.tuple ⟨[]⟩) m2) → callv P f [p i] m' K Kp)
    (h0 : Inv m) {K : Value → CM → Prop} {Kp : List PanicEntry → CM → Prop} (hK : ∀ m', Inv m' → K (.tuple ⟨[]⟩) m') : callw P g [v, f] m K Kp := by
  refine c1 ?_
  unfold sEach
  refine loopA_of (fun l ds m' => ds = [] ∧ ∃ i : Nat, i ≤ n ∧ Inv m' ∧ l = [v, f, .int .i64 i])
    (fun l _ => match l with | [_, _, .int _ i] => n - i.toNat | _ => 0) ⟨rfl, 0, by omega, h0, rfl⟩ ?_
  rintro X ρ ds m' ⟨rfl, i, hi, hI, hl⟩ hX
  simp only [List.map_cons, List.map_nil, List.cons.injEq, and_true] at hl
  obtain ⟨q0, q1, q4⟩ := hl
  simp only [q0, q1, q4, hlen, pop_some, cb_lss]
  by_cases hc : i < n
  · have hc' : decide ((i : Int) < (n : Int)) = true := by simpa using hc
    rw [hc', cnd_true, hcia i hc, pop_some]
    refine hf i m' _ _ hc hI fun m2 h2 => ?_
    rw [cb_add, pop_some, wrap_id (by omega) (by omega)]
    refine hX _ _ _ ⟨rfl, i + 1, by omega, h2, by simp⟩ ?_
    simp only [List.map_cons, List.map_nil, q4]; omega
  · have hc' : decide ((i : Int) < (n : Int)) = false := by simpa using hc
    rw [hc', cnd_false, leave0, RK_ret]
    exact hK _ hI
end
end Go.Proofs.YtclgfagkaklnnaaGreat
end

section
open Go Go.Proofs Go.Proofs.YtclgfagkaklnnaaGreat
set_option maxRecDepth 100000
namespace Go.Proofs.YtclgfagkaklnnaaGreat.C
/-! ### What the law is given -/
abbrev tysC : List CT := [.sl [.s, .i, .i, .i, .i], .sl [.s, .sl [.i, .i]], .sl [.sl [.i], .sl [.i], .sl [.i, .i]], .sl [.sl [.i]], .sl [.sl [.i]], .sl [.i], .i, .i, .i, .i]
structure ArgD where
  d : ShopD
  e : BatsD
  t : TruD
  b : Int
  l : Int
  y : Int
  s : Int
abbrev ArgD.cells (x : ArgD) : List Value := x.d.cells ++ ([x.e.v] ++ (x.t.cells ++ [.int .i64 x.b, .int .i64 x.l, .int .i64 x.y, .int .i64 x.s]))
theorem sp2 {F : Keep} {k : Nat} {l : List Value} (h : WTL F [.i, .i] k l) : SpRow l := by
  obtain ⟨a, _, _, rfl, h, _⟩ := wtlI h
  obtain ⟨b, _, _, rfl, h, _⟩ := wtlI h
  rw [wtl0 h]
  exact ⟨a, b, rfl⟩
theorem th5 {F : Keep} {k : Nat} {l : List Value} (h : WTL F [.s, .i, .i, .i, .i] k l) : ThRow l := by
  obtain ⟨s, _, _, rfl, h, _⟩ := wtlS h
  obtain ⟨a, _, _, rfl, h, _⟩ := wtlI h
  obtain ⟨b, _, _, rfl, h, _⟩ := wtlI h
  obtain ⟨c, _, _, rfl, h, _⟩ := wtlI h
  obtain ⟨d, _, _, rfl, h, _⟩ := wtlI h
  rw [wtl0 h]
  exact ⟨s, a, b, c, d, rfl⟩
theorem lim62 : lim < 4611686018427387904 := by decide
theorem argOf {F : Keep} {k : Nat} {l : List Value} (h : WTL F tysC k l) (hk : k ≤ lim) : ∃ x : ArgD, l = x.cells ∧ ∀ m, FW F m → x.d.In m ∧ x.e.In m ∧ x.t.In m := by
  have hl := lim62
  obtain ⟨vt, nt, rt, kt, k1, _, rfl, st, bt, ht, h1, b1⟩ := wtlL h
  obtain ⟨vl, nl, rl, kl, k2, _, rfl, sl, bl, hl', h2, b2⟩ := wtlL h1
  obtain ⟨ve, ne, re, ke, k3, _, rfl, se, be, he, h3, b3⟩ := wtlL h2
  obtain ⟨va, na, av, an, ax, k4, _, rfl, sa, ba, ha, h4, b4⟩ := wtlLLi h3
  obtain ⟨vb, nb, bv, bn, bx, k5, _, rfl, sb, bb, hb, h5, b5⟩ := wtlLLi h4
  obtain ⟨vc, nc, cx, k6, _, rfl, sc, bc, h6, b6⟩ := wtlLi h5
  obtain ⟨i1, _, _, rfl, h7, _⟩ := wtlI h6
  obtain ⟨i2, _, _, rfl, h8, _⟩ := wtlI h7
  obtain ⟨i3, _, _, rfl, h9, _⟩ := wtlI h8
  obtain ⟨i4, _, _, rfl, h10, _⟩ := wtlI h9
  rw [wtl0 h10]
  obtain ⟨q, hq⟩ := chooseF (r := fun (i : Nat) (u : ByteArray × Value × Nat × (Nat → List Value)) => i < nl → rl i = [.string u.1, u.2.1] ∧ SlF F 2 u.2.1 u.2.2.1 u.2.2.2 ∧ u.2.2.1 < 4611686018427387904 ∧ ∀ j, j < u.2.2.1 → SpRow (u.2.2.2 j)) fun i => by
    by_cases hi : i < nl
    · obtain ⟨s, _, _, e, g, _⟩ := wtlS (hl' i hi).1
      obtain ⟨v', n', r', ks', _, _, e', s', b', h', g', _⟩ := wtlL g
      have := (hl' i hi).2
      exact ⟨⟨s, v', n', r'⟩, fun _ => ⟨by rw [e, e', wtl0 g'], s', by show n' < _; omega, fun j hj => sp2 (h' j hj).1⟩⟩
    · exact ⟨⟨⟨#[]⟩, undef, 0, fun _ => []⟩, fun h => absurd h hi⟩
  obtain ⟨p, hp⟩ := chooseF (r := fun (i : Nat) (u : Value × Nat × (Nat → Int) × Value × Nat × (Nat → Int) × Value × Nat × (Nat → List Value)) => i < ne → re i = [u.1, u.2.2.2.1, u.2.2.2.2.2.2.1] ∧ (SlF F 1 u.1 u.2.1 (fun j => [.int .i64 (u.2.2.1 j)]) ∧ u.2.1 < 4611686018427387904) ∧ (SlF F 1 u.2.2.2.1 u.2.2.2.2.1 (fun j => [.int .i64 (u.2.2.2.2.2.1 j)]) ∧ u.2.2.2.2.1 < 4611686018427387904) ∧ SlF F 2 u.2.2.2.2.2.2.1 u.2.2.2.2.2.2.2.1 u.2.2.2.2.2.2.2.2 ∧ u.2.2.2.2.2.2.2.1 < 4611686018427387904 ∧ ∀ j, j < u.2.2.2.2.2.2.2.1 → SpRow (u.2.2.2.2.2.2.2.2 j)) fun i => by
    by_cases hi : i < ne
    · have hki := (he i hi).2
      obtain ⟨v1, n1, x1, _, _, e1, s1, b1, g1, _⟩ := wtlLi (he i hi).1
      obtain ⟨v2, n2, x2, _, _, e2, s2, b2, g2, _⟩ := wtlLi g1
      obtain ⟨v3, n3, r3, ks3, _, _, e3, s3, b3, h3, g3, _⟩ := wtlL g2
      exact ⟨⟨v1, n1, x1, v2, n2, x2, v3, n3, r3⟩, fun _ => ⟨by rw [e1, e2, e3, wtl0 g3], ⟨s1, by show n1 < _; omega⟩, ⟨s2, by show n2 < _; omega⟩, s3, by show n3 < _; omega, fun j hj => sp2 (h3 j hj).1⟩⟩
    · exact ⟨⟨undef, 0, fun _ => 0, undef, 0, fun _ => 0, undef, 0, fun _ => []⟩, fun h => absurd h hi⟩
  refine ⟨⟨⟨vt, nt, rt, vl, nl, fun i => (q i).1, fun i => (q i).2.1, fun i => (q i).2.2.1, fun i => (q i).2.2.2⟩,
    ⟨ve, ne, fun i => (p i).1, fun i => (p i).2.1, fun i => (p i).2.2.1, fun i => (p i).2.2.2.1, fun i => (p i).2.2.2.2.1, fun i => (p i).2.2.2.2.2.1, fun i => (p i).2.2.2.2.2.2.1, fun i => (p i).2.2.2.2.2.2.2.1, fun i => (p i).2.2.2.2.2.2.2.2⟩,
    ⟨va, na, av, an, ax, vb, nb, bv, bn, bx, vc, nc, cx⟩, i1, i2, i3, i4⟩, rfl, fun m hm => ⟨⟨st m hm, (sl m hm).congr fun i hi => (hq i hi).1, fun i hi => (hq i hi).2.1 m hm, fun i hi => th5 (ht i hi).1, fun i hi => (hq i hi).2.2.2, by show nt < _; omega, by show nl < _; omega, fun i hi => (hq i hi).2.2.1⟩,
      ⟨(se m hm).congr fun i hi => (hp i hi).1, fun i hi => (hp i hi).2.1.1 m hm, fun i hi => (hp i hi).2.2.1.1 m hm, fun i hi => (hp i hi).2.2.2.1 m hm, fun i hi => (hp i hi).2.2.2.2.2, by show ne < _; omega, fun i hi => (hp i hi).2.1.2, fun i hi => (hp i hi).2.2.1.2, fun i hi => (hp i hi).2.2.2.2.1⟩,
      ⟨sa m hm, fun i hi => (ha i hi).1 m hm, sb m hm, fun i hi => (hb i hi).1 m hm, sc m hm, by show na < _; omega, by show nb < _; omega⟩⟩⟩
theorem la25 {x : ArgD} {t : Nat} {m : CM} (h : Own m t x.cells 0) : cload Tryz.prog 25 (.pointer (some ⟨t, 0, none⟩)) m = some (.agg ⟨x.d.cells⟩) := h.cel.za ag25 sz25 (j := 0) (by simp [ShopD.cells])
theorem la26 {x : ArgD} {t : Nat} {m : CM} (h : Own m t x.cells 0) : cload Tryz.prog 26 (.pointer (some ⟨t, 2, none⟩)) m = some x.e.v := h.cel.z ag26 rfl
theorem la30 {x : ArgD} {t : Nat} {m : CM} (h : Own m t x.cells 0) : cload Tryz.prog 30 (.pointer (some ⟨t, 3, none⟩)) m = some (.agg ⟨x.t.cells⟩) := h.cel.za ag30 sz30 (j := 3) (by simp [ShopD.cells, TruD.cells])
end Go.Proofs.YtclgfagkaklnnaaGreat.C
end

section
open Go Go.Proofs Go.Proofs.YtclgfagkaklnnaaGreat
set_option maxRecDepth 100000
namespace Go.Proofs.YtclgfagkaklnnaaGreat.C
section
variable {F : Keep} {h B : Nat} {m : CM} {K : Value → CM → Prop} {Kp : List PanicEntry → CM → Prop}
theorem p8 {n : Int} (hp : Hp F h B m) (hB : B + 1 ≤ lim) (hK : ∀ u m', Hp F h (B + 1) m' → K u m') : callw Tryz.prog 8 [.pointer (some ⟨h, 0, none⟩), .int .i64 n] m K Kp :=
  put8 F h B m [.int .i64 n] 1 K Kp hp (.cons (.i n) .nil) hB hK
theorem p9 {n : Int} (hp : Hp F h B m) (hB : B + 1 ≤ lim) (hK : ∀ u m', Hp F h (B + 1) m' → K u m') : callw Tryz.prog 9 [.pointer (some ⟨h, 0, none⟩), .int .i64 n] m K Kp :=
  put9 F h B m [.int .i64 n] 1 K Kp hp (.cons (.i n) .nil) hB hK
theorem p28 {a b : Int} (hp : Hp F h B m) (hB : B + 2 ≤ lim) (hK : ∀ u m', Hp F h (B + 2) m' → K u m') : callw Tryz.prog 28 [.pointer (some ⟨h, 0, none⟩), .agg ⟨[.int .i64 a, .int .i64 b]⟩] m K Kp :=
  put28 F h B m [.int .i64 a, .int .i64 b] 2 K Kp hp (.cons (.i a) (.cons (.i b) .nil)) hB hK
end
theorem wipe10 (M : CM) (K : Value → CM → Prop) (Kp : List PanicEntry → CM → Prop) (h : K (.tuple ⟨[]⟩) M) : callw Tryz.prog 10 [] M K Kp := c10 (by unfold s10; rw [leave0, RK_ret]; exact h)
theorem own_fw {m m' : CM} {h b e : Nat} {l : List Value} (ho : Own m b l e) (hb : b ≠ h) (hf : FW (keepBut m h) m') : Own m' b l e := by
  obtain ⟨h1, h2⟩ := hf _ _ (keepBut_get ho.1 hb)
  exact ⟨h1, by rw [h2]; exact ho.2⟩
theorem lm : (1000 : Nat) ≤ lim := by decide
/-- A closure that gives a slice, and its own that writes over it. -/
theorem clo_slice {T PUT g : Nat} {tv : CT} (ze : zeroL Tryz.prog T = some [.slice none 0 0]) (sz : szOf Tryz.prog T = some 1) (ag : aggB Tryz.prog T = some false) (hput : PutOk Tryz.prog PUT [tv] false)
    {m0 m1 : CM} {h k : Nat} {v : Value} {e : Int} {W : Nat → Prop} (hoh : Own m0 h [.slice none 0 0, .slice none 0 0] 0) (hle1 : m0.le m1) (h1v : toL v = [v] ∧ (toL v).all one = true)
    (hwt : ∀ m3, m1.le m3 → WT (keepBut m3 h) tv k v) (hk : k + 1 ≤ lim) (hW : ∀ x, W x → m0.next ≤ x ∧ x < m1.next)
    (hwipe : ∀ (t : Nat) (M : CM), Own M t [v] 0 → ¬ W t → (∀ x c e o, m0.next ≤ x → x < m1.next → m1.get x = some (.cells c e o) → M.get x = some (.cells c e o)) → m1.next ≤ M.next →
      ∀ (K : Value → CM → Prop) (Kp : List PanicEntry → CM → Prop), (∀ m', m'.next = M.next → (∀ x, ¬ W x → m'.get x = M.get x) → K (.tuple ⟨[]⟩) m') → callw Tryz.prog g [.pointer (some ⟨t, 0, none⟩)] M K Kp)
    {Kp1 Kp2 : List PanicEntry → CM → Prop} :
    alw Tryz.prog T m1 (fun t4 m => sop (cstore Tryz.prog T t4 v m) (fun _ m => pop (cload Tryz.prog T t4 m) m (fun t17 m => callw Tryz.prog PUT [.pointer (some ⟨h, 0, none⟩), t17] m (fun _ m => callw Tryz.prog 9 [.pointer (some ⟨h, 0, none⟩), .int .i64 e] m (fun _ m => leaveV Tryz.prog [.v (.func (Fn.func g) ⟨[]⟩ ⟨[t4]⟩)] [] .ret m (RK (CloPost Tryz.prog m0 h) (fun _ _ => False))) Kp1) Kp2))) := by
  obtain ⟨e1, e2⟩ := h1v
  have hhm := hoh.1
  have h1n := hle1.1
  refine alw_of ze fun b4 m2 hle2 hb4 ho4 => store_own ho4 (by simp [e1, sz]) (by simp [e1]) e2 fun m3 hn3 hx3 ho3 => ?_
  rw [e1] at ho3
  have h4h : b4 ≠ h := by omega
  have hle13 : m1.le m3 := le_of_put hle2 hb4 hn3 hx3
  have hle3 : m0.le m3 := hle1.trans hle13
  rw [ho3.cel.z ag rfl, pop_some]
  refine hput (keepBut m3 h) h 0 m3 [v] k _ _ (hp_but (hoh.le hle3)) (.cons (k' := 0) (hwt m3 hle13) .nil) (by omega) fun _ m4 hp => p9 hp (by omega) fun _ m5 hp => ?_
  rw [leave1, RK_ret]
  have h13n := hle13.1
  refine clo_of hoh.1 (fun x hx hne => by rw [keepBut_get (Nat.lt_of_lt_of_le hx hle3.1) hne, hle3.2 x hx]) hp (by omega) (W := W) (fun x hx => ⟨(hW x hx).1, _, keepBut_get (by have := (hW x hx).2; omega) (by have := (hW x hx).1; omega)⟩) rfl fun M hM hc => ?_
  have o5 := own_fw ho3 h4h hp.fw
  have oM : Own M b4 [v] 0 := ⟨by have := o5.1; omega, hc _ _ _ _ (by omega) o5.1 o5.2⟩
  have hkeep : ∀ x, x < m1.next → x ≠ h → m5.get x = m1.get x ∧ x < m5.next := fun x hx hne => by
    obtain ⟨g1, g2⟩ := hp.fw _ _ (keepBut_get (m := m3) (h := h) (x := x) (by omega) hne)
    exact ⟨by rw [g2, hle13.2 x hx], g1⟩
  refine hwipe b4 M oM (fun hw => by have := (hW b4 hw).2; omega) (fun x c e o q1 q2 q3 => ?_) ?_ _ _ fun m' q1 q2 => ⟨by omega, fun x _ hx => q2 x hx⟩
  · obtain ⟨g1, g2⟩ := hkeep x q2 (by omega)
    exact hc x c e o q1 g2 (by rw [g1]; exact q3)
  · by_cases hz : m1.next = 0
    · omega
    · by_cases hz2 : m1.next - 1 = h
      · have := o5.1; omega
      · have := (hkeep (m1.next - 1) (by omega) hz2).2; omega
theorem set60 {M : CM} {b o e : Nat} {c : List Value} (ho : Own M b c e) (hb : o < c.length) {K : Value → CM → Prop} {Kp : List PanicEntry → CM → Prop} (hK : ∀ m' c', m'.next = M.next → (∀ x, x ≠ b → m'.get x = M.get x) → Own m' b c' e → c'.length = c.length → K (.tuple ⟨[]⟩) m') :
    callw Tryz.prog 60 [.pointer (some ⟨b, o, none⟩)] M K Kp := by
  apply c60
  unfold s60
  simp only [cnilc, pop_some]
  refine ho.store (by simp [toL, sz3]) (by simp [toL]; omega) rfl fun m2 hn2 hx2 ho2 => ?_
  rw [leave0, RK_ret]
  exact hK _ _ hn2 hx2 ho2 (splice_at hb _)
theorem span65 {M : CM} {b o e : Nat} {c : List Value} (ho : Own M b c e) (hb : o + 1 < c.length) {K : Value → CM → Prop} {Kp : List PanicEntry → CM → Prop} (hK : ∀ m' c', m'.next = M.next → (∀ x, x ≠ b → m'.get x = M.get x) → Own m' b c' e → c'.length = c.length → K (.tuple ⟨[]⟩) m') :
    callw Tryz.prog 65 [.pointer (some ⟨b, o, none⟩)] M K Kp := by
  apply c65
  unfold s65
  simp only [cnilc, pop_some, fa59_0, fa59_1]
  refine set60 ho (by omega) fun m2 c2 hn2 hx2 ho2 hl2 => set60 ho2 (by omega) fun m3 c3 hn3 hx3 ho3 hl3 => ?_
  rw [leave0, RK_ret]
  exact hK _ _ (by omega) (fun x hx => by rw [hx3 x hx, hx2 x hx]) ho3 (by omega)
theorem spans64 {M : CM} {b n : Nat} {c : List Value} (ho : Own M b c 2) (hl : c.length = n * 2) (hn : n ≤ 100) {K : Value → CM → Prop} {Kp : List PanicEntry → CM → Prop} (hK : ∀ m' c', m'.next = M.next → (∀ x, x ≠ b → m'.get x = M.get x) → Own m' b c' 2 → c'.length = n * 2 → K (.tuple ⟨[]⟩) m') :
    callw Tryz.prog 64 [.slice (some ⟨b, 0, none⟩) n 0, .func (.func 65) ⟨[]⟩ ⟨[]⟩] M K Kp := by
  refine each_ok (T := 63) (I := 3) (fun h => c64 h) (n := n) (p := fun i => .pointer (some ⟨b, i * 2, none⟩)) (Inv := fun m' => m'.next = M.next ∧ (∀ x, x ≠ b → m'.get x = M.get x) ∧ ∃ c', Own m' b c' 2 ∧ c'.length = n * 2) (by omega) (fun m' => by simp [clen, Tryz.underlying63, goInt]) (fun i hi => by simp [cia, Tryz.underlying63, sz59, hi])
    (fun i m' K Kp hi hI hk => ?_) ⟨rfl, fun _ _ => rfl, c, ho, hl⟩ fun m' ⟨h1, h2, c', h3, h4⟩ => hK m' c' h1 h2 h3 h4
  obtain ⟨h1, h2, c', h3, h4⟩ := hI
  show callw Tryz.prog 65 ([] ++ [.pointer (some ⟨b, i * 2, none⟩)] ++ []) m' _ _
  exact span65 h3 (by omega) fun m2 c2 q1 q2 q3 q4 => hk m2 ⟨by omega, fun x hx => by rw [q2 x hx, h2 x hx], c2, q3, by omega⟩
theorem spans64n {M : CM} {K : Value → CM → Prop} {Kp : List PanicEntry → CM → Prop} (hK : K (.tuple ⟨[]⟩) M) : callw Tryz.prog 64 [.slice none 0 0, .func (.func 65) ⟨[]⟩ ⟨[]⟩] M K Kp :=
  each_ok (T := 63) (I := 3) (fun h => c64 h) (n := 0) (p := fun _ => undef) (Inv := fun m' => m' = M) (by omega) (fun m' => by simp [clen, Tryz.underlying63, goInt]) (fun i hi => by omega) (fun i m' K Kp hi => by omega) rfl fun m' h => by subst h; exact hK
/-- wipeSpans. -/
theorem wipe33 {M : CM} {t n : Nat} {v : Value} {bn : Option Nat} {c : List Value} {o : Nat} (hld : cload Tryz.prog 63 (.pointer (some ⟨t, o, none⟩)) M = some v) (hv : HVe 2 M v bn c n) (hn : n ≤ 100) {K : Value → CM → Prop} {Kp : List PanicEntry → CM → Prop}
    (hK : ∀ m' c', m'.next = M.next → (∀ x, bn ≠ some x → m'.get x = M.get x) → HVe 2 m' v bn c' n → K (.tuple ⟨[]⟩) m') : callw Tryz.prog 33 [.pointer (some ⟨t, o, none⟩)] M K Kp := by
  apply c33
  unfold s33
  simp only [cnilc, pop_some]
  rw [hld, pop_some]
  cases hv with
  | nil =>
    refine spans64n ?_
    rw [leave0, RK_ret]
    exact hK M [] rfl (fun _ _ => rfl) .nil
  | blk ho hl =>
    refine spans64 ho hl hn fun m2 c2 q1 q2 q3 q4 => ?_
    rw [leave0, RK_ret]
    exact hK m2 c2 q1 (fun x hx => q2 x fun e => hx (by rw [e])) (.blk q3 q4)
end Go.Proofs.YtclgfagkaklnnaaGreat.C
end

section
open Go Go.Proofs Go.Proofs.YtclgfagkaklnnaaGreat
set_option maxRecDepth 100000
namespace Go.Proofs.YtclgfagkaklnnaaGreat.C
theorem row_int {e : Nat} {c : List Value} {i : Nat} (h : ∀ u ∈ c, ∃ k, u = .int .i64 k) : ∀ u ∈ rowE e c i, ∃ k, u = .int .i64 k := fun u hu => h u (List.mem_of_mem_drop (List.mem_of_mem_take hu))
theorem wtl1 {F : Keep} {l : List Value} (hl : l.length = 1) (h : ∀ u ∈ l, ∃ k, u = .int .i64 k) : WTL F [.i] 1 l := by
  match l, hl with
  | [a], _ =>
    obtain ⟨x, rfl⟩ := h a (by simp)
    exact .cons (k := 1) (k' := 0) (.i x) .nil
theorem wtl2 {F : Keep} {l : List Value} (hl : l.length = 2) (h : ∀ u ∈ l, ∃ k, u = .int .i64 k) : WTL F [.i, .i] 2 l := by
  match l, hl with
  | [a, b], _ =>
    obtain ⟨x, rfl⟩ := h a (by simp)
    obtain ⟨y, rfl⟩ := h b (by simp)
    exact .cons (k := 1) (k' := 1) (.i x) (.cons (k := 1) (k' := 0) (.i y) .nil)
theorem HVe.wt1 {m : CM} {h n : Nat} {v : Value} {bn : Option Nat} {c : List Value} (hv : HVe 1 m v bn c n) (hb : ∀ y, bn = some y → y ≠ h) (hi : ∀ u ∈ c, ∃ k, u = .int .i64 k) : WT (keepBut m h) (.sl [.i]) (1 + sumN (fun _ => 1) n) v :=
  hv.wt hb rfl (by decide) fun i hin => wtl1 (rowE_len hv.len hin) (row_int hi)
theorem HVe.wt2 {m : CM} {h n : Nat} {v : Value} {bn : Option Nat} {c : List Value} (hv : HVe 2 m v bn c n) (hb : ∀ y, bn = some y → y ≠ h) (hi : ∀ u ∈ c, ∃ k, u = .int .i64 k) : WT (keepBut m h) (.sl [.i, .i]) (1 + sumN (fun _ => 2) n) v :=
  hv.wt hb rfl (by decide) fun i hin => wtl2 (rowE_len hv.len hin) (row_int hi)
theorem HVe.to {e n m0 : Nat} {m1 M : CM} {v : Value} {bn : Option Nat} {c : List Value} (hv : HVe e m1 v bn c n) (hb : ∀ y, bn = some y → m0 ≤ y) (hc : ∀ x c e o, m0 ≤ x → x < m1.next → m1.get x = some (.cells c e o) → M.get x = some (.cells c e o)) (hn : m1.next ≤ M.next) : HVe e M v bn c n := by
  cases hv with
  | nil => exact .nil
  | blk ho hl => exact .blk ⟨Nat.lt_of_lt_of_le ho.1 hn, hc _ _ _ _ (hb _ rfl) ho.1 ho.2⟩ hl
theorem wipe20 {t : Nat} {v : Value} {bn : Option Nat} {cs : List Value} {m : CM} (ho : Own m t [v] 0) (hv : HV m v bn cs) (hlen : cs.length ≤ lim) {K : Value → CM → Prop} {Kp : List PanicEntry → CM → Prop} (hK : ∀ m', m'.next = m.next → (∀ x, bn ≠ some x → m'.get x = m.get x) → K (.tuple ⟨[]⟩) m') : callw Tryz.prog 20 [.pointer (some ⟨t, 0, none⟩)] m K Kp := by
  apply c20
  exact wipes_ok Tryz.underlying28 sz3 ag28 (fun h => c59 h) (fun h => c60 h) ho hv hlen (K := RK K Kp) fun m' h1 h2 => by rw [RK_ret]; exact hK m' h1 h2
section
variable {m0 m1 : CM} {h g : Nat} {v : Value} {e : Int} {Kp1 Kp2 : List PanicEntry → CM → Prop}
theorem clo16' (hoh : Own m0 h [.slice none 0 0, .slice none 0 0] 0) (hle1 : m0.le m1) (hv : ResV 1 m0 m1 v)
    (hg : ∀ (t : Nat) (M : CM) (K : Value → CM → Prop) (Kp : List PanicEntry → CM → Prop), (∀ {K' : Value → CM → Prop} {Kp' : List PanicEntry → CM → Prop}, (∀ m', K (.tuple ⟨[]⟩) m' → K' (.tuple ⟨[]⟩) m') → callw Tryz.prog 20 [.pointer (some ⟨t, 0, none⟩)] M K' Kp') → callw Tryz.prog g [.pointer (some ⟨t, 0, none⟩)] M K Kp) :
    alw Tryz.prog 28 m1 (fun t4 m => sop (cstore Tryz.prog 28 t4 v m) (fun _ m => pop (cload Tryz.prog 28 t4 m) m (fun t17 m => callw Tryz.prog 18 [.pointer (some ⟨h, 0, none⟩), t17] m (fun _ m => callw Tryz.prog 9 [.pointer (some ⟨h, 0, none⟩), .int .i64 e] m (fun _ m => leaveV Tryz.prog [.v (.func (Fn.func g) ⟨[]⟩ ⟨[t4]⟩)] [] .ret m (RK (CloPost Tryz.prog m0 h) (fun _ _ => False))) Kp1) Kp2))) := by
  obtain ⟨bn, cs, n, hv, hb, hn6, hi⟩ := hv
  have hhm := hoh.1
  have hl := lm
  refine clo_slice (W := fun x => bn = some x) (k := 1 + sumN (fun _ => 1) n) ze28 sz28 ag28 put18 hoh hle1 hv.toL1 (fun m3 hle3 => HVe.wt1 (hv.le hle3) (fun y hy => by have := hb y hy; omega) hi) (by rw [sumN_one]; omega) (fun x hx => ⟨hb x hx, hv.lt hx⟩) fun t M ho hw hc hn K Kp hK => ?_
  refine hg t M K Kp fun {K' Kp'} hKK => ?_
  have hv' := HVe.to hv hb hc hn
  refine wipe20 ho hv'.hv (by have := hv'.len; omega) fun m' q1 q2 => hKK m' (hK m' q1 q2)
theorem clo29' (hoh : Own m0 h [.slice none 0 0, .slice none 0 0] 0) (hle1 : m0.le m1) (hv : ResV 2 m0 m1 v) :
    alw Tryz.prog 63 m1 (fun t4 m => sop (cstore Tryz.prog 63 t4 v m) (fun _ m => pop (cload Tryz.prog 63 t4 m) m (fun t17 m => callw Tryz.prog 31 [.pointer (some ⟨h, 0, none⟩), t17] m (fun _ m => callw Tryz.prog 9 [.pointer (some ⟨h, 0, none⟩), .int .i64 e] m (fun _ m => leaveV Tryz.prog [.v (.func (Fn.func 32) ⟨[]⟩ ⟨[t4]⟩)] [] .ret m (RK (CloPost Tryz.prog m0 h) (fun _ _ => False))) Kp1) Kp2))) := by
  obtain ⟨bn, cs, n, hv, hb, hn6, hi⟩ := hv
  have hhm := hoh.1
  have hl := lm
  have hs := sumN_bound (ks := fun _ => 2) (c := 2) (n := n) fun _ _ => Nat.le_refl _
  refine clo_slice (W := fun x => bn = some x) (k := 1 + sumN (fun _ => 2) n) ze63 sz63 ag63 put31 hoh hle1 hv.toL1 (fun m3 hle3 => HVe.wt2 (hv.le hle3) (fun y hy => by have := hb y hy; omega) hi) (by omega) (fun x hx => ⟨hb x hx, hv.lt hx⟩) fun t M ho hw hc hn K Kp hK => ?_
  have hv' := HVe.to hv hb hc hn
  apply c32
  unfold s32
  refine wipe33 (ho.cel.z ag63 (j := 0) rfl) hv' (by omega) fun m' c' q1 q2 _ => ?_
  rw [leave0, RK_ret]
  exact hK m' q1 q2
def pOf (bn : Option Nat) (i : Nat) : Value := match bn with | some y => .pointer (some ⟨y, i, none⟩) | none => undef
theorem HVe.or {e : Nat} {m : CM} {v : Value} {bn : Option Nat} {c : List Value} {n : Nat} (h : HVe e m v bn c n) : (v = .slice none 0 0 ∧ n = 0) ∨ ∃ y, bn = some y ∧ v = .slice (some ⟨y, 0, none⟩) n 0 ∧ Own m y c e := by
  cases h with
  | nil => exact .inl ⟨rfl, rfl⟩
  | blk h _ => exact .inr ⟨_, rfl, rfl, h⟩
def sN : Value → Nat | .slice _ n _ => n | _ => 0
theorem clo11' {bn : Option Nat} {cs : List Value} (hoh : Own m0 h [.slice none 0 0, .slice none 0 0] 0) (hle1 : m0.le m1) (hv : TabV m0 m1 v bn cs) :
    alw Tryz.prog 45 m1 (fun t4 m => sop (cstore Tryz.prog 45 t4 v m) (fun _ m => pop (cload Tryz.prog 45 t4 m) m (fun t17 m => callw Tryz.prog 13 [.pointer (some ⟨h, 0, none⟩), t17] m (fun _ m => callw Tryz.prog 9 [.pointer (some ⟨h, 0, none⟩), .int .i64 e] m (fun _ m => leaveV Tryz.prog [.v (.func (Fn.func 14) ⟨[]⟩ ⟨[t4]⟩)] [] .ret m (RK (CloPost Tryz.prog m0 h) (fun _ _ => False))) Kp1) Kp2))) := by
  have hhm := hoh.1
  have hl := lm
  have hn6 := hv.n6
  have hrow : ∀ i, i < cs.length → rowE 1 cs i = [cs.getD i undef] := fun i hi => by
    simp only [rowE, Nat.mul_one]
    rw [List.getD_eq_getElem?_getD, List.getElem?_eq_getElem hi, List.drop_eq_getElem_cons hi]
    rfl
  have hmem : ∀ i, i < cs.length → cs.getD i undef ∈ cs := fun i hi => by
    rw [List.getD_eq_getElem?_getD, List.getElem?_eq_getElem hi]; exact List.getElem_mem hi
  have hks : ∀ i, i < cs.length → 1 + sumN (fun _ => 2) (sN (cs.getD i undef)) ≤ 11 := fun i hi => by
    obtain ⟨b, c, n, hu, hn5, _⟩ := hv.row _ (hmem i hi)
    have := sumN_bound (ks := fun _ => 2) (c := 2) (n := n) fun _ _ => Nat.le_refl _
    rw [hu]; simp only [sN]; omega
  have hsum := sumN_bound hks
  refine clo_slice (W := fun x => ∃ n, .slice (some ⟨x, 0, none⟩) n 0 ∈ cs) (k := 1 + sumN (fun i => 1 + sumN (fun _ => 2) (sN (cs.getD i undef))) cs.length) ze45 sz45 ag45 put13 hoh hle1 hv.hv.toL1
    (fun m3 hle3 => (hv.hv.le hle3).wt (fun y hy => by have := hv.nb y hy; omega) rfl (by decide) fun i hi => ?_) (by omega) (fun x hx => ?_) fun t M ho hw hc hn K Kp hK => ?_
  · rw [hrow i hi]
    obtain ⟨b, c, n, hu, hn5, ho, hl', hb, hbn, hint⟩ := hv.row _ (hmem i hi)
    refine .cons (k' := 0) ?_ .nil
    rw [hu]
    exact HVe.wt2 (HVe.blk (ho.le hle3) hl') (fun y hy => by cases hy; omega) hint
  · obtain ⟨n, hx⟩ := hx
    obtain ⟨b, c, n', hu, hn5, ho, hl', hb, hbn, hint⟩ := hv.row _ hx
    cases hu
    exact ⟨hb, ho.1⟩
  · have hv' := HVe.to hv.hv hv.nb hc hn
    apply c14
    unfold s14
    apply c15
    unfold s15
    simp only [cnilc, pop_some]
    rw [ho.cel.z ag45 (j := 0) rfl, pop_some]
    refine each_ok (T := 45) (I := 3) (fun h => c54 h) (n := cs.length) (p := pOf bn) (Inv := fun m' => m'.next = M.next ∧ (∀ x, ¬ (∃ n, .slice (some ⟨x, 0, none⟩) n 0 ∈ cs) → m'.get x = M.get x) ∧ ∀ u ∈ cs, ∃ b c n, u = .slice (some ⟨b, 0, none⟩) n 0 ∧ n ≤ 5 ∧ Own m' b c 2 ∧ c.length = n * 2) (by omega) ?_ ?_
      (fun i m' K Kp hi hI hk => ?_) ⟨rfl, fun _ _ => rfl, fun u hu => ?_⟩ fun m' ⟨h1, h2, _⟩ => ?_
    · intro m'
      rcases HVe.or hv' with ⟨h1, h0⟩ | ⟨y, h1, h2, _⟩
      · rw [h1, h0]; simp [clen, Tryz.underlying45, goInt]
      · rw [h2]; simp [clen, Tryz.underlying45, goInt]
    · intro i hi
      rcases HVe.or hv' with ⟨_, h0⟩ | ⟨y, h1, h2, _⟩
      · omega
      · rw [h1, h2]; simp [pOf, cia, Tryz.underlying45, sz63, hi]
    · obtain ⟨g1, g2, g3⟩ := hI
      obtain ⟨b, c, n, hu, hn5, hob, hl'⟩ := g3 _ (hmem i hi)
      rcases HVe.or hv' with ⟨_, h0⟩ | ⟨y, hby, _, hoo⟩
      · omega
      rw [hby]
      show callw Tryz.prog 33 ([] ++ [.pointer (some ⟨y, i, none⟩)] ++ []) m' _ _
      have hyW : ¬ ∃ n, .slice (some ⟨y, 0, none⟩) n 0 ∈ cs := fun ⟨n, hx⟩ => by
        obtain ⟨b, c, n', hu, hn5, ho, hl', hb, hbn, hint⟩ := hv.row _ hx
        cases hu
        exact hbn hby
      have hoy : Own m' y cs 1 := ⟨by rw [g1]; exact hoo.1, by rw [g2 y hyW]; exact hoo.2⟩
      have hld : cload Tryz.prog 63 (.pointer (some ⟨y, i, none⟩)) m' = some (.slice (some ⟨b, 0, none⟩) n 0) := by
        refine hoy.cel.z ag63 ?_
        rw [← hu, List.getD_eq_getElem?_getD, List.getElem?_eq_getElem (by omega)]
        rfl
      refine wipe33 hld (.blk hob hl') (by omega) fun m2 c2 q1 q2 q3 => hk m2 ⟨by omega, fun x hx => ?_, fun u hu' => ?_⟩
      · rw [q2 x (fun e => hx (by cases e; exact ⟨n, by rw [← hu]; exact hmem i (by omega)⟩)), g2 x hx]
      · obtain ⟨b', c', n', hu2, hn5', hob', hl2⟩ := g3 u hu'
        by_cases hbb : b' = b
        · subst hbb
          have : c' = c := by have h1 := hob'.2; rw [hob.2] at h1; cases h1; rfl
          subst this
          cases q3 with
          | blk r1 r2 => exact ⟨b', c2, n', hu2, hn5', r1, by omega⟩
        · exact ⟨b', c', n', hu2, hn5', ⟨by rw [q1]; exact hob'.1, by rw [q2 b' (fun e => hbb (by cases e; rfl))]; exact hob'.2⟩, hl2⟩
    · obtain ⟨b, c, n, h1, h2, h3, h4, h5, h6, h7⟩ := hv.row u hu
      exact ⟨b, c, n, h1, h2, ⟨Nat.lt_of_lt_of_le h3.1 hn, hc _ _ _ _ h5 h3.1 h3.2⟩, h4⟩
    · rw [leave0, RK_ret, leave0, RK_ret]
      exact hK m' h1 h2
end
end Go.Proofs.YtclgfagkaklnnaaGreat.C
end

section
open Go Go.Proofs Go.Proofs.YtclgfagkaklnnaaGreat
set_option maxRecDepth 100000
namespace Go.Proofs.YtclgfagkaklnnaaGreat.C
section
variable {k : Nat} {l : List Value}
theorem clo6 (hk : k ≤ lim) : CloOk Tryz.prog tysC k l 6 := by
  intro F m h t hw hf hFh ho hth hoh
  obtain ⟨x, rfl, hin⟩ := argOf hw hk
  obtain ⟨hd, he, ht⟩ := hin m hf
  have hl := lm
  apply c6
  unfold s6
  rw [fz32_0, pop_some, la25 ho, pop_some]
  refine check7 hd fun p a e m1 hle1 _ => ?_
  simp only [cext, List.getElem?_cons_zero, List.getElem?_cons_succ, pop_some]
  refine p8 (hp_but (hoh.le hle1)) (by omega) fun _ m2 hp => p8 hp (by omega) fun _ m3 hp => p9 hp (by omega) fun _ m4 hp => ?_
  rw [leave1, RK_ret]
  exact clo_nothing hoh hle1 hp (by omega) wipe10
theorem clo11 (hk : k ≤ lim) : CloOk Tryz.prog tysC k l 11 := by
  intro F m h t hw hf hFh ho hth hoh
  obtain ⟨x, rfl, hin⟩ := argOf hw hk
  obtain ⟨hd, he, ht⟩ := hin m hf
  apply c11
  unfold s11
  rw [fz32_0, pop_some, la25 ho, pop_some, fz32_1, pop_some, la26 ho, pop_some]
  refine Content12 hd he fun m1 v bn cs e hle1 hv => ?_
  simp only [cext, List.getElem?_cons_zero, List.getElem?_cons_succ, pop_some]
  exact clo11' hoh hle1 hv
theorem clo16 (hk : k ≤ lim) : CloOk Tryz.prog tysC k l 16 := by
  intro F m h t hw hf hFh ho hth hoh
  obtain ⟨x, rfl, hin⟩ := argOf hw hk
  obtain ⟨hd, he, ht⟩ := hin m hf
  apply c16
  unfold s16
  rw [fz32_0, pop_some, la25 ho, pop_some, fz32_1, pop_some, la26 ho, pop_some, fz32_3, pop_some, ldi ho (j := 6) (n := x.b) rfl, pop_some, fz32_2, pop_some, la30 ho, pop_some]
  refine Made17 hd he ht fun m1 v e hle1 hv => ?_
  simp only [cext, List.getElem?_cons_zero, List.getElem?_cons_succ, pop_some]
  refine clo16' hoh hle1 hv fun t M K Kp hg => ?_
  apply c19
  unfold s19
  exact hg fun m' h => by rw [leave0, RK_ret]; exact h
theorem clo21 (hk : k ≤ lim) : CloOk Tryz.prog tysC k l 21 := by
  intro F m h t hw hf hFh ho hth hoh
  obtain ⟨x, rfl, hin⟩ := argOf hw hk
  obtain ⟨hd, he, ht⟩ := hin m hf
  apply c21
  unfold s21
  rw [fz32_0, pop_some, la25 ho, pop_some, fz32_1, pop_some, la26 ho, pop_some]
  refine Left22 hd he fun m1 v e hle1 hv => ?_
  simp only [cext, List.getElem?_cons_zero, List.getElem?_cons_succ, pop_some]
  refine clo16' hoh hle1 hv fun t M K Kp hg => ?_
  apply c23
  unfold s23
  exact hg fun m' h => by rw [leave0, RK_ret]; exact h
theorem clo24 (hk : k ≤ lim) : CloOk Tryz.prog tysC k l 24 := by
  intro F m h t hw hf hFh ho hth hoh
  obtain ⟨x, rfl, hin⟩ := argOf hw hk
  obtain ⟨hd, he, ht⟩ := hin m hf
  have hl := lm
  apply c24
  unfold s24
  rw [fz32_0, pop_some, la25 ho, pop_some, fz32_1, pop_some, la26 ho, pop_some]
  refine Keeps25 hd he fun m1 p a e hle1 => ?_
  simp only [cext, List.getElem?_cons_zero, List.getElem?_cons_succ, pop_some]
  refine p8 (hp_but (hoh.le hle1)) (by omega) fun _ m2 hp => p8 hp (by omega) fun _ m3 hp => p9 hp (by omega) fun _ m4 hp => ?_
  rw [leave1, RK_ret]
  exact clo_nothing hoh hle1 hp (by omega) wipe10
theorem clo26 (hk : k ≤ lim) : CloOk Tryz.prog tysC k l 26 := by
  intro F m h t hw hf hFh ho hth hoh
  obtain ⟨x, rfl, hin⟩ := argOf hw hk
  obtain ⟨hd, he, ht⟩ := hin m hf
  have hl := lm
  apply c26
  unfold s26
  rw [fz32_0, pop_some, la25 ho, pop_some, fz32_1, pop_some, la26 ho, pop_some, fz32_4, pop_some, ldi ho (j := 7) (n := x.l) rfl, pop_some]
  refine Take27 hd he fun m1 lo hi e hle1 => ?_
  simp only [cext, List.getElem?_cons_zero, List.getElem?_cons_succ, pop_some]
  refine alw_of ze59 fun b4 m2 hle2 hb4 ho4 => store_own ho4 (by simp [toL, sz59]) (by simp [toL]) rfl fun m3 hn3 hx3 ho3 => ?_
  simp only [toL] at ho3
  have hle3 := le_of_put (hle1.trans hle2) (by have := hle1.1; omega) hn3 hx3
  rw [lda ho3 ag59 sz59, pop_some]
  refine p28 (hp_but (hoh.le hle3)) (by omega) fun _ m4 hp => p9 hp (by omega) fun _ m5 hp => ?_
  rw [leave1, RK_ret]
  exact clo_nothing hoh hle3 hp (by omega) wipe10
theorem clo29 (hk : k ≤ lim) : CloOk Tryz.prog tysC k l 29 := by
  intro F m h t hw hf hFh ho hth hoh
  obtain ⟨x, rfl, hin⟩ := argOf hw hk
  obtain ⟨hd, he, ht⟩ := hin m hf
  apply c29
  unfold s29
  rw [fz32_0, pop_some, la25 ho, pop_some, fz32_1, pop_some, la26 ho, pop_some]
  refine Pull30 hd he fun m1 v e hle1 hv => ?_
  simp only [cext, List.getElem?_cons_zero, List.getElem?_cons_succ, pop_some]
  exact clo29' hoh hle1 hv
theorem clo34 (hk : k ≤ lim) : CloOk Tryz.prog tysC k l 34 := by
  intro F m h t hw hf hFh ho hth hoh
  obtain ⟨x, rfl, hin⟩ := argOf hw hk
  obtain ⟨hd, he, ht⟩ := hin m hf
  have hl := lm
  apply c34
  unfold s34
  rw [fz32_0, pop_some, la25 ho, pop_some, fz32_1, pop_some, la26 ho, pop_some, fz32_5, pop_some, ldi ho (j := 8) (n := x.y) rfl, pop_some, fz32_6, pop_some, ldi ho (j := 9) (n := x.s) rfl, pop_some]
  refine Pale35 hd he fun m1 p a e hle1 => ?_
  simp only [cext, List.getElem?_cons_zero, List.getElem?_cons_succ, pop_some]
  refine p8 (hp_but (hoh.le hle1)) (by omega) fun _ m2 hp => p8 hp (by omega) fun _ m3 hp => p9 hp (by omega) fun _ m4 hp => ?_
  rw [leave1, RK_ret]
  exact clo_nothing hoh hle1 hp (by omega) wipe10
end
end Go.Proofs.YtclgfagkaklnnaaGreat.C
end
