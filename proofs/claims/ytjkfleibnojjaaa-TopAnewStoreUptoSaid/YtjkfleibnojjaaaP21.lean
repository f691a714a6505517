/- Part 21 of 23 of the proof that the law TopAnewStore returns true and leaves its argument as it read before, for every input that the bounded statement admits (what it reads is of bulk at most 1048576). -/
import Derived.Test.YtjkfleibnojjaaaP12
import Derived.Test.YtjkfleibnojjaaaP13
import Derived.Test.YtjkfleibnojjaaaP20
open Go Go.Proofs Go.Proofs.Ytjkfleibnojjaaa
set_option maxRecDepth 100000
namespace Go.Proofs.Ytjkfleibnojjaaa.T
/-! next, laid over by a summary: its value is worked out by these -/
noncomputable def mxF (a b : Int) : Int := @Bool.rec (fun _ => Int) a b (iltb a b)
theorem mxF_eq (a b : Int) : mxF a b = mx a b := by
  unfold mxF mx
  rw [iltb_eq]
  by_cases h : a < b
  · rw [if_pos h, decide_eq_true h]
  · rw [if_neg (by omega), decide_eq_false h]
noncomputable def upF (J k b n : Int) : Int := @Bool.rec (fun _ => Int) n (@Bool.rec (fun _ => Int) n (n + 1) (iltb J (mxF (b - k) (k - b)))) (iltb 0 n)
theorem upF_eq (J k b n : Int) : upF J k b n = upP J k b n := by
  unfold upF upP jmpP
  rw [iltb_eq, iltb_eq, mxF_eq]
  cases decide (0 < n) <;> cases decide (J < mx (b - k) (k - b)) <;> rfl
noncomputable def accF (J k : Int) (l : List Int) : Int → Int → Int :=
  @List.rec Int (fun _ => Int → Int → Int) (fun _ acc => acc) (fun n _ ih b acc => intF (upF J k b n) fun u => intF (mxF acc u) fun acc => intF (b + 1) fun b => ih b acc) l
theorem accF_eq (J k : Int) : ∀ (l : List Int) (b acc : Int), accF J k l b acc = accL J k l b acc
  | [], _, _ => rfl
  | n :: l, b, acc => by
    show (intF (upF J k b n) fun u => intF (mxF acc u) fun acc => intF (b + 1) fun b => accF J k l b acc) = accL J k l (b + 1) (mx acc (upP J k b n))
    rw [intF_eq, intF_eq, intF_eq, accF_eq, mxF_eq, upF_eq]
noncomputable def outF (J lo hi seed : Int) (js : List Int) (n : Nat) : Nat → (List Value → Bool) → Bool :=
  @Nat.rec (fun _ => Nat → (List Value → Bool) → Bool) (fun _ K => K []) (fun _ ih k K => intF (@Bool.rec (fun _ => Int) (@Bool.rec (fun _ => Int) (accF J (Int.ofNat k) js 0 seed) 0 (iltb hi (Int.ofNat k))) 0 (iltb (Int.ofNat k) lo)) fun v => natF (k + 1) fun k => ih k fun t => K (.int .i64 v :: t)) n
theorem outF_eq (J lo hi seed : Int) (js : List Int) : ∀ (n k : Nat) (K : List Value → Bool), outF J lo hi seed js n k K = K (iv ((List.range' k n).map fun (i : Nat) => if lo ≤ (i : Int) ∧ (i : Int) ≤ hi then accL J i js 0 seed else 0))
  | 0, k, K => rfl
  | n + 1, k, K => by
    show (intF (@Bool.rec (fun _ => Int) (@Bool.rec (fun _ => Int) (accF J (Int.ofNat k) js 0 seed) 0 (iltb hi (Int.ofNat k))) 0 (iltb (Int.ofNat k) lo)) fun v => natF (k + 1) fun k => outF J lo hi seed js n k fun t => K (.int .i64 v :: t)) = _
    rw [intF_eq, natF_eq, outF_eq, List.range'_succ, List.map_cons]
    simp only [iv, List.map_cons]
    congr 3
    rw [iltb_eq, iltb_eq, accF_eq]
    have e : (Int.ofNat k) = (k : Int) := rfl
    rw [e]
    by_cases h1 : (k : Int) < lo
    · rw [decide_eq_true h1, if_neg (by omega)]
    · rw [decide_eq_false h1]
      by_cases h2 : hi < (k : Int)
      · rw [decide_eq_true h2, if_neg (by omega)]
      · rw [decide_eq_false h2, if_pos (by omega)]
noncomputable def unF (l : List Value) : (List Int → Bool) → Bool :=
  @List.rec Value (fun _ => (List Int → Bool) → Bool) (fun K => K []) (fun v _ ih K => (match v with | .int .i64 n => intF n fun n => ih fun ns => K (n :: ns) | _ => false)) l
theorem unF_eq : ∀ {l : List Value} {K : List Int → Bool}, unF l K = true → ∃ ns, l = iv ns ∧ K ns = true
  | [], K, h => ⟨[], rfl, h⟩
  | v :: l, K, h => by
    have h' : (match (generalizing := false) v with | .int .i64 n => intF n fun n => unF l fun ns => K (n :: ns) | _ => false) = true := h
    clear h
    split at h'
    · rename_i n
      rw [intF_eq] at h'
      obtain ⟨ns, hl, h2⟩ := unF_eq h'
      subst hl
      exact ⟨n :: ns, rfl, h2⟩
    · cases h'
noncomputable def allF (js : List Int) : Bool := @List.rec Int (fun _ => Bool) true (fun n _ ih => @Bool.rec (fun _ => Bool) ih false (iltb 1000000 n)) js
theorem allF_eq : ∀ {js : List Int}, allF js = true → ∀ u ∈ js, u ≤ 1000000
  | [], _ => by simp
  | n :: js, h => by
    change @Bool.rec (fun _ => Bool) (allF js) false (iltb 1000000 n) = true at h
    cases hb : iltb 1000000 n with
    | true => rw [hb] at h; cases h
    | false =>
      rw [hb] at h
      rw [iltb_eq] at hb
      intro u hu
      rcases List.mem_cons.1 hu with rfl | hu
      · simpa using hb
      · exact allF_eq h u hu
noncomputable def isZer (js : List Int) : Bool := @List.rec Int (fun _ => Bool) true (fun n _ ih => @Bool.rec (fun _ => Bool) false ih (ieqb n 0)) js
theorem isZer_eq : ∀ (js : List Int), isZer js = decide (js = List.replicate js.length 0)
  | [] => rfl
  | n :: js => by
    show @Bool.rec (fun _ => Bool) false (isZer js) (ieqb n 0) = _
    rw [ieqb_eq, isZer_eq js]
    by_cases h : n = 0
    · subst h; simp [List.replicate_succ]
    · have hb : (n == 0) = false := by simpa using h
      rw [hb]
      simp [List.replicate_succ, h]
noncomputable def nextB (args : List Value) (m : CM) (K : KB) : Bool :=
  match args with
  | [.agg ⟨l⟩, .agg ⟨[.int .i64 bend, .int .i64 days, .int .i64 J, .int .i64 times]⟩, .agg ⟨[.int .i64 lo, .int .i64 hi]⟩] =>
    unF l fun js => Nat.beq js.length 61 && (allF js && (!iltb lo 0 && (!iltb 60 hi && (!iltb hi lo && outF J lo hi (@Bool.rec (fun _ => Int) 0 1 (isZer js)) js 61 0 fun r => natF (m.next + 4000) fun n => K (.agg ⟨r⟩) ⟨m.t, n⟩))))
  | _ => false
noncomputable def nextO (C : CB1) : CB1 := fun lo f args m K Kp => match Nat.beq f 42 with | true => nextB args m K | false => C lo f args m K Kp
theorem nextO_ok (C : CB1) (hC : CbOk Try.prog C) : CbOk Try.prog (nextO C) := by
  intro lo f args m K Kp hlo h
  unfold nextO at h
  cases hf : Nat.beq f 42 with
  | false => simp only [hf] at h; exact hC lo f args m K Kp hlo h
  | true =>
    have := Nat.eq_of_beq_eq_true hf
    subst this
    simp only [hf] at h
    unfold nextB at h
    split at h
    · rename_i l bend days J times lo' hi'
      obtain ⟨js, hjs, h'⟩ := unF_eq h
      clear h
      subst hjs
      have h := h'
      simp only [Bool.and_eq_true, Bool.not_eq_true', iltb_eq, decide_eq_false_iff_not, outF_eq, natF_eq] at h
      obtain ⟨h1, h2, h3, h4, h5, h6⟩ := h
      have hl : js.length = 61 := Nat.eq_of_beq_eq_true h1
      have hseed : @Bool.rec (fun _ => Int) 0 1 (isZer js) = seedP js := by
        rw [isZer_eq, hl]
        unfold seedP zer
        cases decide (js = List.replicate 61 0) <;> rfl
      rw [hseed, ← List.range_eq_range'] at h6
      refine callw_raise (n := m.next + 4000) (next42 (c := [.int .i64 bend, .int .i64 days, .int .i64 J, .int .i64 times]) (J := J) rfl rfl rfl hl (allF_eq h2) (by omega) (by omega) (by omega) fun m' hle hn => ⟨hle, hn, rfl⟩) ?_
      exact ⟨⟨by simp [CM.aged], fun b hb => rfl⟩, h6⟩
    · cases h
end Go.Proofs.Ytjkfleibnojjaaa.T
