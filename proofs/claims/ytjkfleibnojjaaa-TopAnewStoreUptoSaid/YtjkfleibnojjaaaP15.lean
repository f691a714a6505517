/- Part 15 of 23 of the proof that the law TopAnewStore returns true and leaves its argument as it read before, for every input that the bounded statement admits (what it reads is of bulk at most 1048576). -/
import Derived.Test.YtjkfleibnojjaaaP14
namespace Go.Proofs.Ytjkfleibnojjaaa
open Go
/-- What lies below lo is as it was. -/
def leF (lo : Nat) (m m' : CM) : Prop := m.next ≤ m'.next ∧ ∀ b, b < lo → m'.get b = m.get b
theorem leF.refl (lo : Nat) (m : CM) : leF lo m m := ⟨Nat.le_refl _, fun _ _ => rfl⟩
theorem leF.trans {lo : Nat} {a b c : CM} (h : leF lo a b) (k : leF lo b c) : leF lo a c := ⟨Nat.le_trans h.1 k.1, fun x hx => (k.2 x hx).trans (h.2 x hx)⟩
theorem leF_alloc {lo : Nat} {m : CM} {x : CB} (h : lo ≤ m.next) : leF lo m (m.alloc x) := ⟨by simp, fun b hb => by rw [CM.get_alloc, if_neg (by omega)]⟩
theorem leF_set {lo : Nat} {m : CM} {b : Nat} {x : Option CB} (h : lo ≤ b) : leF lo m (m.set b x) := ⟨by simp, fun c hc => by rw [CM.get_set, if_neg (by omega)]⟩
theorem leF_put {lo : Nat} {m : CM} {b : Nat} {x : CB} (h : lo ≤ b) : leF lo m (m.put b x) := leF_set h
theorem leF.low {lo : Nat} {m m' : CM} (h : leF lo m m') (k : lo ≤ m.next) : lo ≤ m'.next := Nat.le_trans k h.1
section
variable {P : Program} {lo : Nat} {m m' : CM}
theorem fence_ptr {b o : Nat} {s : Option Nat} (h : fence lo (.pointer (some ⟨b, o, s⟩)) = true) : lo ≤ b := Nat.le_of_ble_eq_true h
theorem fence_slice {b o l k : Nat} {s : Option Nat} (h : fence lo (.slice (some ⟨b, o, s⟩) l k) = true) : lo ≤ b := Nat.le_of_ble_eq_true h
theorem cstoreL_leF {b o : Nat} {vs : List Value} (h : cstoreL b o vs m = some m') (hb : lo ≤ b) : leF lo m m' := by
  unfold cstoreL at h
  split at h
  · split at h
    · cases h; exact leF_put hb
    · cases h
  · cases h
theorem cstore_leF {t : TypeId} {x v : Value} (h : cstore P t x v m = some m') (hf : fence lo x = true) : leF lo m m' := by
  unfold cstore at h
  split at h
  · split at h
    · exact cstoreL_leF h (fence_ptr hf)
    · cases h
  · cases h
theorem cnext_leF {x v : Value} {i : Bool} (h : cnext x i m = some (v, m')) (hf : fence lo x = true) : leF lo m m' := by
  unfold cnext at h
  split at h
  · split at h
    · split at h
      · cases h; exact leF_put (fence_ptr hf)
      · cases h; exact .refl ..
    · cases h
  · cases h
theorem cmapU_leF {t : TypeId} {x k v : Value} (h : cmapU P t x k v m = some m') (hf : fence lo x = true) : leF lo m m' := by
  unfold cmapU at h
  split at h
  · rename_i b _
    have hb : lo ≤ b := Nat.le_of_ble_eq_true hf
    repeat' split at h
    all_goals first
      | (cases h; exact leF_put hb)
      | cases h
  · cases h
theorem crange_leF {t : TypeId} {x v : Value} (h : crange P t x m = some (v, m')) (hlo : lo ≤ m.next) : leF lo m m' := by
  unfold crange at h
  split at h
  · cases h; exact leF_alloc hlo
  · cases h
theorem cmakeS_leF {t : TypeId} {x y v : Value} (h : cmakeS P t x y m = some (v, m')) (hlo : lo ≤ m.next) : leF lo m m' := by
  unfold cmakeS at h
  split at h
  · split at h
    · split at h
      · cases h; exact leF_alloc hlo
      · cases h
    · cases h
  · cases h
theorem cbuildS_leF {t : TypeId} {n : Nat} {ps : List (Nat × Value)} {v : Value} (h : cbuildS P t n ps m = some (v, m')) (hlo : lo ≤ m.next) : leF lo m m' := by
  unfold cbuildS at h
  repeat' split at h
  all_goals first
    | (cases h; exact leF_alloc hlo)
    | cases h
theorem ccopy_leF {ts : List TypeId} {d s v : Value} (h : ccopy P ts d s m = some (v, m')) (hf : fence lo d = true) : leF lo m m' := by
  unfold ccopy at h
  repeat' split at h
  all_goals first
    | (cases h; exact .refl ..)
    | (cases h; rename_i hs; exact cstoreL_leF hs (fence_slice hf))
    | cases h
theorem cappend_leF {ts : List TypeId} {s x v : Value} (h : cappend P ts s x m = some (v, m')) (hf : fence lo s = true) (hlo : lo ≤ m.next) : leF lo m m' := by
  unfold cappend at h
  repeat' split at h
  all_goals first
    | (cases h; exact .refl ..)
    | (cases h; exact leF_alloc hlo)
    | (cases h; exact (leF_set (fence_slice hf)).trans (leF_alloc hlo))
    | cases h
end
section
variable {P : Program} {C : CB1} {Y : YB1} {lf : Nat} {r : Option Nat} {lo : Nat}
def CbOk (P : Program) (C : CB1) : Prop := ∀ lo f args m K Kp, lo ≤ m.next → C lo f args m K Kp = true → callw P f args m (fun v m' => leF lo m m' ∧ K v m' = true) (fun ch m' => leF lo m m' ∧ Kp ch m' = true)
def YbOk (P : Program) (Y : YB1) : Prop := ∀ lo l args m K, lo ≤ m.next → Y lo l args m K = true → yieldw P l args m (fun v m' => leF lo m m' ∧ K v m' = true)
theorem popb_ok {x : Option Value} {m : CM} {K : KB} (h : popb x m K = true) : pop x m (fun v m' => leF lo m m' ∧ K v m' = true) := by
  unfold popb at h; split at h
  · rename_i v; rw [valF_eq] at h; exact ⟨v, rfl, .refl .., h⟩
  · cases h
theorem vopb_ok {x : Option (Value × CM)} {m : CM} {K : KB} (hx : ∀ v m', x = some (v, m') → leF lo m m') (h : vopb x K = true) : vop x (fun v m' => leF lo m m' ∧ K v m' = true) := by
  unfold vopb at h; split at h
  · rename_i v m; rw [memF_eq, valF_eq] at h; exact ⟨v, m, rfl, hx _ _ rfl, h⟩
  · cases h
theorem sopb_ok {x : Option CM} {m : CM} {K : KB} (hx : ∀ m', x = some m' → leF lo m m') (h : sopb x K = true) : sop x (fun v m' => leF lo m m' ∧ K v m' = true) := by
  unfold sopb at h; split at h
  · rename_i m; rw [memF_eq] at h; exact ⟨m, rfl, hx _ rfl, h⟩
  · cases h
theorem panb_ok {x : Value} {m : CM} {Kp : KPB} (h : panb x m Kp = true) : panw x m (fun ch m' => leF lo m m' ∧ Kp ch m' = true) := by
  unfold panb at h; split at h
  · rename_i t v; exact ⟨t, v, rfl, .refl .., h⟩
  · cases h
theorem callvb_ok (hC : CbOk P C) (hY : YbOk P Y) {fv : Value} {args : List Value} {m : CM} {K : KB} {Kp : KPB} (hlo : lo ≤ m.next) (h : callvb C Y lo fv args m K Kp = true) :
    callv P fv args m (fun v m' => leF lo m m' ∧ K v m' = true) (fun ch m' => leF lo m m' ∧ Kp ch m' = true) := by
  unfold callvb at h; split at h
  · exact hC _ _ _ _ _ _ hlo h
  · exact hY _ _ _ _ _ hlo h
  · cases h
theorem methb_ok (hC : CbOk P C) {x : Value} {name : String} {args : List Value} {m : CM} {K : KB} {Kp : KPB} (hlo : lo ≤ m.next) (h : methb P C lo x name args m K Kp = true) :
    methw P x name args m (fun v m' => leF lo m m' ∧ K v m' = true) (fun ch m' => leF lo m m' ∧ Kp ch m' = true) := by
  unfold methb at h; split at h
  · split at h
    · rename_i f hf; exact methw_ptr hf (hC _ _ _ _ _ _ hlo h)
    · cases h
  · cases h
theorem bltb_ok {b : Builtin} {ts : List TypeId} {args : List Value} {m : CM} {K : KB} {Kp : KPB} (hlo : lo ≤ m.next) (h : bltb P lo b ts args m K Kp = true) :
    bltw P b ts args m (fun v m' => leF lo m m' ∧ K v m' = true) (fun ch m' => leF lo m m' ∧ Kp ch m' = true) := by
  unfold bltb at h; split at h
  · exact popb_ok h
  · simp only [Bool.and_eq_true] at h; exact vopb_ok (fun v m' hx => cappend_leF hx h.1 hlo) h.2
  · simp only [Bool.and_eq_true] at h; exact vopb_ok (fun v m' hx => ccopy_leF hx h.1) h.2
  · exact popb_ok h
  · exact popb_ok h
  · exact panb_ok h
  · cases h
theorem opb_ok (hC : CbOk P C) (hY : YbOk P Y) {o : Op} {a : CA} {m : CM} {K : KB} {Kp : KPB} (hlo : lo ≤ m.next) (h : opb P C Y lo o a m K Kp = true) :
    opw P o a m (fun v m' => leF lo m m' ∧ K v m' = true) (fun ch m' => leF lo m m' ∧ Kp ch m' = true) := by
  unfold opb at h
  simp only [memF_eq, natF_eq, cbinF_eq, clkF_eq, cmapUF_eq] at h
  split at h
  all_goals first
    | exact ⟨.refl .., h⟩
    | exact popb_ok h
    | exact panb_ok h
    | exact bltb_ok hlo h
    | exact callvb_ok hC hY hlo h
    | exact methb_ok hC hlo h
    | exact ⟨leF_alloc hlo, h⟩
    | exact vopb_ok (fun v m' hx => cmakeS_leF hx hlo) h
    | exact vopb_ok (fun v m' hx => cbuildS_leF hx hlo) h
    | exact vopb_ok (fun v m' hx => crange_leF hx hlo) h
    | (simp only [Bool.and_eq_true] at h; exact sopb_ok (fun m' hx => cstore_leF hx h.1) h.2)
    | (simp only [Bool.and_eq_true] at h; exact sopb_ok (fun m' hx => cmapU_leF hx h.1) h.2)
    | (simp only [Bool.and_eq_true] at h; exact vopb_ok (fun v m' hx => cnext_leF hx h.1) h.2)
    | (cases h; done)
    | skip
  · split at h
    · exact ⟨_, by assumption, leF_alloc hlo, h⟩
    · cases h
end
end Go.Proofs.Ytjkfleibnojjaaa
