/- Active: what its rounds come to. -/
import Derived.Test.YtkjegegjkeeemaaXD
set_option linter.all false
namespace Go.Proofs.Ytkjegegjkeeemaa.Ev
open Go

/-- In force at m. -/
def Forced (o : O) (m : Int) : Prop := o.fr ≤ m ∧ o.kn ≤ m ∧ m ≤ o.unt
instance (o : O) (m : Int) : Decidable (Forced o m) := by unfold Forced; infer_instance
theorem inF_eq {α : Type} (o : O) (m : Int) (a b : α) : inF o m a b = if Forced o m then a else b := by
  unfold inF Forced
  simp only [leI_iff, bif_dec]
  refine split_ite (fun h => ?_) (fun h => ?_)
  all_goals repeat' (refine ite_split (fun _ => ?_) (fun _ => ?_))
  all_goals first | rfl | (exfalso; omega) | (exfalso; rename_i h1; split at h1 <;> omega) | (exfalso; rename_i h1 h2; split at h1 <;> omega)
/-- The indices of those in force, from i on, d of them looked at. -/
def acts (f : Nat → O) (m : Int) (i : Nat) : Nat → List Int
  | 0 => []
  | d + 1 => if Forced (f i) m then (i : Int) :: acts f m (i + 1) d else acts f m (i + 1) d
def rowL (xs : List Int) (k : Nat) : AV :=
  match xs[k]? with
  | some v => .int .i64 v
  | none => .undef
theorem rowL_push (xs : List Int) (v : Int) : joinG xs.length (rowL xs) 1 (one v) = rowL (xs ++ [v]) := by
  funext k
  show (bif Nat.beq k xs.length then AV.int .i64 v else rowL xs k) = rowL (xs ++ [v]) k
  cases h : Nat.beq k xs.length with
  | true =>
    have := Nat.eq_of_beq_eq_true h
    subst this
    simp [rowL]
  | false =>
    have hne : k ≠ xs.length := Nat.ne_of_beq_eq_false h
    show rowL xs k = _
    unfold rowL
    by_cases hlt : k < xs.length
    · rw [List.getElem?_append_left hlt]
    · rw [List.getElem?_eq_none (by omega), List.getElem?_eq_none (by simp; omega)]
theorem rowL_first (v : Int) : joinG 0 (fun _ => .undef) 1 (one v) = rowL [v] := by
  have : (fun _ => AV.undef) = rowL [] := by funext k; simp [rowL]
  rw [this]; exact rowL_push [] v

def outA : List Int → AV
  | [] => .nilSl none
  | xs => .arr 1 xs.length (rowL xs) none
def HA (xs : List Int) (o : O) (z : Int) : List AO :=
  match xs with
  | [] => H10
  | xs => H10b xs.length (rowL xs) o z
section
variable {R : Type} (K : AV → Option R) (L n : Nat) (f : Nat → O) (m : Int)
theorem loop10 (hn : n ≤ 100) : ∀ (d j i : Nat) (xs : List Int) (o : O) (z : Int), n - i = d → d < j → i ≤ n → xs.length ≤ i →
    L30q0 (envS s1 L 4) (k10 L K) 3 j (s30 m i n f 2 (HA xs o z)) = K (.tup [outA (xs ++ acts f m i d), .int .i64 0]) := by
  intro d
  induction d with
  | zero =>
    intro j i xs o z h1 h2 h3 h4
    obtain ⟨j, rfl⟩ : ∃ k, j = Nat.succ k := ⟨j - 1, by omega⟩
    have hle : leI (n : Int) i = true := by rw [leI_iff]; exact decide_eq_true (by omega)
    cases xs with
    | nil =>
      show L30q0 (envS s1 L 4) (k10 L K) 3 (Nat.succ j) (s30 m i n f 2 H10) = _
      rw [it10a, hle]; exact end10a K L
    | cons x xs =>
      show L30q0 (envS s1 L 4) (k10 L K) 3 (Nat.succ j) (s30 m i n f 2 (H10b (Nat.succ xs.length) (rowL (x :: xs)) o z)) = _
      rw [it10b, hle, acts, List.append_nil]; exact end10b K L _ _ _ _
  | succ d ih =>
    intro j i xs o z h1 h2 h3 h4
    obtain ⟨j, rfl⟩ : ∃ k, j = Nat.succ k := ⟨j - 1, by omega⟩
    have hle : leI (n : Int) i = false := by rw [leI_iff]; exact decide_eq_false (by omega)
    have hle0 : leI 0 (i : Int) = true := by rw [leI_iff]; exact decide_eq_true (by omega)
    have hi : ((i : Int)).toNat = i := by simp
    have hw : wr .i64 ((i : Int) + 1) = ((i + 1 : Nat) : Int) := by rw [wr64 (by omega) (by omega)]; omega
    cases xs with
    | nil =>
      show L30q0 (envS s1 L 4) (k10 L K) 3 (Nat.succ j) (s30 m i n f 2 H10) = _
      rw [it10a, hle, hle0, hi, hw, rowL_first, inF_eq]
      by_cases hF : Forced (f i) m
      · rw [if_pos hF, acts, if_pos hF]
        exact ih j (i + 1) [(i : Int)] (f i) i (by omega) (by omega) (by omega) (by simp)
      · rw [if_neg hF, acts, if_neg hF]
        exact ih j (i + 1) [] o z (by omega) (by omega) (by omega) (by simp)
    | cons x xs =>
      show L30q0 (envS s1 L 4) (k10 L K) 3 (Nat.succ j) (s30 m i n f 2 (H10b (Nat.succ xs.length) (rowL (x :: xs)) o z)) = _
      rw [it10b, hle, hle0, hi, hw, inF_eq]
      by_cases hF : Forced (f i) m
      · rw [if_pos hF, acts, if_pos hF]
        have hcap : (Nat.beq 3 3 && Nat.beq (Nat.succ xs.length) (Nat.succ xs.length) && Nat.blt 0 (Nat.succ xs.length) && capOk (Nat.succ xs.length) 1 8) = true := by
          simp only [List.length_cons] at h4
          have hc : capOk (Nat.succ xs.length) 1 8 = true := by
            unfold capOk
            rw [Nat.ble_eq]
            omega
          have hb : Nat.blt 0 (Nat.succ xs.length) = true := by rw [Nat.blt_eq]; omega
          rw [hc, hb, Nat.beq_refl (Nat.succ xs.length)]; rfl
        rw [hcap]
        have := ih j (i + 1) (x :: xs ++ [(i : Int)]) o z (by omega) (by omega) (by omega) (by simp at h4 ⊢; omega)
        rw [List.append_assoc] at this
        refine Eq.trans ?_ this
        have hr := rowL_push (x :: xs) (i : Int)
        simp only [List.length_cons] at hr
        show L30q0 (envS s1 L 4) (k10 L K) 3 j (s30 m ((i + 1 : Nat) : Int) n f 2 (H10b (Nat.succ xs.length + 1) (joinG (Nat.succ xs.length) (rowL (x :: xs)) 1 (one i)) o z)) = _
        rw [hr]
        have hl : Nat.succ xs.length + 1 = (x :: xs ++ [(i : Int)]).length := by simp
        rw [hl]; rfl
      · rw [if_neg hF, acts, if_neg hF]
        exact ih j (i + 1) (x :: xs) o z (by omega) (by omega) (by omega) (by simp at h4 ⊢; omega)
end
end Go.Proofs.Ytkjegegjkeeemaa.Ev
