/- Active, Stuck, Judge and their references: what they come to. -/
import Derived.Test.YtkjegegjkeeemaaPD
import Derived.Test.YtkjegegjkeeemaaXF
import Derived.Test.YtkjegegjkeeemaaXG
set_option linter.all false
namespace Go.Proofs.Ytkjegegjkeeemaa.Ev
open Go

def stuckB (f : Nat → O) (m t : Int) (i : Nat) : Nat → Bool
  | 0 => false
  | d + 1 => if Forced (f i) m ∧ (f i).kd = 4 ∧ (f i).tel = t then true else stuckB f m t (i + 1) d
/-- Does an override exclude a candidate? -/
def Excl (o : O) (t p x : Int) : Prop := o.kd = 1 ∧ o.tel = t ∨ o.kd = 2 ∧ o.prg = p ∨ o.kd = 3 ∧ o.tile = x
instance (o : O) (t p x : Int) : Decidable (Excl o t p x) := by unfold Excl; infer_instance
def codeX (o : O) : Int := if o.kd = 1 then 18 else 22
def judge (f : Nat → O) (m t p x : Int) (i : Nat) : Nat → Int
  | 0 => 0
  | d + 1 => if Forced (f i) m ∧ Excl (f i) t p x then codeX (f i) else judge f m t p x (i + 1) d
def Mom (m : Int) : Prop := 0 ≤ m ∧ m ≤ 38399
def Tel (t : Int) : Prop := 0 ≤ t ∧ t ≤ 5
def Cand (t p x : Int) : Prop := Tel t ∧ 0 ≤ p ∧ p ≤ 63 ∧ 0 ≤ x ∧ x ≤ 511

theorem wrNext {i n : Nat} (hn : n ≤ 1000) (hi : i ≤ n) : wr .i64 ((i : Int) + 1) = ((i + 1 : Nat) : Int) := by rw [wr64 (by omega) (by omega)]; omega

section
variable {R : Type} (K : AV → Option R) (L n : Nat) (f : Nat → O) (m t p x : Int)
theorem loop12 (hn : n ≤ 100) : ∀ (d j i : Nat), n - i = d → d < j → i ≤ n →
    L30q0 (envS s1 L 4) (k12 L t K) 5 j (s30 m i n f 4 (H12 t)) = K (.tup [.bool (stuckB f m t i d), .int .i64 0]) := by
  intro d
  induction d with
  | zero =>
    intro j i h1 h2 h3
    obtain ⟨j, rfl⟩ : ∃ k, j = Nat.succ k := ⟨j - 1, by omega⟩
    have hle : leI (n : Int) i = true := by rw [leI_iff]; exact decide_eq_true (by omega)
    rw [it12, hle]; rfl
  | succ d ih =>
    intro j i h1 h2 h3
    obtain ⟨j, rfl⟩ : ∃ k, j = Nat.succ k := ⟨j - 1, by omega⟩
    have hle : leI (n : Int) i = false := by rw [leI_iff]; exact decide_eq_false (by omega)
    have hle0 : leI 0 (i : Int) = true := by rw [leI_iff]; exact decide_eq_true (by omega)
    have hi : ((i : Int)).toNat = i := by simp
    rw [it12, hle, hle0, hi, wrNext (n := n) (by omega) h3, ih j (i + 1) (by omega) (by omega) (by omega), stuckB]
    generalize stuckB f m t (i + 1) d = b
    generalize f i = o
    simp only [leI_iff, eqI_dec, bif_not, bif_and, bif_dec, Bool.not_false, Bool.and_true, cond_true]
    by_cases hF : Forced o m ∧ o.kd = 4 ∧ o.tel = t
    · rw [if_pos hF]
      obtain ⟨⟨a, b', c⟩, h4, h5⟩ := hF
      rw [if_pos, if_pos c, if_pos h4, if_pos h5]
      split <;> assumption
    · rw [if_neg hF]
      unfold Forced at hF
      repeat' (refine ite_split (fun _ => ?_) (fun _ => ?_))
      all_goals first | rfl | (exfalso; omega) | (exfalso; rename_i h1 h2 h3 h4; split at h1 <;> omega)

theorem loop17 (hn : n ≤ 100) (hV : ∀ k, k < n → Good (f k)) : ∀ (d j i : Nat), n - i = d → d < j → i ≤ n →
    L30q0 (envS s1 L 4) (k17 L t p x K) 4 j (s30 m i n f 3 (H17 t p x)) = K (.int .i64 (judge f m t p x i d)) := by
  intro d
  induction d with
  | zero =>
    intro j i h1 h2 h3
    obtain ⟨j, rfl⟩ : ∃ k, j = Nat.succ k := ⟨j - 1, by omega⟩
    have hle : leI (n : Int) i = true := by rw [leI_iff]; exact decide_eq_true (by omega)
    rw [it17, hle]; rfl
  | succ d ih =>
    intro j i h1 h2 h3
    obtain ⟨j, rfl⟩ : ∃ k, j = Nat.succ k := ⟨j - 1, by omega⟩
    have hle : leI (n : Int) i = false := by rw [leI_iff]; exact decide_eq_false (by omega)
    have hle0 : leI 0 (i : Int) = true := by rw [leI_iff]; exact decide_eq_true (by omega)
    have hi : ((i : Int)).toNat = i := by simp
    have hg := hV i (by omega)
    rw [it17, hle, hle0, hi, wrNext (n := n) (by omega) h3, ih j (i + 1) (by omega) (by omega) (by omega), judge]
    generalize judge f m t p x (i + 1) d = b
    generalize f i = o at hg ⊢
    simp only [leI_iff, eqI_dec, bif_not, bif_and, bif_dec, Bool.not_false, Bool.and_true, cond_true]
    have hk : o.kd = 1 ∨ o.kd = 2 ∨ o.kd = 3 ∨ o.kd = 4 := by unfold Good at hg; omega
    have hmax : ((if o.kn ≤ o.fr then o.fr else o.kn) ≤ m) ↔ o.fr ≤ m ∧ o.kn ≤ m := by split <;> omega
    simp only [hmax]
    unfold Forced Excl codeX
    clear hg ih hV
    rcases hk with h | h | h | h <;> simp only [h] <;> simp <;> (repeat' (refine ite_split (fun _ => ?_) (fun _ => ?_))) <;> (try rfl) <;> (rename_i h1; try rw [if_pos (by omega)]) <;> (try rw [if_neg (by omega)])

theorem loop13 (hn : n ≤ 100) : ∀ (d j i : Nat), n - i = d → d < j → i ≤ n →
    L13q0 (envS s1 L 5) (pK K) 0 j (S13q0 [.arr 7 n (rowO f) none, .int .i64 t, .int .i64 m, .int .i64 i] []) = K (.tup [.bool (stuckB f m t i d), .int .i64 0]) := by
  intro d
  induction d with
  | zero =>
    intro j i h1 h2 h3
    obtain ⟨j, rfl⟩ : ∃ k, j = Nat.succ k := ⟨j - 1, by omega⟩
    have hle : leI (n : Int) i = true := by rw [leI_iff]; exact decide_eq_true (by omega)
    rw [it13, hle]; rfl
  | succ d ih =>
    intro j i h1 h2 h3
    obtain ⟨j, rfl⟩ : ∃ k, j = Nat.succ k := ⟨j - 1, by omega⟩
    have hle : leI (n : Int) i = false := by rw [leI_iff]; exact decide_eq_false (by omega)
    have hle0 : leI 0 (i : Int) = true := by rw [leI_iff]; exact decide_eq_true (by omega)
    have hi : ((i : Int)).toNat = i := by simp
    rw [it13, hle, hle0, hi, wrNext (n := n) (by omega) h3, ih j (i + 1) (by omega) (by omega) (by omega), stuckB]
    generalize stuckB f m t (i + 1) d = b
    generalize f i = o
    simp only [leI_iff, eqI_dec, bif_not, bif_and, bif_dec, Bool.not_false, Bool.and_true, cond_true]
    by_cases hF : Forced o m ∧ o.kd = 4 ∧ o.tel = t
    · rw [if_pos hF]
      obtain ⟨⟨a, b', c⟩, h4, h5⟩ := hF
      rw [if_pos h4, if_pos h5, if_pos a, if_pos b', if_pos c]
    · rw [if_neg hF]
      unfold Forced at hF
      repeat' (refine ite_split (fun _ => ?_) (fun _ => ?_))
      all_goals first | rfl | (exfalso; omega)

theorem loop18 (hn : n ≤ 100) : ∀ (d j i : Nat), n - i = d → d < j → i ≤ n →
    L18q0 (envS s1 L 5) (pK K) 0 j (S18q0 [.arr 7 n (rowO f) none, .int .i64 t, .int .i64 p, .int .i64 x, .int .i64 m, .int .i64 i] []) = K (.int .i64 (judge f m t p x i d)) := by
  intro d
  induction d with
  | zero =>
    intro j i h1 h2 h3
    obtain ⟨j, rfl⟩ : ∃ k, j = Nat.succ k := ⟨j - 1, by omega⟩
    have hle : leI (n : Int) i = true := by rw [leI_iff]; exact decide_eq_true (by omega)
    rw [it18, hle]; rfl
  | succ d ih =>
    intro j i h1 h2 h3
    obtain ⟨j, rfl⟩ : ∃ k, j = Nat.succ k := ⟨j - 1, by omega⟩
    have hle : leI (n : Int) i = false := by rw [leI_iff]; exact decide_eq_false (by omega)
    have hle0 : leI 0 (i : Int) = true := by rw [leI_iff]; exact decide_eq_true (by omega)
    have hi : ((i : Int)).toNat = i := by simp
    rw [it18, hle, hle0, hi, wrNext (n := n) (by omega) h3, ih j (i + 1) (by omega) (by omega) (by omega), judge]
    generalize judge f m t p x (i + 1) d = b
    generalize f i = o
    simp only [leI_iff, eqI_dec, bif_not, bif_and, bif_dec, Bool.not_false, Bool.and_true, cond_true]
    by_cases hF : Forced o m ∧ Excl o t p x
    · rw [if_pos hF]
      obtain ⟨⟨a, b', c⟩, hx⟩ := hF
      rw [if_pos a, if_pos b', if_pos c]
      unfold Excl at hx
      unfold codeX
      repeat' (refine ite_split (fun _ => ?_) (fun _ => ?_))
      all_goals first | rfl | (exfalso; omega) | (rw [if_pos (by assumption)]) | (rw [if_neg (by omega)])
    · rw [if_neg hF]
      unfold Forced Excl at hF
      repeat' (refine ite_split (fun _ => ?_) (fun _ => ?_))
      all_goals first | rfl | (exfalso; omega)
end
end Go.Proofs.Ytkjegegjkeeemaa.Ev
