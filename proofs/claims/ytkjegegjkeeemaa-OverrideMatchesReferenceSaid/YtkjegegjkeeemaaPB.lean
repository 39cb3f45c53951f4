/- Valid, twice; two lists of ints compared: the loops, whole. -/
import Derived.Test.YtkjegegjkeeemaaPA
set_option linter.all false
namespace Go.Proofs.Ytkjegegjkeeemaa.Ev
open Go

section
variable {R : Type} (K : AV → Option R) (L n m : Nat) (f : Nat → O) (x y : Nat → Int)

theorem loop15 : ∀ (d j i : Nat), 101 - i ≤ d → d < j → i ≤ 101 → i ≤ n → L15q0 (envS no L 3) (pK K) 0 j (S15q0 [.arr 7 n (rowO f) none, .int .i64 i] []) = K (.bool (yes (n ≤ 100 ∧ ∀ k, i ≤ k → k < n → Good (f k)))) := by
  intro d
  induction d with
  | zero =>
    intro j i h1 h2 h3 h4
    obtain ⟨j, rfl⟩ : ∃ k, j = Nat.succ k := ⟨j - 1, by omega⟩
    rw [round15 K L n f i j (by omega), if_neg (by omega)]
    congr 2
    by_cases h : n ≤ 100
    · omega
    · rw [yes_false (fun h' => h h'.1)]; exact decide_eq_false (by omega)
  | succ d ih =>
    intro j i h1 h2 h3 h4
    obtain ⟨j, rfl⟩ : ∃ k, j = Nat.succ k := ⟨j - 1, by omega⟩
    rw [round15 K L n f i j (by omega)]
    by_cases hc : i < n ∧ i < 101
    · rw [if_pos (by omega)]
      have hi : ((i : Int)).toNat = i := by simp
      rw [hi]
      by_cases hg : Good (f i)
      · rw [if_pos hg, wr64 (by omega) (by omega)]
        have := ih j (i + 1) (by omega) (by omega) (by omega) (by omega)
        rw [show ((i : Int) + 1) = ((i + 1 : Nat) : Int) by omega, this]
        congr 2
        refine yes_congr ⟨fun h => ⟨h.1, fun k hk hn => ?_⟩, fun h => ⟨h.1, fun k hk hn => h.2 k (by omega) hn⟩⟩
        by_cases e : k = i
        · subst e; exact hg
        · exact h.2 k (by omega) hn
      · rw [if_neg hg]
        congr 2
        exact (yes_false (fun h => hg (h.2 i (Nat.le_refl _) hc.1))).symm
    · rw [if_neg (by omega)]
      congr 2
      by_cases h : n ≤ 100
      · rw [yes_true ⟨h, fun k hk hn => by omega⟩]; exact decide_eq_true (by omega)
      · rw [yes_false (fun h' => h h'.1)]; exact decide_eq_false (by omega)

theorem loop14 (hn : n ≤ 100) : ∀ (d j i : Nat), n - i ≤ d → d < j → i ≤ n → L14q0 (envS no L 3) (pK K) 0 j (S14q0 [.arr 7 n (rowO f) none, .int .i64 n, .int .i64 i] []) = K (.bool (yes (∀ k, i ≤ k → k < n → Good (f k)))) := by
  intro d
  induction d with
  | zero =>
    intro j i h1 h2 h3
    obtain ⟨j, rfl⟩ : ∃ k, j = Nat.succ k := ⟨j - 1, by omega⟩
    rw [round14 K L n f i j (by omega), if_neg (by omega), yes_true (fun k hk hn => by omega)]
  | succ d ih =>
    intro j i h1 h2 h3
    obtain ⟨j, rfl⟩ : ∃ k, j = Nat.succ k := ⟨j - 1, by omega⟩
    rw [round14 K L n f i j (by omega)]
    by_cases hc : i < n
    · rw [if_pos (by omega)]
      have hi : ((i : Int)).toNat = i := by simp
      rw [hi]
      by_cases hg : Good (f i)
      · rw [if_pos hg, wr64 (by omega) (by omega)]
        have := ih j (i + 1) (by omega) (by omega) (by omega)
        rw [show ((i : Int) + 1) = ((i + 1 : Nat) : Int) by omega, this]
        congr 2
        refine yes_congr ⟨fun h k hk hn => ?_, fun h k hk hn => h k (by omega) hn⟩
        by_cases e : k = i
        · subst e; exact hg
        · exact h k (by omega) hn
      · rw [if_neg hg]
        congr 2
        exact (yes_false (fun h => hg (h i (Nat.le_refl _) hc))).symm
    · rw [if_neg (by omega), yes_true (fun k hk hn => by omega)]

/-- A list of overrides that can stand. -/
def Valid (n : Nat) (f : Nat → O) : Prop := n ≤ 100 ∧ ∀ k, k < n → Good (f k)
theorem call15 : callK (tabS no) 102 4 true (.fn 15 []) [.arr 7 n (rowO f) none] [] (fun v _ => K v) = K (.bool (yes (Valid n f))) := by
  rw [en15]
  have := loop15 K 102 n f 101 102 0 (by omega) (by omega) (by omega) (by omega)
  refine this.trans ?_
  congr 2
  exact yes_congr ⟨fun h => ⟨h.1, fun k hk => h.2 k (by omega) hk⟩, fun h => ⟨h.1, fun k _ hk => h.2 k hk⟩⟩
theorem call14 : callK (tabS no) 102 4 true (.fn 14 []) [.arr 7 n (rowO f) none] [] (fun v _ => K v) = K (.bool (yes (Valid n f))) := by
  rw [en14]
  simp only [leI_iff, bif_not, bif_dec]
  by_cases hn : n ≤ 100
  · rw [if_pos (by omega)]
    have := loop14 K 102 n f hn 100 102 0 (by omega) (by omega) (by omega)
    refine this.trans ?_
    congr 2
    exact yes_congr ⟨fun h => ⟨hn, fun k hk => h k (by omega) hk⟩, fun h k _ hk => h.2 k hk⟩
  · rw [if_neg (by omega)]
    congr 2
    exact (yes_false (fun h => hn h.1)).symm

theorem round16 (i : Int) (j : Nat) (h0 : 0 ≤ i) (hnm : n = m) : L16q0 (envS no L 3) (pK K) 0 (Nat.succ j) (S16q0 [.arr 1 n (rowI x) none, .arr 1 m (rowI y) none, .int .i64 i] []) =
    if i < n then (if x i.toNat = y i.toNat then L16q0 (envS no L 3) (pK K) 0 j (S16q0 [.arr 1 n (rowI x) none, .arr 1 m (rowI y) none, .int .i64 (wr .i64 (i + 1))] []) else K (.bool false)) else K (.bool true) := by
  rw [it16]
  generalize hX : L16q0 (envS no L 3) (pK K) 0 j (S16q0 [.arr 1 n (rowI x) none, .arr 1 m (rowI y) none, .int .i64 (wr .i64 (i + 1))] []) = X
  generalize x i.toNat = a
  generalize y i.toNat = b
  simp only [leI_iff, eqI_dec, bif_not, bif_and, bif_dec]
  refine split_ite (fun hc => split_ite (fun hg => ?_) (fun hg => ?_)) (fun hc => ?_)
  all_goals repeat' (refine ite_split (fun _ => ?_) (fun _ => ?_))
  all_goals first | rfl | (exfalso; omega)
theorem loop16 (hnm : n = m) (hn : n ≤ 1000) : ∀ (d j i : Nat), n - i ≤ d → d < j → i ≤ n → L16q0 (envS no L 3) (pK K) 0 j (S16q0 [.arr 1 n (rowI x) none, .arr 1 m (rowI y) none, .int .i64 i] []) = K (.bool (yes (∀ k, i ≤ k → k < n → x k = y k))) := by
  intro d
  induction d with
  | zero =>
    intro j i h1 h2 h3
    obtain ⟨j, rfl⟩ : ∃ k, j = Nat.succ k := ⟨j - 1, by omega⟩
    rw [round16 K L n m x y i j (by omega) hnm, if_neg (by omega), yes_true (fun k hk hn => by omega)]
  | succ d ih =>
    intro j i h1 h2 h3
    obtain ⟨j, rfl⟩ : ∃ k, j = Nat.succ k := ⟨j - 1, by omega⟩
    rw [round16 K L n m x y i j (by omega) hnm]
    by_cases hc : i < n
    · rw [if_pos (by omega)]
      have hi : ((i : Int)).toNat = i := by simp
      rw [hi]
      by_cases hg : x i = y i
      · rw [if_pos hg, wr64 (by omega) (by omega)]
        have := ih j (i + 1) (by omega) (by omega) (by omega)
        rw [show ((i : Int) + 1) = ((i + 1 : Nat) : Int) by omega, this]
        congr 2
        refine yes_congr ⟨fun h k hk hn => ?_, fun h k hk hn => h k (by omega) hn⟩
        by_cases e : k = i
        · subst e; exact hg
        · exact h k (by omega) hn
      · rw [if_neg hg]
        congr 2
        exact (yes_false (fun h => hg (h i (Nat.le_refl _) hc))).symm
    · rw [if_neg (by omega), yes_true (fun k hk hn => by omega)]
theorem call16 (hn : n ≤ 1000) : callK (tabS no) 1002 4 true (.fn 16 []) [.arr 1 n (rowI x) none, .arr 1 m (rowI y) none] [] (fun v _ => K v) = K (.bool (yes (n = m ∧ ∀ k, k < n → x k = y k))) := by
  rw [en16]
  simp only [eqI_dec, bif_not, bif_dec]
  by_cases hnm : n = m
  · rw [if_pos (by omega)]
    have := loop16 K 1002 n m x y hnm hn 1000 1002 0 (by omega) (by omega) (by omega)
    refine this.trans ?_
    congr 2
    exact yes_congr ⟨fun h => ⟨hnm, fun k hk => h k (by omega) hk⟩, fun h k _ hk => h.2 k hk⟩
  · rw [if_neg (by omega)]
    congr 2
    exact (yes_false (fun h => hnm h.1)).symm
end
end Go.Proofs.Ytkjegegjkeeemaa.Ev
