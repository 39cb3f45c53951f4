/- The fourth law: plain law. -/
import Derived.Test.YtkjegegjkeeemaaPH
set_option linter.all false
namespace Go.Proofs.Ytkjegegjkeeemaa.Ev
open Go
set_option maxRecDepth 100000
section
variable (f g : Nat → O) (m t p x : Int)
theorem codeX_cases (o : O) : codeX o = 18 ∨ codeX o = 22 := by unfold codeX; split <;> simp
theorem judge_congr : ∀ (d i : Nat), (∀ k, i ≤ k → k < i + d → f k = g k) → judge f m t p x i d = judge g m t p x i d
  | 0, _, _ => rfl
  | d + 1, i, h => by
    unfold judge
    rw [h i (Nat.le_refl _) (by omega), judge_congr d (i + 1) (fun k h1 h2 => h k (by omega) (by omega))]
theorem judge_vals : ∀ (d i : Nat), judge f m t p x i d = 0 ∨ judge f m t p x i d = 18 ∨ judge f m t p x i d = 22
  | 0, _ => .inl rfl
  | d + 1, i => by
    unfold judge
    split
    · exact .inr (codeX_cases _)
    · exact judge_vals d (i + 1)
theorem judge_snoc : ∀ (d i : Nat), judge f m t p x i (d + 1) = if judge f m t p x i d = 0 then judge f m t p x (i + d) 1 else judge f m t p x i d
  | 0, i => by simp [judge]
  | d + 1, i => by
    rw [judge]
    conv => rhs; rw [judge]
    by_cases h : Forced (f i) m ∧ Excl (f i) t p x
    · rw [if_pos h, if_pos h, if_neg (by rcases codeX_cases (f i) with h | h <;> rw [h] <;> decide)]
    · rw [if_neg h, if_neg h, judge_snoc d (i + 1), show i + 1 + d = i + (d + 1) by omega]
theorem judge_shift (i : Nat) : judge f m t p x i 1 = judge (fun _ => f i) m t p x 0 1 := by simp [judge]
theorem valid_congr {n : Nat} (h : ∀ k, k < n → f k = g k) : Valid n f ↔ Valid n g := by
  unfold Valid
  exact ⟨fun ⟨a, b⟩ => ⟨a, fun k hk => h k hk ▸ b k hk⟩, fun ⟨a, b⟩ => ⟨a, fun k hk => (h k hk).symm ▸ b k hk⟩⟩
theorem jdg_congr {n : Nat} (h : ∀ k, k < n → f k = g k) : jdg n f t p x m = jdg n g t p x m := by
  unfold jdg
  rw [yes_congr (and_congr (valid_congr f g h) Iff.rfl), judge_congr f g m t p x n 0 (fun k _ hk => h k (by omega))]
theorem jdg_yes {n : Nat} (h : Valid n f ∧ Mom m ∧ Cand t p x) : jdg n f t p x m = judge f m t p x 0 n := by
  unfold jdg; rw [yes_true h]; rfl
theorem jdg_no {n : Nat} (h : ¬(Valid n f ∧ Mom m ∧ Cand t p x)) : jdg n f t p x m = 1 := by
  unfold jdg; rw [yes_false h]; rfl
theorem jdg_one {n : Nat} : jdg n f t p x m = 1 ↔ ¬(Valid n f ∧ Mom m ∧ Cand t p x) := by
  by_cases h : Valid n f ∧ Mom m ∧ Cand t p x
  · rw [jdg_yes f m t p x h]
    rcases judge_vals f m t p x n 0 with e | e | e <;> rw [e] <;> simp [h]
  · rw [jdg_no f m t p x h]; simp [h]
theorem valid_one {o : O} : Valid 1 (fun _ => o) ↔ Good o := ⟨fun h => h.2 0 (by omega), fun h => ⟨by omega, fun _ _ => h⟩⟩
theorem valid_snoc {n : Nat} : Valid (n + 1) f ↔ n + 1 ≤ 100 ∧ Valid n f ∧ Good (f n) := by
  unfold Valid
  constructor
  · rintro ⟨a, b⟩; exact ⟨a, ⟨by omega, fun k hk => b k (by omega)⟩, b n (by omega)⟩
  · rintro ⟨a, b, c⟩
    refine ⟨a, fun k hk => ?_⟩
    by_cases e : k = n
    · subst e; exact c
    · exact b.2 k (by omega)

theorem tail6_true {R : Type} (K : AV → Option R) (n : Nat) (o : O) (h : Nat → O) (hf : ∀ k, k < n → h k = f k) (ho : h n = o) :
    tail6 K n (jdg n f t p x m) (jdg 1 (fun _ => o) t p x m) (jdg (n + 1) h t p x m) = K (.bool true) := by
  have ea : jdg n h t p x m = jdg n f t p x m := jdg_congr h f m t p x hf
  rw [← ea]
  have e1 := jdg_one h m t p x (n := n)
  have e2 := jdg_one (fun _ => o) m t p x (n := 1)
  have e3 := jdg_one h m t p x (n := n + 1)
  rw [valid_one] at e2
  rw [valid_snoc, ho] at e3
  unfold tail6
  simp only [eqI_dec, leI_iff, bif_not, bif_dec]
  by_cases h1 : jdg n h t p x m = 1
  · have h1' := e1.1 h1
    have : jdg (n + 1) h t p x m = 1 := e3.2 fun hh => h1' ⟨hh.1.2.1, hh.2⟩
    rw [if_pos h1, this]; rfl
  · rw [if_neg h1]
    have v1 : Valid n h ∧ Mom m ∧ Cand t p x := Classical.not_not.1 fun hh => h1 (e1.2 hh)
    by_cases h2 : jdg 1 (fun _ => o) t p x m = 1
    · have h2' := e2.1 h2
      have : jdg (n + 1) h t p x m = 1 := e3.2 fun hh => h2' ⟨hh.1.2.2, hh.2⟩
      rw [if_pos h2, this]; rfl
    · rw [if_neg h2]
      have v2 : Good o ∧ Mom m ∧ Cand t p x := Classical.not_not.1 fun hh => h2 (e2.2 hh)
      by_cases h3 : jdg (n + 1) h t p x m = 1
      · rw [if_pos h3]
        have h3' := e3.1 h3
        have : (100 : Int) ≤ n := by
          by_cases hn : n + 1 ≤ 100
          · exact absurd ⟨⟨hn, v1.1, v2.1⟩, v1.2⟩ h3'
          · omega
        rw [decide_eq_true this]
      · rw [if_neg h3]
        have v3 := Classical.not_not.1 fun hh => h3 (e3.2 hh)
        have v3' : Valid (n + 1) h ∧ Mom m ∧ Cand t p x := ⟨(valid_snoc h).2 (by rw [ho]; exact v3.1), v3.2⟩
        rw [jdg_yes h m t p x v1, jdg_yes h m t p x v3', jdg_yes (fun _ => o) m t p x ⟨valid_one.2 v2.1, v2.2⟩]
        rw [judge_snoc h m t p x n 0, Nat.zero_add, judge_shift h m t p x n, ho]
        by_cases hz : judge h m t p x 0 n = 0
        · rw [if_pos hz, if_pos hz]; simp
        · rw [if_neg hz, if_neg hz]; simp
end
section
variable {R : Type} (K : AV → Option R) (n : Nat) (f : Nat → O) (o : O) (t p x m : Int)
theorem law6 (L : Nat) : callK (tabS s2) L 8 true (.fn 6 []) [.arr 7 n (rowO f) none, o.av, .int .i64 t, .int .i64 p, .int .i64 x, .int .i64 m] [] (fun v _ => K v) = K (.bool true) := by
  rw [en6]
  refine few_eq fun hn => ?_
  rw [isV_true, cond_true]
  have ha : jdg 1 (aloneF o) t p x m = jdg 1 (fun _ => o) t p x m := jdg_congr _ _ m t p x fun k hk => by
    have : k = 0 := by omega
    subst this; rfl
  rw [ha]
  cases n with
  | zero =>
    have : Nat.beq 0 0 = true := rfl
    rw [this, cond_true]
    exact tail6_true f m t p x K 0 o _ (fun k hk => by omega) rfl
  | succ n =>
    have hb : Nat.beq (n + 1) 0 = false := rfl
    have hcap : capOk 0 (n + 1) 56 = true := by unfold capOk; rw [Nat.ble_eq]; omega
    have hcap2 : (Nat.beq 35 35 && Nat.beq (0 + (n + 1)) (0 + (n + 1)) && Nat.blt 0 (0 + (n + 1)) && capOk (0 + (n + 1)) 1 56) = true := by
      have h1 : capOk (0 + (n + 1)) 1 56 = true := by unfold capOk; rw [Nat.ble_eq]; omega
      have h2 : Nat.blt 0 (0 + (n + 1)) = true := by rw [Nat.blt_eq]; omega
      simp only [h1, h2, Nat.beq_refl, Bool.and_true]
    have at' : ∀ k, pushG (n + 1) f o k = bif Nat.beq k (0 + (n + 1)) then o.av else joinG 0 emptyG (n + 1) (rowO f) k := fun _ => rfl
    have low : ∀ k, k < n + 1 → pushG (n + 1) f o k = rowO f k := by
      intro k hk
      have e1 : Nat.beq k (0 + (n + 1)) = false := by
        cases h : Nat.beq k (0 + (n + 1)) with
        | false => rfl
        | true => have := Nat.eq_of_beq_eq_true h; omega
      rw [at', e1, cond_false]
      unfold joinG
      cases h : Nat.beq (n + 1) 1 with
      | false =>
        have e2 : Nat.blt k 0 = false := by cases k <;> rfl
        rw [cond_false, e2, cond_false, Nat.sub_zero]
      | true =>
        have := Nat.eq_of_beq_eq_true h
        have hk0 : k = 0 := by omega
        subst hk0; rfl
    have top : pushG (n + 1) f o (n + 1) = o.av := by rw [at', Nat.zero_add, Nat.beq_refl]; rfl
    have hall : allR isO (pushG (n + 1) f o) (0 + (n + 1) + 1) = true := allR_iff.2 fun i hi => by
      by_cases hi' : i = n + 1
      · subst hi'; rw [top]; rfl
      · rw [low i (by omega)]; rfl
    rw [hb, cond_false, hcap, cond_true, hcap2, cond_true, hall, cond_true, Nat.zero_add]
    exact tail6_true f m t p x K (n + 1) o _ (fun k hk => by show toO (pushG (n + 1) f o k) = _; rw [low k hk]; rfl) (by show toO (pushG (n + 1) f o (n + 1)) = o; rw [top]; rfl)
end
end Go.Proofs.Ytkjegegjkeeemaa.Ev
