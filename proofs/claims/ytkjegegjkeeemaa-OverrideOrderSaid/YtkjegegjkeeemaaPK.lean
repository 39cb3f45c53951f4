/- The second, the third and the fifth law: plain laws. -/
import Derived.Test.YtkjegegjkeeemaaPJ
set_option linter.all false
namespace Go.Proofs.Ytkjegegjkeeemaa.Ev
open Go
theorem lt_of_yes {a b : Int} (h : a ≤ b) : leI a b = true := by rw [leI_iff]; exact decide_eq_true h
theorem lt_of_no {a b : Int} (h : ¬a ≤ b) : leI a b = false := by rw [leI_iff]; exact decide_eq_false h
theorem eqI_no {a b : Int} (h : a ≠ b) : eqI a b = false := by rw [eqI_dec]; exact decide_eq_false h
section
variable (f g : Nat → O) (m t p x : Int)
def jl : List Int → Int
  | [] => 0
  | v :: vs => if Excl (f v.toNat) t p x then codeX (f v.toNat) else jl vs
def sl : List Int → Bool
  | [] => false
  | v :: vs => if (f v.toNat).kd = 4 ∧ (f v.toNat).tel = t then true else sl vs
theorem judge_jl : ∀ (d i : Nat), judge f m t p x i d = jl f t p x (acts f m i d)
  | 0, _ => rfl
  | d + 1, i => by
    unfold judge acts
    by_cases h : Forced (f i) m
    · rw [if_pos h, jl, judge_jl d (i + 1)]
      simp [h]
    · rw [if_neg h, if_neg (fun hh => h hh.1), judge_jl d (i + 1)]
theorem stuckB_sl : ∀ (d i : Nat), stuckB f m t i d = sl f t (acts f m i d)
  | 0, _ => rfl
  | d + 1, i => by
    unfold stuckB acts
    by_cases h : Forced (f i) m
    · rw [if_pos h, sl, stuckB_sl d (i + 1)]
      simp [h]
    · rw [if_neg h, if_neg (fun hh => h hh.1), stuckB_sl d (i + 1)]
theorem acts_mem : ∀ (d i : Nat) (v : Int), v ∈ acts f m i d → (i : Int) ≤ v ∧ v < ((i + d : Nat) : Int)
  | 0, _, v, h => by cases h
  | d + 1, i, v, h => by
    unfold acts at h
    split at h
    · rcases List.mem_cons.1 h with rfl | h
      · omega
      · have := acts_mem d (i + 1) v h; omega
    · have := acts_mem d (i + 1) v h; omega
theorem acts_congr : ∀ (d i : Nat), (∀ k, i ≤ k → k < i + d → f k = g k) → acts f m i d = acts g m i d
  | 0, _, _ => rfl
  | d + 1, i, h => by
    unfold acts
    rw [h i (Nat.le_refl _) (by omega), acts_congr d (i + 1) (fun k h1 h2 => h k (by omega) (by omega))]
theorem acts_snoc : ∀ (d i : Nat), acts f m i (d + 1) = acts f m i d ++ (if Forced (f (i + d)) m then [((i + d : Nat) : Int)] else [])
  | 0, i => by simp [acts]
  | d + 1, i => by
    rw [acts]
    conv => rhs; rw [acts]
    rw [acts_snoc d (i + 1), show i + 1 + d = i + (d + 1) by omega]
    split <;> simp
theorem judge_zero : ∀ (d i : Nat), judge f m t p x i d = 0 ↔ ∀ k, i ≤ k → k < i + d → ¬(Forced (f k) m ∧ Excl (f k) t p x)
  | 0, i => by simp only [judge, true_iff]; intro k h1 h2; omega
  | d + 1, i => by
    unfold judge
    by_cases h : Forced (f i) m ∧ Excl (f i) t p x
    · rw [if_pos h]
      constructor
      · intro hh; rcases codeX_cases (f i) with e | e <;> rw [e] at hh <;> cases hh
      · intro hh; exact absurd h (hh i (Nat.le_refl _) (by omega))
    · rw [if_neg h, judge_zero d (i + 1)]
      constructor
      · intro hh k h1 h2
        by_cases e : k = i
        · subst e; exact h
        · exact hh k (by omega) (by omega)
      · intro hh k h1 h2; exact hh k (by omega) (by omega)
theorem stuckB_iff : ∀ (d i : Nat), stuckB f m t i d = true ↔ ∃ k, i ≤ k ∧ k < i + d ∧ Forced (f k) m ∧ (f k).kd = 4 ∧ (f k).tel = t
  | 0, i => by simp only [stuckB, Bool.false_eq_true, false_iff]; rintro ⟨k, h1, h2, _⟩; omega
  | d + 1, i => by
    unfold stuckB
    by_cases h : Forced (f i) m ∧ (f i).kd = 4 ∧ (f i).tel = t
    · rw [if_pos h]; exact ⟨fun _ => ⟨i, Nat.le_refl _, by omega, h⟩, fun _ => rfl⟩
    · rw [if_neg h, stuckB_iff d (i + 1)]
      constructor
      · rintro ⟨k, h1, h2, h3⟩; exact ⟨k, by omega, by omega, h3⟩
      · rintro ⟨k, h1, h2, h3⟩
        by_cases e : k = i
        · subst e; exact absurd h3 h
        · exact ⟨k, by omega, by omega, h3⟩
theorem listI_get {xs : List Int} {k : Nat} (h : k < xs.length) : listI xs k = xs[k] := by unfold listI; simp [List.getD, List.getElem?_eq_getElem h]
theorem list_eq {xs ys : List Int} (h1 : xs.length = ys.length) (h2 : ∀ q, q < xs.length → listI xs q = listI ys q) : xs = ys := by
  refine List.ext_getElem h1 fun q a b => ?_
  have := h2 q a
  rwa [listI_get a, listI_get b] at this
theorem actL_yes {n : Nat} (h : Valid n f ∧ Mom m) : actL n f m = acts f m 0 n := by unfold actL; rw [yes_true h]; rfl
theorem errA_yes {n : Nat} (h : Valid n f ∧ Mom m) : errA n f m = 0 := by unfold errA; rw [yes_true h]; rfl
theorem errA_no {n : Nat} (h : ¬(Valid n f ∧ Mom m)) : errA n f m = 1 := by unfold errA; rw [yes_false h]; rfl
theorem errS_yes {n : Nat} (h : Valid n f ∧ Mom m ∧ Tel t) : errS n f t m = 0 := by unfold errS; rw [yes_true h]; rfl
theorem errS_no {n : Nat} (h : ¬(Valid n f ∧ Mom m ∧ Tel t)) : errS n f t m = 1 := by unfold errS; rw [yes_false h]; rfl
theorem stk_yes {n : Nat} (h : Valid n f ∧ Mom m ∧ Tel t) : stk n f t m = stuckB f m t 0 n := by unfold stk; rw [yes_true h]; rfl
theorem stk_no {n : Nat} (h : ¬(Valid n f ∧ Mom m ∧ Tel t)) : stk n f t m = false := by unfold stk; rw [yes_false h]; rfl
end

/-- One override more, as it is made: what comes of it. -/
theorem endPush {α : Type} {n : Nat} (hn : n ≤ 102) (f : Nat → O) (o : O) (T : Nat → (Nat → O) → α) (z : α) : ∃ h : Nat → O, (∀ k, k < n → h k = f k) ∧ h n = o ∧
    (bif Nat.beq n 0 then T (0 + 1) (rO (pushG0 o)) else (bif capOk 0 n 56 then (bif Nat.beq 35 35 && Nat.beq (0 + n) (0 + n) && Nat.blt 0 (0 + n) && capOk (0 + n) 1 56 then (bif allR isO (pushG n f o) (0 + n + 1) then T (0 + n + 1) (rO (pushG n f o)) else z) else z) else z)) = T (n + 1) h := by
  cases n with
  | zero => exact ⟨rO (pushG0 o), fun k hk => by omega, rfl, rfl⟩
  | succ n =>
    have hb : Nat.beq (n + 1) 0 = false := rfl
    have hcap : capOk 0 (n + 1) 56 = true := by unfold capOk; rw [Nat.ble_eq]; omega
    have hcap2 : (Nat.beq 35 35 && Nat.beq (0 + (n + 1)) (0 + (n + 1)) && Nat.blt 0 (0 + (n + 1)) && capOk (0 + (n + 1)) 1 56) = true := by
      have h1 : capOk (0 + (n + 1)) 1 56 = true := by unfold capOk; rw [Nat.ble_eq]; omega
      have h2 : Nat.blt 0 (0 + (n + 1)) = true := by rw [Nat.blt_eq]; omega
      simp only [h1, h2, Nat.beq_refl, Bool.and_true]
    have at' : ∀ k, pushG (n + 1) f o k = bif Nat.beq k (0 + (n + 1)) then o.av else joinG 0 emptyG (n + 1) (rowO f) k := fun _ => rfl
    have low : ∀ k, k < n + 1 → pushG (n + 1) f o k = rowO f k := by
      intro k hk
      have e1 : Nat.beq k (0 + (n + 1)) = false := by
        cases h : Nat.beq k (0 + (n + 1)) with
        | false => rfl
        | true => have := Nat.eq_of_beq_eq_true h; omega
      rw [at', e1, cond_false]
      unfold joinG
      cases h : Nat.beq (n + 1) 1 with
      | false =>
        have e2 : Nat.blt k 0 = false := by cases k <;> rfl
        rw [cond_false, e2, cond_false, Nat.sub_zero]
      | true =>
        have := Nat.eq_of_beq_eq_true h
        have hk0 : k = 0 := by omega
        subst hk0; rfl
    have top : pushG (n + 1) f o (n + 1) = o.av := by rw [at', Nat.zero_add, Nat.beq_refl]; rfl
    have hall : allR isO (pushG (n + 1) f o) (0 + (n + 1) + 1) = true := allR_iff.2 fun i hi => by
      by_cases hi' : i = n + 1
      · subst hi'; rw [top]; rfl
      · rw [low i (by omega)]; rfl
    refine ⟨rO (pushG (n + 1) f o), fun k hk => ?_, ?_, ?_⟩
    · show toO (pushG (n + 1) f o k) = _; rw [low k hk]; rfl
    · show toO (pushG (n + 1) f o (n + 1)) = o; rw [top]; rfl
    · rw [hb, cond_false, hcap, cond_true, hcap2, cond_true, hall, cond_true, Nat.zero_add]

section
variable {R : Type} (K : AV → Option R) (n : Nat) (f : Nat → O) (o : O) (t p x m k : Int)
theorem tail4_true (hv : Valid n f ∧ Mom m) (h : Nat → O) (hf : ∀ k, k < n → h k = f k) (ho : h n = o) :
    tail4 K (acts f m 0 n).length (listI (acts f m 0 n)) o m (acts f m 0 n).length (n + 1) h = K (.bool true) := by
  unfold tail4
  rw [eqI_refl, cond_true]
  by_cases he : Valid (n + 1) h ∧ Mom m
  · rw [errA_yes h m he, actL_yes h m he]
    show (bif leI o.kn m then _ else _) = _
    by_cases hk : o.kn ≤ m
    · rw [lt_of_yes hk]; rfl
    · rw [lt_of_no hk, cond_false]
      have hlen := actsLen f m n 0
      have hle : Nat.ble (acts f m 0 n).length 1000 = true := by rw [Nat.ble_eq]; have := hv.1.1; omega
      rw [allR_I', allR_I', hle]
      have heq : acts h m 0 (n + 1) = acts f m 0 n := by
        rw [acts_snoc, Nat.zero_add, ho, if_neg (fun hF => hk hF.2.1), List.append_nil]
        exact acts_congr h f m n 0 (fun k _ hk' => hf k (by omega))
      rw [heq, yes_true ⟨rfl, fun _ _ => rfl⟩]; rfl
  · rw [errA_no h m he]; rfl

theorem loop4 (L : Nat) (hv : Valid n f ∧ Mom m) : ∀ (d j i : Nat) (pre : List Int), n - i = d → d < j → i ≤ n → acts f m 0 n = pre ++ acts f m i d →
    X4 K L n (acts f m 0 n).length f (listI (acts f m 0 n)) o m pre.length i j = K (.bool true) := by
  intro d
  induction d with
  | zero =>
    intro j i pre h1 h2 h3 h4
    obtain ⟨j, rfl⟩ : ∃ k, j = Nat.succ k := ⟨j - 1, by omega⟩
    rw [it4, lt_of_yes (show (n : Int) ≤ i by omega)]
    rw [acts, List.append_nil] at h4
    obtain ⟨h, e1, e2, e3⟩ := endPush (n := n) (by have := hv.1.1; omega) f o (fun N g => tail4 K (acts f m 0 n).length (listI (acts f m 0 n)) o m pre.length N g) none
    refine e3.trans ?_
    have : (pre.length : Int) = ((acts f m 0 n).length : Nat) := by rw [h4]
    simp only [this]
    exact tail4_true K n f o m hv h e1 e2
  | succ d ih =>
    intro j i pre h1 h2 h3 h4
    obtain ⟨j, rfl⟩ : ∃ k, j = Nat.succ k := ⟨j - 1, by omega⟩
    have hn := hv.1.1
    have hi : ((i : Int)).toNat = i := by simp
    have hk : ((pre.length : Int)).toNat = pre.length := by simp
    have hpre : pre.length ≤ n := by
      have := actsLen f m n 0
      rw [h4, List.length_append] at this
      omega
    rw [it4, lt_of_no (show ¬(n : Int) ≤ i by omega), lt_of_yes (show (0 : Int) ≤ i by omega), hi, hk, wrNext (n := n) (by omega) h3]
    simp only [Bool.not_false, cond_true, Bool.and_true, leI_iff, bif_not, bif_and, bif_dec, eqI_dec]
    by_cases hF : Forced (f i) m
    · have hF' := hF
      unfold Forced at hF'
      rw [acts, if_pos hF] at h4
      have hlt : pre.length < (acts f m 0 n).length := by rw [h4]; simp
      have hget : listI (acts f m 0 n) pre.length = i := by
        rw [listI_get hlt]
        simp [h4]
      rw [if_pos hF'.1, if_pos hF'.2.1, if_pos hF'.2.2, if_neg (by omega), if_pos (by omega), if_neg (by omega), if_pos hget, wrNext (n := n) (by omega) hpre]
      have := ih j (i + 1) (pre ++ [(i : Int)]) (by omega) (by omega) (by omega) (by rw [h4]; simp)
      rw [List.length_append] at this
      exact this
    · rw [acts, if_neg hF] at h4
      have := ih j (i + 1) pre (by omega) (by omega) (by omega) h4
      unfold Forced at hF
      repeat' (refine ite_split (fun _ => ?_) (fun _ => ?_))
      all_goals first | exact this | (exfalso; omega)

theorem law4 : callK (tabS s2) 104 8 true (.fn 4 []) [.arr 7 n (rowO f) none, o.av, .int .i64 m] [] (fun v _ => K v) = K (.bool true) := by
  rw [en4]
  refine few_eq fun hn => ?_
  rw [isV_true, cond_true]
  by_cases hv : Valid n f ∧ Mom m
  · rw [errA_yes f m hv, actL_yes f m hv]
    exact loop4 K n f o m 104 hv n 104 0 [] (by omega) (by omega) (by omega) (by simp)
  · rw [errA_no f m hv]
    have hl : actL n f m = [] := by unfold actL; rw [yes_false hv]; rfl
    rw [hl]
    show (bif !yes (Valid n f) then _ else _) = _
    by_cases h1 : Valid n f
    · rw [yes_true h1]
      simp only [Bool.not_true, cond_false, leI_iff, bif_not, bif_dec]
      have h2 : ¬(0 ≤ m ∧ m ≤ 38399) := fun h => hv ⟨h1, h⟩
      by_cases h3 : 0 ≤ m
      · rw [if_pos h3, decide_eq_false (fun h => h2 ⟨h3, h⟩)]; rfl
      · rw [if_neg h3]
    · rw [yes_false h1]; rfl

theorem excl2_eq {α : Type} (A B : α) : excl2 o t p x A B = if Excl o t p x then A else B := by
  unfold excl2 Excl
  simp only [eqI_dec, bif_dec]
  refine split_ite (fun h => ?_) (fun h => ?_)
  all_goals repeat' (refine ite_split (fun _ => ?_) (fun _ => ?_))
  all_goals first | rfl | (exfalso; omega)
theorem loop5 (L : Nat) (hn : n ≤ 102) (xs : List Int) (hx : ∀ v ∈ xs, 0 ≤ v ∧ v < (n : Int)) (hxl : xs.length ≤ 102) (g : Int) (st : Bool) : ∀ (r j : Nat), r < j → r ≤ xs.length →
    X5 K L n xs.length f (listI xs) t p x g st (jl f t p x (xs.drop r)) (sl f t (xs.drop r)) ((r : Int) - 1) j = bif eqI g (jl f t p x xs) then K (.bool (st == sl f t xs)) else K (.bool false) := by
  intro r
  induction r with
  | zero =>
    intro j h1 h2
    obtain ⟨j, rfl⟩ : ∃ k, j = Nat.succ k := ⟨j - 1, by omega⟩
    rw [it5, lt_of_no (by omega)]; rfl
  | succ r ih =>
    intro j h1 h2
    obtain ⟨j, rfl⟩ : ∃ k, j = Nat.succ k := ⟨j - 1, by omega⟩
    have e1 : (((r + 1 : Nat) : Int) - 1) = (r : Int) := by omega
    have hr : ((r : Int)).toNat = r := by simp
    have hlt : r < xs.length := by omega
    obtain ⟨v0, v1⟩ := hx xs[r] (List.getElem_mem hlt)
    have hdrop : xs.drop r = xs[r] :: xs.drop (r + 1) := List.drop_eq_getElem_cons hlt
    have := ih j (by omega) (by omega)
    rw [hdrop] at this
    rw [e1, it5, lt_of_yes (show (0 : Int) ≤ r by omega), lt_of_no (show ¬(xs.length : Int) ≤ r by omega), hr, listI_get hlt, lt_of_yes v0, lt_of_no (show ¬(n : Int) ≤ xs[r] by omega)]
    simp only [Bool.not_false, Bool.not_true, cond_true, cond_false, Bool.and_true]
    have hw : wr .i64 ((r : Int) - 1) = (r : Int) - 1 := wr64 (by omega) (by omega)
    have hnx : ∀ held, nx5 K L n xs.length f (listI xs) t p x g st (jl f t p x (xs.drop (r + 1))) r j (f xs[r].toNat) held = X5 K L n xs.length f (listI xs) t p x g st (jl f t p x (xs[r] :: xs.drop (r + 1))) held ((r : Int) - 1) j := by
      intro held
      unfold nx5
      rw [excl2_eq, hw, jl]
      by_cases hE : Excl (f xs[r].toNat) t p x
      · rw [if_pos hE, if_pos hE]
        unfold codeX
        rw [eqI_dec, bif_dec]
        by_cases h1 : (f xs[r].toNat).kd = 1
        · rw [if_pos h1, if_pos h1]
        · rw [if_neg h1, if_neg h1]
      · rw [if_neg hE, if_neg hE]
    simp only [hnx]
    refine Eq.trans ?_ this
    have hsl : sl f t (xs[r] :: xs.drop (r + 1)) = if (f xs[r].toNat).kd = 4 ∧ (f xs[r].toNat).tel = t then true else sl f t (xs.drop (r + 1)) := rfl
    rw [hsl]
    cases hs : sl f t (xs.drop (r + 1)) with
    | true => simp
    | false =>
      rw [cond_false, eqI_dec, bif_dec]
      by_cases h4 : (f xs[r].toNat).kd = 4
      · rw [if_pos h4, eqI_dec]
        by_cases h5 : (f xs[r].toNat).tel = t
        · rw [decide_eq_true h5, if_pos ⟨h4, h5⟩]
        · rw [decide_eq_false h5, if_neg (fun h => h5 h.2)]
      · rw [if_neg h4, if_neg (fun h => h4 h.1)]
theorem ex5_true (L : Nat) : ex5 K n f t m L = K (.bool true) := by
  unfold ex5
  by_cases h : Valid n f ∧ Mom m ∧ Tel t
  · rw [errS_yes f m t h]; rfl
  · rw [errS_no f m t h, stk_no f m t h]; rfl
theorem bad5_true (L : Nat) : bad5 K n f t p x m L = K (.bool true) := by
  unfold bad5
  rw [ex5_true]
  by_cases h : Valid n f ∧ Mom m
  · rw [errA_yes f m h]; rfl
  · rw [errA_no f m h, jdg_no f m t p x (fun hh => h ⟨hh.1, hh.2.1⟩), errS_no f m t (fun hh => h ⟨hh.1, hh.2.1⟩)]; rfl
theorem law5 : callK (tabS s2) 104 8 true (.fn 5 []) [.arr 7 n (rowO f) none, .int .i64 t, .int .i64 p, .int .i64 x, .int .i64 m] [] (fun v _ => K v) = K (.bool true) := by
  rw [en5]
  refine few_eq fun hn => ?_
  simp only [isV_true, cond_true, bad5_true]
  by_cases h : Valid n f ∧ Mom m ∧ Cand t p x
  · have h1 : Valid n f ∧ Mom m := ⟨h.1, h.2.1⟩
    have h2 : Valid n f ∧ Mom m ∧ Tel t := ⟨h.1, h.2.1, h.2.2.1⟩
    have hne : jdg n f t p x m ≠ 1 := fun e => (jdg_one f m t p x).1 e h
    rw [errA_yes f m h1, eqI_no hne, errS_yes f m t h2, actL_yes f m h1]
    show X5 K 104 n _ f _ t p x _ _ 0 false _ 104 = _
    have hl := actsLen f m n 0
    rw [wr64 (by omega) (by omega)]
    have := loop5 K n f t p x 104 hn (acts f m 0 n) (fun v hv => by have := acts_mem f m n 0 v hv; omega) (by omega) (jdg n f t p x m) (stk n f t m) (acts f m 0 n).length 104 (by omega) (Nat.le_refl _)
    rw [List.drop_length] at this
    refine this.trans ?_
    rw [jdg_yes f m t p x h, judge_jl, eqI_refl, cond_true, stk_yes f m t h2, stuckB_sl]
    simp
  · by_cases h1 : Valid n f ∧ Mom m
    · rw [errA_yes f m h1, jdg_no f m t p x h]; rfl
    · rw [errA_no f m h1]; rfl

theorem tail7_true (G : Nat → AV) (hn : n ≤ 102) (hG : ∀ q, q < n → G q = (f (n - 1 - q)).av) : tail7 K n f t p x m k n G = K (.bool true) := by
  have hall : allR isO G n = true := allR_iff.2 fun i hi => by rw [hG i hi]; rfl
  have hg : ∀ q, q < n → rO G q = f (n - 1 - q) := fun q hq => by show toO (G q) = _; rw [hG q hq]; rfl
  unfold tail7
  generalize rO G = g at hg ⊢
  have hval : Valid n g ↔ Valid n f := by
    unfold Valid
    constructor
    · rintro ⟨a, b⟩; refine ⟨a, fun q hq => ?_⟩
      have := b (n - 1 - q) (by omega)
      rwa [hg _ (by omega), show n - 1 - (n - 1 - q) = q by omega] at this
    · rintro ⟨a, b⟩; exact ⟨a, fun q hq => by rw [hg q hq]; exact b _ (by omega)⟩
  have hJ : (Valid n g ∧ Mom m ∧ Cand t p x) ↔ (Valid n f ∧ Mom m ∧ Cand t p x) := and_congr hval Iff.rfl
  have hS : (Valid n g ∧ Mom m ∧ Tel t) ↔ (Valid n f ∧ Mom m ∧ Tel t) := and_congr hval Iff.rfl
  have j1 : eqI (jdg n f t p x m) 1 = eqI (jdg n g t p x m) 1 := by
    rw [eqI_dec, eqI_dec]
    exact decide_eq_decide.2 (by rw [jdg_one, jdg_one, hJ])
  have j0 : eqI (jdg n f t p x m) 0 = eqI (jdg n g t p x m) 0 := by
    rw [eqI_dec, eqI_dec]
    refine decide_eq_decide.2 ?_
    by_cases h : Valid n f ∧ Mom m ∧ Cand t p x
    · rw [jdg_yes f m t p x h, jdg_yes g m t p x (hJ.2 h), judge_zero, judge_zero]
      constructor
      · intro hh q h1 h2; rw [hg q (by omega)]; exact hh _ (by omega) (by omega)
      · intro hh q h1 h2
        have := hh (n - 1 - q) (by omega) (by omega)
        rwa [hg _ (by omega), show n - 1 - (n - 1 - q) = q by omega] at this
    · rw [jdg_no f m t p x h, jdg_no g m t p x (fun hh => h (hJ.1 hh))]
  have hst : stk n f t m = stk n g t m := by
    by_cases h : Valid n f ∧ Mom m ∧ Tel t
    · rw [stk_yes f m t h, stk_yes g m t (hS.2 h)]
      refine Bool.eq_iff_iff.2 ?_
      rw [stuckB_iff, stuckB_iff]
      constructor
      · rintro ⟨q, h1, h2, h3⟩
        refine ⟨n - 1 - q, by omega, by omega, ?_⟩
        rw [hg _ (by omega), show n - 1 - (n - 1 - q) = q by omega]; exact h3
      · rintro ⟨q, h1, h2, h3⟩
        rw [hg q (by omega)] at h3
        exact ⟨n - 1 - q, by omega, by omega, h3⟩
    · rw [stk_no f m t h, stk_no g m t (fun hh => h (hS.1 hh))]
  have hes : errS n f t m = errS n g t m := by
    unfold errS; rw [yes_congr hS]
  rw [← j0, ← j1, ← hst, ← hes]
  simp only [isV_true, hall, cond_true, beq_self_eq_true, Bool.not_true, cond_false, eqI_refl, allR_I', Bool.true_and]
  by_cases hm : Valid n f ∧ Mom m
  · by_cases hk : Valid n f ∧ Mom k
    · rw [errA_yes f m hm, errA_yes f k hk, actL_yes f m hm, actL_yes f k hk]
      have hlen := actsLen f m n 0
      have hle : Nat.ble (acts f m 0 n).length 1000 = true := by rw [Nat.ble_eq]; omega
      rw [hle]
      by_cases he : (acts f m 0 n).length = (acts f k 0 n).length ∧ ∀ q, q < (acts f m 0 n).length → listI (acts f m 0 n) q = listI (acts f k 0 n) q
      · have heq := list_eq he.1 he.2
        rw [yes_true he]
        have e1 : jdg n f t p x k = jdg n f t p x m := by
          by_cases h : Cand t p x
          · rw [jdg_yes f k t p x ⟨hk.1, hk.2, h⟩, jdg_yes f m t p x ⟨hm.1, hm.2, h⟩, judge_jl, judge_jl, heq]
          · rw [jdg_no f k t p x (fun hh => h hh.2.2), jdg_no f m t p x (fun hh => h hh.2.2)]
        have e2 : stk n f t k = stk n f t m ∧ errS n f t k = errS n f t m := by
          by_cases h : Tel t
          · rw [stk_yes f k t ⟨hk.1, hk.2, h⟩, stk_yes f m t ⟨hm.1, hm.2, h⟩, stuckB_sl, stuckB_sl, heq, errS_yes f k t ⟨hk.1, hk.2, h⟩, errS_yes f m t ⟨hm.1, hm.2, h⟩]
            exact ⟨rfl, rfl⟩
          · rw [stk_no f k t (fun hh => h hh.2.2), stk_no f m t (fun hh => h hh.2.2), errS_no f k t (fun hh => h hh.2.2), errS_no f m t (fun hh => h hh.2.2)]
            exact ⟨rfl, rfl⟩
        rw [e1, e2.1, e2.2]
        simp [eqI_refl]
      · rw [yes_false he]; rfl
    · rw [errA_yes f m hm, errA_no f k hk]; rfl
  · rw [errA_no f m hm]; rfl
theorem loop7 (L : Nat) (hn : n ≤ 102) : ∀ (d j c : Nat) (G : Nat → AV) (z : O), c + 1 + d = n → d < j → (∀ q, q < c + 1 → G q = (f (n - 1 - q)).av) →
    X7b K L n f t p x m k ((d : Int) - 1) (Nat.succ c) G z j = K (.bool true) := by
  intro d
  induction d with
  | zero =>
    intro j c G z h1 h2 h3
    obtain ⟨j, rfl⟩ : ∃ k, j = Nat.succ k := ⟨j - 1, by omega⟩
    rw [it7b, lt_of_no (by omega), cond_false]
    have : Nat.succ c = n := by omega
    rw [this]
    exact tail7_true K n f t p x m k G hn (fun q hq => h3 q (by omega))
  | succ d ih =>
    intro j c G z h1 h2 h3
    obtain ⟨j, rfl⟩ : ∃ k, j = Nat.succ k := ⟨j - 1, by omega⟩
    have e1 : (((d + 1 : Nat) : Int) - 1) = (d : Int) := by omega
    have hd : ((d : Int)).toNat = d := by simp
    have hcap : (Nat.beq 35 35 && Nat.beq (Nat.succ c) (Nat.succ c) && Nat.blt 0 (Nat.succ c) && capOk (Nat.succ c) 1 56) = true := by
      have h1 : capOk (Nat.succ c) 1 56 = true := by unfold capOk; rw [Nat.ble_eq]; omega
      have h2 : Nat.blt 0 (Nat.succ c) = true := by rw [Nat.blt_eq]; omega
      simp only [h1, h2, Nat.beq_refl, Bool.and_true]
    rw [e1, it7b, lt_of_yes (show (0 : Int) ≤ d by omega), lt_of_no (show ¬(n : Int) ≤ d by omega), hd, hcap, wr64 (by omega) (by omega)]
    show X7b K L n f t p x m k ((d : Int) - 1) (Nat.succ (c + 1)) (joinG (Nat.succ c) G 1 (oneG (f d))) z j = _
    refine ih j (c + 1) _ z (by omega) (by omega) fun q hq => ?_
    show (bif Nat.beq q (Nat.succ c) then (f d).av else G q) = _
    cases hb : Nat.beq q (Nat.succ c) with
    | true =>
      have := Nat.eq_of_beq_eq_true hb
      rw [cond_true, show n - 1 - q = d by omega]
    | false =>
      have := Nat.ne_of_beq_eq_false hb
      rw [cond_false]; exact h3 q (by omega)
theorem law7 : callK (tabS s2) 104 8 true (.fn 7 []) [.arr 7 n (rowO f) none, .int .i64 t, .int .i64 p, .int .i64 x, .int .i64 m, .int .i64 k] [] (fun v _ => K v) = K (.bool true) := by
  rw [en7]
  refine few_eq fun hn => ?_
  rw [wr64 (by omega) (by omega)]
  show X7a K 104 n f t p x m k ((n : Int) - 1) (Nat.succ 103) = _
  rw [it7a]
  cases n with
  | zero =>
    rw [lt_of_no (by decide), cond_false]
    exact tail7_true K 0 f t p x m k _ (by omega) (fun q hq => by omega)
  | succ n =>
    have e1 : (((n + 1 : Nat) : Int) - 1) = (n : Int) := by omega
    have hd : ((n : Int)).toNat = n := by simp
    rw [e1, lt_of_yes (show (0 : Int) ≤ n by omega), lt_of_no (show ¬((n + 1 : Nat) : Int) ≤ n by omega), hd, wr64 (by omega) (by omega)]
    refine loop7 K (n + 1) f t p x m k 104 hn n 103 0 _ (f n) (by omega) (by omega) fun q hq => ?_
    have : q = 0 := by omega
    subst this; rfl
end
end Go.Proofs.Ytkjegegjkeeemaa.Ev
