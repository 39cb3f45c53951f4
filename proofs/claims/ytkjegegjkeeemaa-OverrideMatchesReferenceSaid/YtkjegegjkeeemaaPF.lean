/- Active, Stuck, Judge and their references, whole; summaries of a row of overrides with whole numbers. -/
import Derived.Test.YtkjegegjkeeemaaPE
set_option linter.all false
namespace Go.Proofs.Ytkjegegjkeeemaa.Ev
open Go

section
variable {R : Type} (K : AV → Option R) (n : Nat) (f : Nat → O) (m t p x : Int)
noncomputable def ansA (n : Nat) (f : Nat → O) (m : Int) : AV := bif yes (Valid n f ∧ Mom m) then .tup [outA (acts f m 0 n), .int .i64 0] else .tup [.nilSl none, .int .i64 1]
noncomputable def ansS (n : Nat) (f : Nat → O) (t m : Int) : AV := bif yes (Valid n f ∧ Mom m ∧ Tel t) then .tup [.bool (stuckB f m t 0 n), .int .i64 0] else .tup [.bool false, .int .i64 1]
noncomputable def ansJ (n : Nat) (f : Nat → O) (t p x m : Int) : AV := bif yes (Valid n f ∧ Mom m ∧ Cand t p x) then .int .i64 (judge f m t p x 0 n) else .int .i64 1

theorem loop11 (hn : n ≤ 100) : ∀ (d j i : Nat) (xs : List Int) (z : Int), n - i = d → d < j → i ≤ n → xs.length ≤ i →
    L11q0 (envS s1 102 5) (pK K) 0 j (match xs with | [] => s11 n f m i (.nilSl none) [] | y :: ys => s11 n f m i (.arr 1 (Nat.succ ys.length) (rowL (y :: ys)) (some 1)) (M11 (Nat.succ ys.length) z)) = K (.tup [outA (xs ++ acts f m i d), .int .i64 0]) := by
  intro d
  induction d with
  | zero =>
    intro j i xs z h1 h2 h3 h4
    obtain ⟨j, rfl⟩ : ∃ k, j = Nat.succ k := ⟨j - 1, by omega⟩
    have hle : leI (n : Int) i = true := by rw [leI_iff]; exact decide_eq_true (by omega)
    cases xs with
    | nil => show L11q0 (envS s1 102 5) (pK K) 0 (Nat.succ j) (s11 n f m i (.nilSl none) []) = _; rw [it11a, hle]; rfl
    | cons y ys => show L11q0 (envS s1 102 5) (pK K) 0 (Nat.succ j) (s11 n f m i (.arr 1 (Nat.succ ys.length) (rowL (y :: ys)) (some 1)) (M11 (Nat.succ ys.length) z)) = _; rw [it11b, hle, acts, List.append_nil]; rfl
  | succ d ih =>
    intro j i xs z h1 h2 h3 h4
    obtain ⟨j, rfl⟩ : ∃ k, j = Nat.succ k := ⟨j - 1, by omega⟩
    have hle : leI (n : Int) i = false := by rw [leI_iff]; exact decide_eq_false (by omega)
    have hle0 : leI 0 (i : Int) = true := by rw [leI_iff]; exact decide_eq_true (by omega)
    have hi : ((i : Int)).toNat = i := by simp
    have hR : ∀ {α : Type} (o : O) (a b : α), inR o m a b = if Forced o m then a else b := by
      intro α o a b
      unfold inR Forced
      simp only [leI_iff, bif_dec]
      refine split_ite (fun h => ?_) (fun h => ?_)
      all_goals repeat' (refine ite_split (fun _ => ?_) (fun _ => ?_))
      all_goals first | rfl | (exfalso; omega)
    cases xs with
    | nil =>
      show L11q0 (envS s1 102 5) (pK K) 0 (Nat.succ j) (s11 n f m i (.nilSl none) []) = _
      rw [it11a, hle, hle0, hi, wrNext (n := n) (by omega) h3, rowL_first, hR]
      by_cases hF : Forced (f i) m
      · rw [if_pos hF, acts, if_pos hF]
        exact ih j (i + 1) [(i : Int)] i (by omega) (by omega) (by omega) (by simp)
      · rw [if_neg hF, acts, if_neg hF]
        exact ih j (i + 1) [] z (by omega) (by omega) (by omega) (by simp)
    | cons y ys =>
      show L11q0 (envS s1 102 5) (pK K) 0 (Nat.succ j) (s11 n f m i (.arr 1 (Nat.succ ys.length) (rowL (y :: ys)) (some 1)) (M11 (Nat.succ ys.length) z)) = _
      rw [it11b, hle, hle0, hi, wrNext (n := n) (by omega) h3, hR]
      by_cases hF : Forced (f i) m
      · rw [if_pos hF, acts, if_pos hF]
        have hcap : (Nat.beq 3 3 && Nat.beq (Nat.succ ys.length) (Nat.succ ys.length) && Nat.blt 0 (Nat.succ ys.length) && capOk (Nat.succ ys.length) 1 8) = true := by
          simp only [List.length_cons] at h4
          have hc : capOk (Nat.succ ys.length) 1 8 = true := by unfold capOk; rw [Nat.ble_eq]; omega
          have hb : Nat.blt 0 (Nat.succ ys.length) = true := by rw [Nat.blt_eq]; omega
          rw [hc, hb, Nat.beq_refl (Nat.succ ys.length)]; rfl
        rw [hcap]
        have := ih j (i + 1) (y :: ys ++ [(i : Int)]) z (by omega) (by omega) (by omega) (by simp at h4 ⊢; omega)
        rw [List.append_assoc] at this
        refine Eq.trans ?_ this
        have hr := rowL_push (y :: ys) (i : Int)
        simp only [List.length_cons] at hr
        show L11q0 (envS s1 102 5) (pK K) 0 j (s11 n f m ((i + 1 : Nat) : Int) (.arr 1 (Nat.succ ys.length + 1) (joinG (Nat.succ ys.length) (rowL (y :: ys)) 1 (one i)) (some 1)) (M11 (Nat.succ ys.length + 1) z)) = _
        rw [hr]
        show _ = L11q0 (envS s1 102 5) (pK K) 0 j (s11 n f m ((i + 1 : Nat) : Int) (.arr 1 (Nat.succ (ys ++ [(i : Int)]).length) (rowL (y :: (ys ++ [(i : Int)]))) (some 1)) (M11 (Nat.succ (ys ++ [(i : Int)]).length) z))
        have hl : Nat.succ (ys ++ [(i : Int)]).length = Nat.succ ys.length + 1 := by simp
        rw [hl]; rfl
      · rw [if_neg hF, acts, if_neg hF]
        exact ih j (i + 1) (y :: ys) z (by omega) (by omega) (by omega) (by simp at h4 ⊢; omega)

theorem call10 : callK (tabS s1) 102 6 true (.fn 10 []) [.arr 7 n (rowO f) none, .int .i64 m] [] (fun v _ => K v) = K (ansA n f m) := by
  rw [en10, allR_O, rO_row]
  simp only [leI_iff, bif_not, bif_dec, cond_true]
  unfold ansA Mom
  by_cases hv : Valid n f
  · by_cases hm : 0 ≤ m ∧ m ≤ 38399
    · rw [yes_true hv, yes_true ⟨hv, hm⟩, if_pos hm.1, if_neg (by omega)]
      exact loop10 K 102 n f m hv.1 n 102 0 [] ⟨0, 0, 0, 0, 0, 0, 0⟩ 0 (by omega) (by have := hv.1; omega) (by omega) (by simp)
    · rw [yes_true hv, yes_false (fun h => hm h.2)]
      show (if _ then _ else _) = _
      repeat' (refine ite_split (fun _ => ?_) (fun _ => ?_))
      all_goals first | rfl | (exfalso; omega)
  · rw [yes_false hv, yes_false (fun h => hv h.1)]; rfl
theorem call11 : callK (tabS s1) 102 6 true (.fn 11 []) [.arr 7 n (rowO f) none, .int .i64 m] [] (fun v _ => K v) = K (ansA n f m) := by
  rw [en11, allR_O, rO_row]
  simp only [leI_iff, bif_not, bif_dec, cond_true]
  unfold ansA Mom
  by_cases hv : Valid n f
  · by_cases hm : 0 ≤ m ∧ m ≤ 38399
    · rw [yes_true hv, yes_true ⟨hv, hm⟩, if_pos hm.1, if_pos hm.2]
      exact loop11 K n f m hv.1 n 102 0 [] 0 (by omega) (by have := hv.1; omega) (by omega) (by simp)
    · rw [yes_true hv, yes_false (fun h => hm h.2)]
      show (if _ then _ else _) = _
      repeat' (refine ite_split (fun _ => ?_) (fun _ => ?_))
      all_goals first | rfl | (exfalso; omega)
  · rw [yes_false hv, yes_false (fun h => hv h.1)]; rfl
theorem call12 : callK (tabS s1) 102 6 true (.fn 12 []) [.arr 7 n (rowO f) none, .int .i64 t, .int .i64 m] [] (fun v _ => K v) = K (ansS n f t m) := by
  rw [en12, allR_O, rO_row]
  simp only [leI_iff, bif_not, bif_dec, cond_true]
  unfold ansS Mom Tel
  by_cases hv : Valid n f
  · by_cases hm : (0 ≤ m ∧ m ≤ 38399) ∧ 0 ≤ t ∧ t ≤ 5
    · rw [yes_true hv, yes_true ⟨hv, hm⟩, if_pos hm.1.1, if_neg (by omega), if_pos hm.2.1, if_neg (by omega)]
      exact loop12 K 102 n f m t hv.1 n 102 0 (by omega) (by have := hv.1; omega) (by omega)
    · rw [yes_true hv, yes_false (fun h => hm h.2)]
      show (if _ then _ else _) = _
      repeat' (refine ite_split (fun _ => ?_) (fun _ => ?_))
      all_goals first | rfl | (exfalso; omega)
  · rw [yes_false hv, yes_false (fun h => hv h.1)]; rfl
theorem call13 : callK (tabS s1) 102 6 true (.fn 13 []) [.arr 7 n (rowO f) none, .int .i64 t, .int .i64 m] [] (fun v _ => K v) = K (ansS n f t m) := by
  rw [en13, allR_O, rO_row]
  simp only [leI_iff, bif_not, bif_dec, cond_true]
  unfold ansS Mom Tel
  by_cases hv : Valid n f
  · by_cases hm : (0 ≤ m ∧ m ≤ 38399) ∧ 0 ≤ t ∧ t ≤ 5
    · rw [yes_true hv, yes_true ⟨hv, hm⟩, if_pos hm.1.1, if_pos hm.1.2, if_pos hm.2.1, if_pos hm.2.2]
      exact loop13 K 102 n f m t hv.1 n 102 0 (by omega) (by have := hv.1; omega) (by omega)
    · rw [yes_true hv, yes_false (fun h => hm h.2)]
      show (if _ then _ else _) = _
      repeat' (refine ite_split (fun _ => ?_) (fun _ => ?_))
      all_goals first | rfl | (exfalso; omega)
  · rw [yes_false hv, yes_false (fun h => hv h.1)]; rfl
theorem call17 : callK (tabS s1) 102 6 true (.fn 17 []) [.arr 7 n (rowO f) none, .int .i64 t, .int .i64 p, .int .i64 x, .int .i64 m] [] (fun v _ => K v) = K (ansJ n f t p x m) := by
  rw [en17, allR_O, rO_row]
  simp only [leI_iff, bif_not, bif_dec, cond_true]
  unfold ansJ Mom Cand Tel
  by_cases hv : Valid n f
  · by_cases hm : (0 ≤ m ∧ m ≤ 38399) ∧ (0 ≤ t ∧ t ≤ 5) ∧ 0 ≤ p ∧ p ≤ 63 ∧ 0 ≤ x ∧ x ≤ 511
    · rw [yes_true hv, yes_true ⟨hv, hm⟩, if_pos hm.1.1, if_neg (by omega), if_pos (by omega), if_neg (by omega), if_pos (by omega), if_neg (by omega), if_pos (by omega), if_neg (by omega)]
      exact loop17 K 102 n f m t p x hv.1 hv.2 n 102 0 (by omega) (by have := hv.1; omega) (by omega)
    · rw [yes_true hv, yes_false (fun h => hm h.2)]
      show (if _ then _ else _) = _
      repeat' (refine ite_split (fun _ => ?_) (fun _ => ?_))
      all_goals first | rfl | (exfalso; omega)
  · rw [yes_false hv, yes_false (fun h => hv h.1)]; rfl
theorem call18 : callK (tabS s1) 102 6 true (.fn 18 []) [.arr 7 n (rowO f) none, .int .i64 t, .int .i64 p, .int .i64 x, .int .i64 m] [] (fun v _ => K v) = K (ansJ n f t p x m) := by
  rw [en18, allR_O, rO_row]
  simp only [leI_iff, bif_not, bif_dec, cond_true]
  unfold ansJ Mom Cand Tel
  by_cases hv : Valid n f
  · by_cases hm : (0 ≤ m ∧ m ≤ 38399) ∧ (0 ≤ t ∧ t ≤ 5) ∧ 0 ≤ p ∧ p ≤ 63 ∧ 0 ≤ x ∧ x ≤ 511
    · rw [yes_true hv, yes_true ⟨hv, hm⟩, if_pos hm.1.1, if_pos (by omega), if_pos (by omega), if_pos (by omega), if_pos (by omega), if_pos (by omega), if_pos (by omega), if_pos (by omega)]
      exact loop18 K 102 n f m t p x hv.1 n 102 0 (by omega) (by have := hv.1; omega) (by omega)
    · rw [yes_true hv, yes_false (fun h => hm h.2)]
      show (if _ then _ else _) = _
      repeat' (refine ite_split (fun _ => ?_) (fun _ => ?_))
      all_goals first | rfl | (exfalso; omega)
  · rw [yes_false hv, yes_false (fun h => hv h.1)]; rfl
end

/-! ### Summaries of a row of overrides and whole numbers -/
def toInts : List AV → Option (List Int)
  | [] => some []
  | .int .i64 v :: vs => match toInts vs with
    | some xs => some (v :: xs)
    | none => none
  | _ => none
theorem toInts_eq : ∀ {vs : List AV} {xs : List Int}, toInts vs = some xs → vs = xs.map (AV.int .i64)
  | [], xs, h => by cases h; rfl
  | v :: vs, xs, h => by
    unfold toInts at h
    split at h
    · rename_i e; exact absurd e (by simp)
    · rename_i e
      cases e
      split at h
      · rename_i e
        cases h
        rw [toInts_eq e]; rfl
      · cases h
    · cases h
noncomputable def sumOI (F : Nat → (Nat → O) → List Int → Option AV) : Summ := ⟨fun {R} _ vs (K : AV → Option R) => match vs with
  | a :: vs => match rowOf 7 a with
    | some (n, get) => match toInts vs with
      | some xs => bif allR isO get n then (match F n (rO get) xs with | some v => K v | none => none) else none
      | none => none
    | none => none
  | _ => none⟩
theorem know_OI {s : Sums} (hT : TabOK Try.prog (tabS s)) {g : FuncId} {L k : Nat} {F : Nat → (Nat → O) → List Int → Option AV}
    (h : ∀ (n : Nat) (f : Nat → O) (xs : List Int) (v : AV), F n f xs = some v → ∃ v0, callK (tabS s) L k true (.fn g []) (.arr 7 n (rowO f) none :: xs.map (AV.int .i64)) [] (fun v _ => some v) = some v0 ∧ ∀ β w x, SR β w v0 x → SR β w v x) : Knows g (sumOI F) := by
  refine ⟨fun R j vs K res he β w args' hv hk => ?_, fun j vs => ?_⟩
  · simp only [sumOI] at he
    split at he
    · rename_i a vs
      split at he
      · rename_i n get hr
        split at he
        · rename_i xs hx
          obtain ⟨ho, he⟩ := bif_none he
          split at he
          · rename_i v hF
            simp only [SRs] at hv
            obtain ⟨y, ys, e, hy, hys⟩ := hv
            rw [toInts_eq hx] at hys
            obtain ⟨v0, h0, hle⟩ := h n (rO get) xs v hF
            obtain ⟨g1, g2⟩ := run_go (args := .arr 7 n (rowO (rO get)) none :: xs.map (AV.int .i64)) (β := β) (w := w) (args' := args') mixed hT h0 (by
              simp only [SRs]
              exact ⟨y, ys, e, sr_O hy hr ho, hys⟩) hk
            refine ⟨g1, Calls.mono g2 fun e w' ⟨u, u', h1, h2, h3, h4⟩ => ?_⟩
            cases h2
            exact ⟨v, u', h1, he, hle _ _ _ h3, h4⟩
          · cases he
        · cases he
      · cases he
    · cases he
  · simp only [sumOI]
    split
    · split
      · split
        · refine goes_cond ?_ goes_none
          split
          · exact goes_pure _
          · exact goes_none
        · exact goes_none
      · exact goes_none
    · exact goes_none

/-- The indices in force, with none where there is an error; the error. -/
noncomputable def actL (n : Nat) (f : Nat → O) (m : Int) : List Int := bif yes (Valid n f ∧ Mom m) then acts f m 0 n else []
noncomputable def errA (n : Nat) (f : Nat → O) (m : Int) : Int := bif yes (Valid n f ∧ Mom m) then 0 else 1
noncomputable def stk (n : Nat) (f : Nat → O) (t m : Int) : Bool := bif yes (Valid n f ∧ Mom m ∧ Tel t) then stuckB f m t 0 n else false
noncomputable def errS (n : Nat) (f : Nat → O) (t m : Int) : Int := bif yes (Valid n f ∧ Mom m ∧ Tel t) then 0 else 1
noncomputable def jdg (n : Nat) (f : Nat → O) (t p x m : Int) : Int := bif yes (Valid n f ∧ Mom m ∧ Cand t p x) then judge f m t p x 0 n else 1
def listI (xs : List Int) (k : Nat) : Int := xs.getD k 0
theorem sr_list {β : Bt} {w : World} {xs : List Int} {x : Value} (h : SR β w (outA xs) x) : SR β w (.arr 1 xs.length (rowI (listI xs)) none) x := by
  cases xs with
  | nil =>
    simp only [outA, SR] at h
    simp only [SR]
    exact ⟨trivial, none, 0, h.2, Nat.le_refl _, fun i hi => by simp at hi⟩
  | cons y ys =>
    simp only [outA, SR] at h ⊢
    obtain ⟨_, base, cap, h1, h2, h3⟩ := h
    refine ⟨trivial, base, cap, h1, h2, fun i hi => ?_⟩
    have : rowI (listI (y :: ys)) i = rowL (y :: ys) i := by
      unfold rowI listI rowL
      rw [List.getElem?_eq_getElem hi]
      simp [List.getD, List.getElem?_eq_getElem hi]
    rw [this]; exact h3 i hi
theorem sr_A {β : Bt} {w : World} {n : Nat} {f : Nat → O} {m : Int} {x : Value} (h : SR β w (ansA n f m) x) : SR β w (.tup [.arr 1 (actL n f m).length (rowI (listI (actL n f m))) none, .int .i64 (errA n f m)]) x := by
  unfold ansA at h
  unfold actL errA
  generalize yes (Valid n f ∧ Mom m) = b at h ⊢
  cases b with
  | true =>
    simp only [cond_true, SR, SRs] at h ⊢
    obtain ⟨cs, h1, y, ys, h2, h3, h4⟩ := h
    have := sr_list h3
    simp only [SR] at this
    exact ⟨cs, h1, y, ys, h2, this, h4⟩
  | false =>
    simp only [cond_false, SR, SRs] at h ⊢
    obtain ⟨cs, h1, y, ys, h2, h3, h4⟩ := h
    have := sr_list (β := β) (w := w) (xs := []) (x := y) (by simp only [outA, SR]; exact h3)
    simp only [SR] at this
    exact ⟨cs, h1, y, ys, h2, this, h4⟩
theorem ansS_eq (n : Nat) (f : Nat → O) (t m : Int) : ansS n f t m = .tup [.bool (stk n f t m), .int .i64 (errS n f t m)] := by
  unfold ansS stk errS; cases yes (Valid n f ∧ Mom m ∧ Tel t) <;> rfl
theorem ansJ_eq (n : Nat) (f : Nat → O) (t p x m : Int) : ansJ n f t p x m = .int .i64 (jdg n f t p x m) := by
  unfold ansJ jdg; cases yes (Valid n f ∧ Mom m ∧ Cand t p x) <;> rfl
noncomputable def sA : Summ := sumOI fun n f xs => match xs with
  | [m] => some (.tup [.arr 1 (actL n f m).length (rowI (listI (actL n f m))) none, .int .i64 (errA n f m)])
  | _ => none
noncomputable def sS : Summ := sumOI fun n f xs => match xs with
  | [t, m] => some (.tup [.bool (stk n f t m), .int .i64 (errS n f t m)])
  | _ => none
noncomputable def sJ : Summ := sumOI fun n f xs => match xs with
  | [t, p, x, m] => some (.int .i64 (jdg n f t p x m))
  | _ => none
theorem knows_10 : Knows 10 sA := know_OI (L := 102) (k := 6) tab_s1 fun n f xs v h => by
  split at h
  · cases h; exact ⟨_, call10 some n f _, fun _ _ _ hx => sr_A hx⟩
  · cases h
theorem knows_11 : Knows 11 sA := know_OI (L := 102) (k := 6) tab_s1 fun n f xs v h => by
  split at h
  · cases h; exact ⟨_, call11 some n f _, fun _ _ _ hx => sr_A hx⟩
  · cases h
theorem knows_12 : Knows 12 sS := know_OI (L := 102) (k := 6) tab_s1 fun n f xs v h => by
  split at h
  · cases h; exact ⟨_, call12 some n f _ _, fun _ _ _ hx => (ansS_eq .. ▸ hx)⟩
  · cases h
theorem knows_13 : Knows 13 sS := know_OI (L := 102) (k := 6) tab_s1 fun n f xs v h => by
  split at h
  · cases h; exact ⟨_, call13 some n f _ _, fun _ _ _ hx => (ansS_eq .. ▸ hx)⟩
  · cases h
theorem knows_17 : Knows 17 sJ := know_OI (L := 102) (k := 6) tab_s1 fun n f xs v h => by
  split at h
  · cases h; exact ⟨_, call17 some n f _ _ _ _, fun _ _ _ hx => (ansJ_eq .. ▸ hx)⟩
  · cases h
theorem knows_18 : Knows 18 sJ := know_OI (L := 102) (k := 6) tab_s1 fun n f xs v h => by
  split at h
  · cases h; exact ⟨_, call18 some n f _ _ _ _, fun _ _ _ hx => (ansJ_eq .. ▸ hx)⟩
  · cases h
/-- The examples. -/
noncomputable def sumC (a : AV) : Summ := ⟨fun {R} _ vs (K : AV → Option R) => match vs with
  | [] => K a
  | _ => none⟩
theorem know_C {s : Sums} (hT : TabOK Try.prog (tabS s)) {g : FuncId} {L k : Nat} {a : AV}
    (h : ∀ (R : Type) (K : AV → Option R), callK (tabS s) L k true (.fn g []) [] [] (fun v _ => K v) = K a) : Knows g (sumC a) := by
  refine ⟨fun R j vs K res he β w args' hv hk => ?_, fun j vs => ?_⟩
  · simp only [sumC] at he
    split at he
    · exact run_go (args := []) mixed hT ((h R K).trans he) hv hk
    · cases he
  · simp only [sumC]
    split
    · exact goes_pure _
    · exact goes_none
set_option maxRecDepth 100000 in
theorem call8 {R : Type} (K : AV → Option R) : callK (tabS no) 5 9 true (.fn 8 []) [] [] (fun v _ => K v) = K (.bool true) := by kernel_rfl
theorem knows_8 : Knows 8 (sumC (.bool true)) := know_C tab_no fun R K => call8 K

noncomputable def s2 : Sums := add (add (add (add (add (add (add s1 10 sA) 11 sA) 12 sS) 13 sS) 17 sJ) 18 sJ) 8 (sumC (.bool true))
theorem tab_s2 : TabOK Try.prog (tabS s2) :=
  tab_add (tab_add (tab_add (tab_add (tab_add (tab_add (tab_add tab_s1 knows_10) knows_11) knows_12) knows_13) knows_17) knows_18) knows_8
end Go.Proofs.Ytkjegegjkeeemaa.Ev
