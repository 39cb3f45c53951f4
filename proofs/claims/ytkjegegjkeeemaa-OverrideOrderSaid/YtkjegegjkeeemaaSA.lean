/- What is known of a function, as its callers use it: the first three. -/
import Derived.Test.YtkjegegjkeeemaaPB
import Derived.Test.YtkjegegjkeeemaaEvK
import Derived.Test.YtkjegegjkeeemaaEvZA
set_option linter.all false
namespace Go.Proofs.Ytkjegegjkeeemaa.Ev
open Go

/-! ### Rows that are handed in -/
def rowOf (s : Nat) : AV → Option (Nat × (Nat → AV))
  | .nilSl none => some (0, fun _ => .undef)
  | .arr s' n get none => match Nat.beq s' s with
    | true => some (n, get)
    | false => none
  | _ => none
def isO : AV → Bool
  | .agg [.int .i64 _, .int .i64 _, .int .i64 _, .int .i64 _, .int .i64 _, .int .i64 _, .int .i64 _] => true
  | _ => false
def toO : AV → O
  | .agg [.int _ a, .int _ b, .int _ c, .int _ d, .int _ e, .int _ f, .int _ g] => ⟨a, b, c, d, e, f, g⟩
  | _ => ⟨0, 0, 0, 0, 0, 0, 0⟩
def isI : AV → Bool
  | .int .i64 _ => true
  | _ => false
def toI : AV → Int
  | .int _ a => a
  | _ => 0
def allR (p : AV → Bool) (get : Nat → AV) : Nat → Bool
  | 0 => true
  | n + 1 => p (get n) && allR p get n
theorem allR_iff {p : AV → Bool} {get : Nat → AV} : ∀ {n : Nat}, allR p get n = true ↔ ∀ i, i < n → p (get i) = true
  | 0 => by simp [allR]
  | n + 1 => by
    simp only [allR, Bool.and_eq_true, allR_iff (n := n)]
    constructor
    · rintro ⟨h1, h2⟩ i hi
      by_cases e : i = n
      · subst e; exact h1
      · exact h2 i (by omega)
    · intro h
      exact ⟨h n (by omega), fun i hi => h i (by omega)⟩
theorem isO_av {a : AV} (h : isO a = true) : (toO a).av = a := by
  unfold isO at h
  split at h
  · rfl
  · cases h
theorem isI_av {a : AV} (h : isI a = true) : AV.int .i64 (toI a) = a := by
  unfold isI at h
  split at h
  · rfl
  · cases h
theorem allR_O (f : Nat → O) (n : Nat) : allR isO (rowO f) n = true := allR_iff.2 fun _ _ => rfl
theorem allR_I (f : Nat → Int) (n : Nat) : allR isI (rowI f) n = true := allR_iff.2 fun _ _ => rfl
def rO (get : Nat → AV) (i : Nat) : O := toO (get i)
def rI (get : Nat → AV) (i : Nat) : Int := toI (get i)
theorem rO_row (f : Nat → O) : rO (rowO f) = f := rfl
theorem rI_row (f : Nat → Int) : rI (rowI f) = f := rfl

theorem sr_row {β : Bt} {w : World} {s n : Nat} {get g : Nat → AV} {a : AV} {v : Value} (h : SR β w a v) (hr : rowOf s a = some (n, get)) (hg : ∀ i, i < n → g i = get i) : SR β w (.arr s n g none) v := by
  unfold rowOf at hr
  split at hr
  · cases hr
    simp only [SR] at h ⊢
    exact ⟨trivial, none, 0, h.2, Nat.le_refl _, fun i hi => by omega⟩
  · split at hr
    · rename_i hs
      cases hr
      rw [Nat.beq_eq] at hs
      subst hs
      simp only [SR] at h ⊢
      obtain ⟨_, base, cap, h1, h2, h3⟩ := h
      refine ⟨trivial, base, cap, h1, h2, fun i hi => ?_⟩
      rw [hg i hi]; exact h3 i hi
    · cases hr
  · cases hr
theorem sr_O {β : Bt} {w : World} {n : Nat} {get : Nat → AV} {a : AV} {v : Value} (h : SR β w a v) (hr : rowOf 7 a = some (n, get)) (ho : allR isO get n = true) : SR β w (.arr 7 n (rowO (rO get)) none) v :=
  sr_row h hr fun i hi => isO_av (allR_iff.1 ho i hi)
theorem sr_I {β : Bt} {w : World} {n : Nat} {get : Nat → AV} {a : AV} {v : Value} (h : SR β w a v) (hr : rowOf 1 a = some (n, get)) (ho : allR isI get n = true) : SR β w (.arr 1 n (rowI (rI get)) none) v :=
  sr_row h hr fun i hi => isI_av (allR_iff.1 ho i hi)

/-! ### Tables -/
theorem tab_ok {s : Sums} (h1 : SumOK Try.prog (tabS s)) (h2 : SumLaw (tabS s)) : TabOK Try.prog (tabS s) := ⟨ok_fns, h1, h2⟩
theorem tab_no : TabOK Try.prog (tabS no) := tab_ok (fun _ _ h => by cases h) (fun _ _ h => by cases h)
/-- One summary more. -/
def add (s : Sums) (g : FuncId) (x : Summ) : Sums := fun i => match Nat.beq i g with
  | true => some x
  | false => s i
/-- A summary is true of its function; its ends are one. -/
structure Knows (g : FuncId) (x : Summ) : Prop where
  ok : ∀ (R : Type) (k : Nat) (vs : List AV) (K : AV → Option R) (res : R), x.run k vs K = some res → ∀ (β : Bt) (w : World) (args' : Array Value), SRs β.still w vs args'.toList → HR Try.prog β.still w [] →
    FnFact Try.prog g ∧ Calls Try.prog g args' w (PureTo Try.prog β w K res)
  law : ∀ (k : Nat) (vs : List AV), Goes (fun {R} (K : AV → Option R) => x.run (R := R) k vs K)
theorem tab_add {s : Sums} {g : FuncId} {x : Summ} (h : TabOK Try.prog (tabS s)) (k : Knows g x) : TabOK Try.prog (tabS (add s g x)) := by
  have get : ∀ (i : FuncId) (y : Summ), add s g x i = some y → (i = g ∧ y = x) ∨ s i = some y := by
    intro i y hi
    unfold add at hi
    split at hi
    · rename_i e
      exact .inl ⟨Nat.eq_of_beq_eq_true e, (Option.some.inj hi).symm⟩
    · exact .inr hi
  refine tab_ok (fun i y hi => ?_) (fun i y hi => ?_)
  · rcases get i y hi with ⟨rfl, rfl⟩ | hi
    · exact k.ok
    · exact h.sum i y hi
  · rcases get i y hi with ⟨rfl, rfl⟩ | hi
    · exact k.law
    · exact h.law i y hi

/-- A summary of a function of one row of overrides. -/
noncomputable def sumO (F : Nat → (Nat → O) → AV) : Summ := ⟨fun {R} _ vs (K : AV → Option R) => match vs with
  | [a] => match rowOf 7 a with
    | some (n, get) => bif allR isO get n then K (F n (rO get)) else none
    | none => none
  | _ => none⟩
theorem know_O {s : Sums} (hT : TabOK Try.prog (tabS s)) {g : FuncId} {L k : Nat} {F : Nat → (Nat → O) → AV}
    (h : ∀ (R : Type) (K : AV → Option R) (n : Nat) (f : Nat → O), callK (tabS s) L k true (.fn g []) [.arr 7 n (rowO f) none] [] (fun v _ => K v) = K (F n f)) : Knows g (sumO F) := by
  refine ⟨fun R j vs K res he β w args' hv hk => ?_, fun j vs => ?_⟩
  · simp only [sumO] at he
    split at he
    · rename_i a
      split at he
      · rename_i n get hr
        obtain ⟨ho, he⟩ := bif_none he
        have hv0 := hv
        simp only [SRs] at hv
        obtain ⟨x, xs, e, hx, hxs⟩ := hv
        have hx := sr_O hx hr ho
        refine run_go (args := [.arr 7 n (rowO (rO get)) none]) mixed hT ((h R K n (rO get)).trans he) ?_ hk
        simp only [SRs]
        exact ⟨x, xs, e, hx, hxs⟩
      · cases he
    · cases he
  · simp only [sumO]
    split
    · split
      · exact goes_cond (goes_pure _) goes_none
      · exact goes_none
    · exact goes_none

/-- A summary of a function of two rows of numbers. -/
noncomputable def sumII (M : Nat) (F : Nat → Nat → (Nat → Int) → (Nat → Int) → AV) : Summ := ⟨fun {R} _ vs (K : AV → Option R) => match vs with
  | [a, b] => match rowOf 1 a with
    | some (n, x) => match rowOf 1 b with
      | some (m, y) => bif allR isI x n && allR isI y m && Nat.ble n M then K (F n m (rI x) (rI y)) else none
      | none => none
    | none => none
  | _ => none⟩
theorem know_II {s : Sums} (hT : TabOK Try.prog (tabS s)) {g : FuncId} {L k M : Nat} {F : Nat → Nat → (Nat → Int) → (Nat → Int) → AV}
    (h : ∀ (R : Type) (K : AV → Option R) (n m : Nat) (x y : Nat → Int), n ≤ M → callK (tabS s) L k true (.fn g []) [.arr 1 n (rowI x) none, .arr 1 m (rowI y) none] [] (fun v _ => K v) = K (F n m x y)) : Knows g (sumII M F) := by
  refine ⟨fun R j vs K res he β w args' hv hk => ?_, fun j vs => ?_⟩
  · simp only [sumII] at he
    split at he
    · rename_i a b
      split at he
      · rename_i n x hra
        split at he
        · rename_i m y hrb
          obtain ⟨ho, he⟩ := bif_none he
          simp only [Bool.and_eq_true, Nat.ble_eq] at ho
          obtain ⟨⟨h1, h2⟩, h3⟩ := ho
          simp only [SRs] at hv
          obtain ⟨u, us, e, hu, u2, us2, e2, hu2, hxs⟩ := hv
          refine run_go (args := [.arr 1 n (rowI (rI x)) none, .arr 1 m (rowI (rI y)) none]) mixed hT ((h R K n m (rI x) (rI y) h3).trans he) ?_ hk
          simp only [SRs]
          exact ⟨u, us, e, sr_I hu hra h1, u2, us2, e2, sr_I hu2 hrb h2, hxs⟩
        · cases he
      · cases he
    · cases he
  · simp only [sumII]
    split
    · split
      · split
        · exact goes_cond (goes_pure _) goes_none
        · exact goes_none
      · exact goes_none
    · exact goes_none

noncomputable def sV : Summ := sumO fun n f => .bool (yes (Valid n f))
noncomputable def sE : Summ := sumII 1000 fun n m x y => .bool (yes (n = m ∧ ∀ k, k < n → x k = y k))
noncomputable def s1 : Sums := add (add (add no 14 sV) 15 sV) 16 sE
theorem tab_s1 : TabOK Try.prog (tabS s1) :=
  tab_add (tab_add (tab_add tab_no (know_O tab_no fun R K n f => call14 K n f)) (know_O tab_no fun R K n f => call15 K n f)) (know_II tab_no fun R K n m x y h => call16 K n m x y h)
end Go.Proofs.Ytkjegegjkeeemaa.Ev
