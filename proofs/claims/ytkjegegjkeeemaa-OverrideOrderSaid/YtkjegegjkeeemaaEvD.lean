/- Trees, owned blocks, memory: what holds after a block is laid, a cell is written. -/
import Derived.Test.YtkjegegjkeeemaaEvB
import Derived.Test.YtkjegegjkeeemaaEvC
import Derived.Below
import Derived.WalkKit
set_option linter.all false
namespace Go.Proofs.Ytkjegegjkeeemaa.Ev
open Go

/-! ### Trees -/
theorem Tr.get_nil_tree (p : Pth) : Tr.nil.get p = .undef := by
  induction p with
  | nil => rfl
  | cons b p ih => cases b <;> exact ih
theorem Tr.set_nil_tree (p : Pth) (v : AV) : Tr.nil.set p v = .nil := by
  cases p with
  | nil => rfl
  | cons b p => cases b <;> rfl
theorem Tr.get_cons (t : Tr) (b : Bool) (p : Pth) : t.get (b :: p) = (t.kid b).get p := rfl
theorem Tr.get_root (t : Tr) : t.get [] = t.root := rfl
theorem Tr.set_same (p : Pth) : ∀ (t : Tr) (v : AV), (t.set p v).get p = v ∨ (t.set p v).get p = .undef := by
  induction p with
  | nil => intro t v; cases t <;> simp [Tr.set, Tr.get, Tr.mkRoot, Tr.root]
  | cons b p ih =>
    intro t v
    cases t with
    | nil => right; rw [Tr.set_nil_tree]; exact Tr.get_nil_tree _
    | node x l r => cases b <;> exact ih _ v
theorem Tr.set_other (p : Pth) : ∀ (t : Tr) (v : AV) (q : Pth), p ≠ q → (t.set p v).get q = t.get q := by
  induction p with
  | nil =>
    intro t v q hq
    cases q with
    | nil => exact absurd rfl hq
    | cons b q => cases t <;> cases b <;> rfl
  | cons b p ih =>
    intro t v q hq
    cases t with
    | nil => rw [Tr.set_nil_tree]
    | node x l r =>
      cases q with
      | nil => cases b <;> rfl
      | cons c q =>
        have hpq : b = c → p ≠ q := fun e h => hq (by rw [e, h])
        cases b <;> cases c <;> first | rfl | exact ih _ v q (hpq rfl)
theorem Tr.set_get (p : Pth) : ∀ (t : Tr), t.set p (t.get p) = t := by
  induction p with
  | nil => intro t; cases t <;> rfl
  | cons b p ih =>
    intro t
    cases t with
    | nil => exact Tr.set_nil_tree _ _
    | node x l r =>
      cases b
      · show Tr.node x (l.set p (l.get p)) r = _; rw [ih]
      · show Tr.node x l (r.set p (r.get p)) = _; rw [ih]
theorem slot_inj : ∀ (p q : Pth), slot p = slot q → p = q
  | [], [], _ => rfl
  | [], b :: q, h => by cases b <;> simp [slot] at h
  | b :: p, [], h => by cases b <;> simp [slot] at h
  | b :: p, c :: q, h => by
    have ih := slot_inj p q
    cases b <;> cases c <;> simp only [slot] at h
    · rw [ih (by omega)]
    · omega
    · omega
    · rw [ih (by omega)]
theorem Tr.get_full (v : AV) : ∀ (d : Nat) (p : Pth), (Tr.full v d).get p = v ∨ (Tr.full v d).get p = .undef
  | 0, p => .inr (Tr.get_nil_tree p)
  | d + 1, [] => .inl rfl
  | d + 1, b :: p => by cases b <;> exact Tr.get_full v d p

theorem leI_iff (a b : Int) : leI a b = decide (a ≤ b) := by
  cases a <;> cases b <;> simp only [leI] <;> rw [Bool.eq_iff_iff] <;> simp <;> omega
theorem eqI_iff (a b : Int) : eqI a b = (a == b) := by
  cases a <;> cases b <;> simp only [eqI] <;> rw [Bool.eq_iff_iff] <;> simp <;> exact ⟨fun h => by omega, fun h => by omega⟩

theorem wr_eq (k : IntKind) (n : Int) : wr k n = k.wrap n := by
  unfold wr
  split
  · by_cases h : minI ≤ n ∧ n ≤ maxI
    · rw [leI_iff, leI_iff, decide_eq_true h.1, decide_eq_true h.2]
      exact (IntWalk.i64_in n (by simpa only [minI, maxI] using h)).symm
    · have : (decide (minI ≤ n) && decide (n ≤ maxI)) = false := by simpa using h
      rw [leI_iff, leI_iff, this]; rfl
  · rfl

/-! ### The temporaries -/
def TR (β : Bt) (w : World) (t : Tr) (tmps : Array Value) : Prop := ∀ p, slot p < tmps.size → VR β w (t.get p) (tmps.getD (slot p) undef)
theorem VR_undef (β : Bt) (w : World) (v : Value) : VR β w .undef v := by simp [VR]
theorem TR.ext {β β' : Bt} {w w' : World} {t : Tr} {tmps : Array Value} (h : TR β w t tmps) (e : Ext β w β' w') : TR β' w' t tmps := fun p hp => VR.ext e _ _ (h p hp)
theorem TR.set {β : Bt} {w : World} {t : Tr} {tmps : Array Value} (h : TR β w t tmps) (p : Pth) {v : AV} {x : Value} (hv : VR β w v x) :
    TR β w (t.set p v) (tmps.setIfInBounds (slot p) x) := by
  intro q hq
  simp only [Array.size_setIfInBounds] at hq
  by_cases e : p = q
  · subst e
    have : (tmps.setIfInBounds (slot p) x).getD (slot p) undef = x := by
      simp [Array.getD_eq_getD_getElem?, Array.getElem?_setIfInBounds_self_of_lt hq]
    rw [this]
    rcases Tr.set_same p t v with h | h
    · rw [h]; exact hv
    · rw [h]; exact VR_undef _ _ _
  · rw [Tr.set_other p t v q e]
    have hne : slot p ≠ slot q := fun h => e (slot_inj _ _ h)
    have : (tmps.setIfInBounds (slot p) x).getD (slot q) undef = tmps.getD (slot q) undef := by
      simp [Array.getD_eq_getD_getElem?, Array.getElem?_setIfInBounds_ne hne]
    rw [this]; exact h q hq
theorem TR.forget {β : Bt} {w : World} {t : Tr} {tmps : Array Value} (h : TR β w t tmps) (p : Pth) {v : AV} (hv : VR β w v (tmps.getD (slot p) undef)) :
    TR β w (t.set p v) tmps := by
  intro q hq
  by_cases e : p = q
  · subst e
    rcases Tr.set_same p t v with h | h
    · rw [h]; exact hv
    · rw [h]; exact VR_undef _ _ _
  · rw [Tr.set_other p t v q e]; exact h q hq
theorem okT_iff {N i : Nat} {p : Pth} : okT N i p = true ↔ slot p = i ∧ i < N := by simp [okT]

/-! ### Constants, operands -/
theorem eqB_iff {a b : Bool} : eqB a b = true ↔ a = b := by cases a <;> cases b <;> simp [eqB]
theorem repC_sound {β : Bt} {w : World} {v : Value} {a : AV} (h : repC v a = true) : VR β w a v := by
  unfold repC at h
  split at h <;> simp_all [VR, eqB_iff]
theorem repL_sound {β : Bt} {w : World} : ∀ {vs : List Value} {as : List AV}, repL vs as = true → VRs β w as vs
  | [], [], _ => by simp [VRs]
  | [], _ :: _, h => by simp [repL] at h
  | _ :: _, [], h => by simp [repL] at h
  | v :: vs, a :: as, h => by
    simp only [repL, Bool.and_eq_true] at h
    simp only [VRs]
    exact ⟨v, vs, rfl, repC_sound h.1, repL_sound h.2⟩
theorem repV_sound {β : Bt} {w : World} {v : Value} {a : AV} (h : repV v a = true) : VR β w a v := by
  unfold repV at h
  split at h
  · rename_i cs as
    simp only [VR]
    exact ⟨cs, rfl, repL_sound h⟩
  · exact repC_sound h
theorem opd_sound {β : Bt} {w : World} {t : Tr} {a : Act} (ht : TR β w t a.tmps) {x : Operand} {y : Opd} (h : okOpd a.tmps.size x y = true) : VR β w (opnd t y) (a.eval x) := by
  unfold okOpd at h
  split at h
  · rename_i i p
    obtain ⟨h1, h2⟩ := okT_iff.1 h
    subst h1
    exact ht p h2
  · exact repV_sound h
  · rename_i f g
    have : f = g := by simpa using h
    subst this
    simp [opnd, VR, Act.eval, VRs]
  · cases h
theorem opds_sound {β : Bt} {w : World} {t : Tr} {a : Act} (ht : TR β w t a.tmps) : ∀ {xs : List Operand} {ys : List Opd}, okOpds a.tmps.size xs ys = true → VRs β w (ys.map (opnd t)) (xs.map a.eval)
  | [], [], _ => by simp [VRs]
  | [], _ :: _, h => by simp [okOpds] at h
  | _ :: _, [], h => by simp [okOpds] at h
  | x :: xs, y :: ys, h => by
    simp only [okOpds, Bool.and_eq_true] at h
    simp only [List.map_cons, VRs]
    exact ⟨_, _, rfl, opd_sound ht h.1, opds_sound ht h.2⟩

/-! ### Lists of values -/
theorem VRs.length {β : Bt} {w : World} : ∀ {cs : List AV} {l : List Value}, VRs β w cs l → l.length = cs.length
  | [], l, h => by simp [VRs] at h; simp [h]
  | c :: cs, l, h => by
    simp only [VRs] at h
    obtain ⟨x, xs, rfl, _, h2⟩ := h
    simp [VRs.length h2]
theorem VRs.get {β : Bt} {w : World} : ∀ {cs : List AV} {l : List Value}, VRs β w cs l → ∀ (i : Nat) (c : AV), cs[i]? = some c → ∃ x, l[i]? = some x ∧ VR β w c x
  | [], l, _, i, c, hi => by simp at hi
  | c :: cs, l, h, i, c', hi => by
    simp only [VRs] at h
    obtain ⟨x, xs, rfl, h1, h2⟩ := h
    cases i with
    | zero => simp at hi; subst hi; exact ⟨x, rfl, h1⟩
    | succ i => simp at hi; obtain ⟨y, e, hy⟩ := VRs.get h2 i c' hi; exact ⟨y, by simpa using e, hy⟩
theorem VRs.drop {β : Bt} {w : World} : ∀ (n : Nat) {cs : List AV} {l : List Value}, VRs β w cs l → VRs β w (cs.drop n) (l.drop n)
  | 0, _, _, h => by simpa using h
  | n + 1, [], l, h => by simp [VRs] at h; subst h; simp [VRs]
  | n + 1, c :: cs, l, h => by
    simp only [VRs] at h
    obtain ⟨x, xs, rfl, _, h2⟩ := h
    simpa using VRs.drop n h2
theorem VRs.take {β : Bt} {w : World} : ∀ (n : Nat) {cs : List AV} {l : List Value}, VRs β w cs l → VRs β w (cs.take n) (l.take n)
  | 0, _, _, h => by simp [VRs]
  | n + 1, [], l, h => by simp [VRs] at h; subst h; simp [VRs]
  | n + 1, c :: cs, l, h => by
    simp only [VRs] at h
    obtain ⟨x, xs, rfl, h1, h2⟩ := h
    simp only [List.take_succ_cons, VRs]
    exact ⟨_, _, rfl, h1, VRs.take n h2⟩
theorem VRs.append {β : Bt} {w : World} : ∀ {cs : List AV} {l : List Value} {cs' : List AV} {l' : List Value}, VRs β w cs l → VRs β w cs' l' → VRs β w (cs ++ cs') (l ++ l')
  | [], l, _, _, h, k => by simp [VRs] at h; subst h; simpa using k
  | c :: cs, l, _, _, h, k => by
    simp only [VRs] at h
    obtain ⟨x, xs, rfl, h1, h2⟩ := h
    simp only [List.cons_append, VRs]
    exact ⟨_, _, rfl, h1, VRs.append h2 k⟩
/-! ### Lists of still values -/
theorem SRs.length {β : Bt} {w : World} : ∀ {cs : List AV} {l : List Value}, SRs β w cs l → l.length = cs.length
  | [], l, h => by simp [SRs] at h; simp [h]
  | c :: cs, l, h => by
    simp only [SRs] at h
    obtain ⟨x, xs, rfl, _, h2⟩ := h
    simp [SRs.length h2]
theorem SRs.get {β : Bt} {w : World} : ∀ {cs : List AV} {l : List Value}, SRs β w cs l → ∀ (i : Nat) (c : AV), cs[i]? = some c → ∃ x, l[i]? = some x ∧ SR β w c x
  | [], l, _, i, c, hi => by simp at hi
  | c :: cs, l, h, i, c', hi => by
    simp only [SRs] at h
    obtain ⟨x, xs, rfl, h1, h2⟩ := h
    cases i with
    | zero => simp at hi; subst hi; exact ⟨x, rfl, h1⟩
    | succ i => simp at hi; obtain ⟨y, e, hy⟩ := SRs.get h2 i c' hi; exact ⟨y, by simpa using e, hy⟩
theorem SRs.drop {β : Bt} {w : World} : ∀ (n : Nat) {cs : List AV} {l : List Value}, SRs β w cs l → SRs β w (cs.drop n) (l.drop n)
  | 0, _, _, h => by simpa using h
  | n + 1, [], l, h => by simp [SRs] at h; subst h; simp [SRs]
  | n + 1, c :: cs, l, h => by
    simp only [SRs] at h
    obtain ⟨x, xs, rfl, _, h2⟩ := h
    simpa using SRs.drop n h2
theorem SRs.take {β : Bt} {w : World} : ∀ (n : Nat) {cs : List AV} {l : List Value}, SRs β w cs l → SRs β w (cs.take n) (l.take n)
  | 0, _, _, h => by simp [SRs]
  | n + 1, [], l, h => by simp [SRs] at h; subst h; simp [SRs]
  | n + 1, c :: cs, l, h => by
    simp only [SRs] at h
    obtain ⟨x, xs, rfl, h1, h2⟩ := h
    simp only [List.take_succ_cons, SRs]
    exact ⟨_, _, rfl, h1, SRs.take n h2⟩
theorem SRs.append {β : Bt} {w : World} : ∀ {cs : List AV} {l : List Value} {cs' : List AV} {l' : List Value}, SRs β w cs l → SRs β w cs' l' → SRs β w (cs ++ cs') (l ++ l')
  | [], l, _, _, h, k => by simp [SRs] at h; subst h; simpa using k
  | c :: cs, l, _, _, h, k => by
    simp only [SRs] at h
    obtain ⟨x, xs, rfl, h1, h2⟩ := h
    simp only [List.cons_append, SRs]
    exact ⟨_, _, rfl, h1, SRs.append h2 k⟩
theorem VRs.set {β : Bt} {w : World} : ∀ (i : Nat) {cs : List AV} {l : List Value} {c : AV} {x : Value}, VRs β w cs l → VR β w c x → VRs β w (cs.set i c) (l.set i x)
  | _, [], l, _, _, h, _ => by simp [VRs] at h; subst h; simp [VRs]
  | 0, c :: cs, l, c', x', h, k => by
    simp only [VRs] at h
    obtain ⟨x, xs, rfl, _, h2⟩ := h
    simp only [List.set_cons_zero, VRs]
    exact ⟨_, _, rfl, k, h2⟩
  | i + 1, c :: cs, l, c', x', h, k => by
    simp only [VRs] at h
    obtain ⟨x, xs, rfl, h1, h2⟩ := h
    simp only [List.set_cons_succ, VRs]
    exact ⟨_, _, rfl, h1, VRs.set i h2 k⟩
def spliceV : List Value → Nat → List Value → List Value
  | cs, _, [] => cs
  | cs, o, v :: vs => spliceV (cs.set o v) (o + 1) vs
theorem VRs.splice {β : Bt} {w : World} : ∀ {vs : List AV} {xs : List Value} (o : Nat) {cs : List AV} {l : List Value}, VRs β w cs l → VRs β w vs xs → VRs β w (splice cs o vs) (spliceV l o xs)
  | [], xs, o, cs, l, h, k => by simp [VRs] at k; subst k; simpa [Ev.splice, spliceV] using h
  | v :: vs, xs, o, cs, l, h, k => by
    simp only [VRs] at k
    obtain ⟨y, ys, rfl, k1, k2⟩ := k
    exact VRs.splice (o + 1) (VRs.set o h k1) k2
theorem spliceV_length : ∀ (vs : List Value) (o : Nat) (l : List Value), (spliceV l o vs).length = l.length
  | [], _, _ => rfl
  | v :: vs, o, l => by simp [spliceV, spliceV_length vs]
theorem splice_length : ∀ (vs : List AV) (o : Nat) (l : List AV), (splice l o vs).length = l.length
  | [], _, _ => rfl
  | v :: vs, o, l => by simp [splice, splice_length vs]
/-- The cells of a value. -/
theorem VR.cells {β : Bt} {w : World} {v : AV} {x : Value} (h : VR β w v x) (hs : v.cells.all isScalar = true) : VRs β w v.cells x.cells.toList ∧ ∀ y ∈ x.cells.toList, y.oneCell' = true := by
  have one : ∀ (v : AV) (x : Value), isScalar v = true → VR β w v x → x.oneCell' = true ∧ x.cells = #[x] := by
    intro v x hv h
    cases v <;> simp only [isScalar] at hv <;> simp only [VR] at h <;> first
      | (subst h; exact ⟨rfl, rfl⟩)
      | (exfalso; revert hv; decide)
      | (obtain ⟨_, _, rfl⟩ := h; exact ⟨rfl, rfl⟩)
      | (obtain ⟨_, _, _, rfl, _⟩ := h; exact ⟨rfl, rfl⟩)
      | (obtain ⟨_, _, rfl, _⟩ := h; exact ⟨rfl, rfl⟩)
      | (obtain ⟨_, rfl, _⟩ := h; exact ⟨rfl, rfl⟩)
      | (simp only [SR] at h; obtain ⟨_, _, _, rfl, _⟩ := h; exact ⟨rfl, rfl⟩)
      | (obtain ⟨h, _⟩ := h; simp only [SR] at h; obtain ⟨_, _, _, rfl, _⟩ := h; exact ⟨rfl, rfl⟩)
  cases hv : v with
  | agg cs =>
    subst hv
    simp only [VR] at h
    obtain ⟨cs', rfl, h⟩ := h
    refine ⟨h, ?_⟩
    simp only [AV.cells] at hs
    have : ∀ (cs : List AV) (l : List Value), cs.all isScalar = true → VRs β w cs l → ∀ y ∈ l, y.oneCell' = true := by
      intro cs
      induction cs with
      | nil => intro l _ h y hy; simp [VRs] at h; subst h; simp at hy
      | cons c cs ih =>
        intro l hs h y hy
        simp only [VRs] at h
        obtain ⟨x, xs, rfl, h1, h2⟩ := h
        simp only [List.all_cons, Bool.and_eq_true] at hs
        rcases List.mem_cons.1 hy with rfl | hy
        · exact (one c _ hs.1 h1).1
        · exact ih xs hs.2 h2 y hy
    exact this cs _ hs h
  | _ =>
    subst hv
    simp only [AV.cells, List.all_cons, List.all_nil, Bool.and_true] at hs ⊢
    obtain ⟨h1, h2⟩ := one _ _ hs h
    rw [h2]
    refine ⟨by simp only [VRs]; exact ⟨x, [], rfl, h, rfl⟩, fun y hy => ?_⟩
    simp at hy; subst hy; exact h1
/-- The cells of a still value. -/
theorem SR.cells {β : Bt} {w : World} {v : AV} {x : Value} (h : SR β w v x) (hs : v.cells.all isScalar = true) : SRs β w v.cells x.cells.toList ∧ ∀ y ∈ x.cells.toList, y.oneCell' = true := by
  have one : ∀ (v : AV) (x : Value), isScalar v = true → SR β w v x → x.oneCell' = true ∧ x.cells = #[x] := by
    intro v x hv h
    cases v <;> simp only [isScalar] at hv <;> simp only [SR] at h <;> first
      | (subst h; exact ⟨rfl, rfl⟩)
      | (exfalso; revert hv; decide)
      | exact h.elim
      | (obtain ⟨_, rfl⟩ := h; exact ⟨rfl, rfl⟩)
      | (obtain ⟨_, _, _, rfl, _⟩ := h; exact ⟨rfl, rfl⟩)
      | (obtain ⟨_, _, rfl⟩ := h; exact ⟨rfl, rfl⟩)
      | (obtain ⟨_, _, _, rfl, _⟩ := h; exact ⟨rfl, rfl⟩)
      | (obtain ⟨_, _, rfl, _⟩ := h; exact ⟨rfl, rfl⟩)
      | (obtain ⟨_, rfl, _⟩ := h; exact ⟨rfl, rfl⟩)
  cases hv : v with
  | agg cs =>
    subst hv
    simp only [SR] at h
    obtain ⟨cs', rfl, h⟩ := h
    refine ⟨h, ?_⟩
    simp only [AV.cells] at hs
    have : ∀ (cs : List AV) (l : List Value), cs.all isScalar = true → SRs β w cs l → ∀ y ∈ l, y.oneCell' = true := by
      intro cs
      induction cs with
      | nil => intro l _ h y hy; simp [SRs] at h; subst h; simp at hy
      | cons c cs ih =>
        intro l hs h y hy
        simp only [SRs] at h
        obtain ⟨x, xs, rfl, h1, h2⟩ := h
        simp only [List.all_cons, Bool.and_eq_true] at hs
        rcases List.mem_cons.1 hy with rfl | hy
        · exact (one c _ hs.1 h1).1
        · exact ih xs hs.2 h2 y hy
    exact this cs _ hs h
  | _ =>
    subst hv
    simp only [AV.cells, List.all_cons, List.all_nil, Bool.and_true] at hs ⊢
    obtain ⟨h1, h2⟩ := one _ _ hs h
    rw [h2]
    refine ⟨by simp only [SRs]; exact ⟨x, [], rfl, h, rfl⟩, fun y hy => ?_⟩
    simp at hy; subst hy; exact h1
end Go.Proofs.Ytkjegegjkeeemaa.Ev
