/- Values made still; rows of elements; append. -/
import Derived.Test.YtkjegegjkeeemaaEvL
set_option linter.all false
namespace Go.Proofs.Ytkjegegjkeeemaa.Ev
open Go

variable {P : Program} {β : Bt} {w : World} {h : List AO} {t : Tr} {a : Act} {o : Oper} {R : Type} {K : AV → List AO → Option R} {res : R}

def Bt.outer (β : Bt) : Bt := ⟨β.out, []⟩
theorem keeps_outer (β : Bt) (w : World) : Keeps β w β.outer w :=
  ⟨fun b off v hc hs => ⟨hc, fun x hx => hs x (mem_all.2 (.inl (by simpa [Bt.outer, Bt.all] using hx)))⟩,
   fun b _ ho => ⟨rfl, fun x hx => ho x (mem_all.2 (.inl (by simpa [Bt.outer, Bt.all] using hx)))⟩⟩

theorem mapO_sound {f : AV → Option AV} {β' : Bt} (hf : ∀ v x v', VR β w v x → f v = some v' → SR β' w v' x) : ∀ {cs : List AV} {l : List Value} {cs' : List AV}, VRs β w cs l → mapO f cs = some cs' → SRs β' w cs' l
  | [], l, cs', hv, he => by
    simp only [mapO, Option.some.injEq] at he
    subst he
    simpa [VRs, SRs] using hv
  | c :: cs, l, cs', hv, he => by
    simp only [VRs] at hv
    obtain ⟨x, xs, rfl, h1, h2⟩ := hv
    simp only [mapO] at he
    split at he
    · rename_i v vs e1 e2
      cases he
      simp only [SRs]
      exact ⟨x, xs, rfl, hf c x v h1 e1, mapO_sound hf h2 e2⟩
    · cases he

theorem purStep_sound {agg : TypeId → Bool × Nat} {ih : AV → Option AV} {β' : Bt} (kp : Keeps β w β' w) (hf : ∀ v x v', VR β w v x → ih v = some v' → SR β' w v' x)
    (hs : ∀ m o n cap x v', VR β w (.slc m o n cap) x → purSlc agg h ih m o n cap = some v' → SR β' w v' x)
    (hp : ∀ m o x v', VR β w (.ptr m o) x → purPtr h ih m o = some v' → SR β' w v' x)
    (hm : ∀ m x v', VR β w (.map m) x → purMap h ih m = some v' → SR β' w v' x) :
    ∀ v x v', VR β w v x → purStep agg h ih v = some v' → SR β' w v' x := by
  intro v x v' hv he
  cases v with
  | undef => simp [purStep] at he
  | bool b => simp only [purStep, Option.some.injEq] at he; subst he; simpa [VR, SR] using hv
  | int k n => simp only [purStep, Option.some.injEq] at he; subst he; simpa [VR, SR] using hv
  | str s => simp only [purStep, Option.some.injEq] at he; subst he; simpa [VR, SR] using hv
  | nilPtr => simp only [purStep, Option.some.injEq] at he; subst he; simpa [VR, SR] using hv
  | ptr m o => exact hp m o x v' hv (by simpa [purStep] using he)
  | pptr cs o => simp only [purStep, Option.some.injEq] at he; subst he; simp only [VR] at hv; exact SR.keeps kp _ _ hv
  | nilSl tok => simp only [purStep, Option.some.injEq] at he; subst he; simpa [VR, SR] using hv
  | arr s n g tok => simp only [purStep, Option.some.injEq] at he; subst he; simp only [VR] at hv; exact SR.keeps kp _ _ hv.1
  | slc m o n cap => exact hs m o n cap x v' hv (by simpa [purStep] using he)
  | nilMap => simp only [purStep, Option.some.injEq] at he; subst he; simpa [VR, SR] using hv
  | map m => exact hm m x v' hv (by simpa [purStep] using he)
  | pmap ks vs => simp only [purStep, Option.some.injEq] at he; subst he; simp only [VR] at hv; exact SR.keeps kp _ _ hv
  | nilFn => simp only [purStep, Option.some.injEq] at he; subst he; simpa [VR, SR] using hv
  | fn f cs =>
    simp only [purStep] at he
    split at he
    · rename_i cs' e
      cases he
      simp only [VR] at hv
      simp only [SR]
      obtain ⟨l, h1, h2⟩ := hv
      exact ⟨l, h1, mapO_sound hf h2 e⟩
    · cases he
  | yld l => simp [purStep] at he
  | nilIf => simp only [purStep, Option.some.injEq] at he; subst he; simpa [VR, SR] using hv
  | ifc t y =>
    simp only [purStep] at he
    split at he
    · rename_i y' e
      cases he
      simp only [VR] at hv
      simp only [SR]
      obtain ⟨z, h1, h2⟩ := hv
      exact ⟨z, h1, hf _ _ _ h2 e⟩
    · cases he
  | agg cs =>
    simp only [purStep] at he
    split at he
    · rename_i cs' e
      cases he
      simp only [VR] at hv
      simp only [SR]
      obtain ⟨l, h1, h2⟩ := hv
      exact ⟨l, h1, mapO_sound hf h2 e⟩
    · cases he
  | tup cs =>
    simp only [purStep] at he
    split at he
    · rename_i cs' e
      cases he
      simp only [VR] at hv
      simp only [SR]
      obtain ⟨l, h1, h2⟩ := hv
      exact ⟨l, h1, mapO_sound hf h2 e⟩
    · cases he

theorem strip_fuel {agg : TypeId → Bool × Nat} : ∀ (k : Nat) (v : AV) (x : Value) (v' : AV), VR β w v x → purify agg [] k v = some v' → SR β w v' x
  | 0, _, _, _, _, he => by simp [purify] at he
  | k + 1, v, x, v', hv, he => by
    have kp : Keeps β w β w := ⟨fun _ _ _ h1 h2 => ⟨h1, h2⟩, fun _ _ ho => ⟨rfl, ho⟩⟩
    exact purStep_sound (h := []) (agg := agg) kp (fun v x v' => strip_fuel k v x v') (fun m o n cap x v' _ e => by simp [purSlc] at e) (fun m o x v' _ e => by simp [purPtr] at e) (fun m x v' _ e => by simp [purMap] at e) v x v' hv he
theorem strip_sound {v v' : AV} {x : Value} (hv : VR β w v x) (he : strip v = some v') : SR β w v' x := strip_fuel 8 v x v' hv he

theorem cells_safe_outer (hk : HR P β w h) {n b : Nat} (hb : β.own[n]? = some (.obj b)) (off : Nat) : safe β.outer b off := by
  apply safe_of_rest
  intro x hx e
  have hx : x ∈ β.out := by simpa [Bt.outer, Bt.all] using hx
  exact hk.sep x hx _ (List.mem_of_getElem? hb) b e rfl

/-- An element of explicit cells. -/
theorem elemAt_sound {β' : Bt} {agg : Bool} {s : Nat} {cs : List AV} {l : List Value} (hv : SRs β' w cs l) (hs : agg = false → s = 1) (hsc : allB isScalar cs = true) (ho : ∀ u ∈ l, u.oneCell' = true) {n : Nat} (hl : n * s ≤ cs.length) :
    Elems β' w s n (elemAt agg s cs) (fun q => l[q]?) := by
  intro i hi
  have hlen := SRs.length hv
  have hle : i * s + s ≤ cs.length := by
    have : (i + 1) * s ≤ n * s := Nat.mul_le_mul_right s hi
    rw [Nat.add_mul, Nat.one_mul] at this; omega
  cases agg with
  | true =>
    refine ⟨.agg ((l.drop (i * s)).take s).toArray, ?_, ?_, ?_, ?_⟩
    · simp only [elemAt, SR]
      exact ⟨_, rfl, by simpa using SRs.take s (SRs.drop (i * s) hv)⟩
    · simp [Value.cells]; omega
    · intro u hu
      simp only [Value.cells] at hu
      exact ho u (List.mem_of_mem_drop (List.mem_of_mem_take hu))
    · intro j x hj
      simp only [Value.cells, List.getElem?_toArray, List.getElem?_take, List.getElem?_drop] at hj
      split at hj
      · exact hj
      · cases hj
  | false =>
    have := hs rfl
    subst this
    have hlt : i < cs.length := by omega
    obtain ⟨x, hx, hvx⟩ := SRs.get hv i cs[i] (List.getElem?_eq_getElem hlt)
    have hone := ho x (List.mem_of_getElem? hx)
    have hcx : x.cells = #[x] := by cases x <;> first | rfl | (simp [Value.oneCell'] at hone)
    refine ⟨x, ?_, by rw [hcx]; rfl, ?_, ?_⟩
    · simp only [elemAt, List.getD_eq_getElem?_getD, List.getElem?_eq_getElem hlt, Option.getD_some]; exact hvx
    · intro u hu; rw [hcx] at hu; simp at hu; subst hu; exact hone
    · intro j y hj
      rw [hcx] at hj
      cases j with
      | zero => simp at hj; subst hj; simpa using hx
      | succ j => simp at hj

theorem SRs.one {β' : Bt} : ∀ {cs : List AV} {l : List Value}, allB isScalar cs = true → SRs β' w cs l → ∀ y ∈ l, y.oneCell' = true
  | [], l, _, hv, y, hy => by simp [SRs] at hv; subst hv; simp at hy
  | c :: cs, l, hs, hv, y, hy => by
    simp only [SRs] at hv
    obtain ⟨x, xs, rfl, h1, h2⟩ := hv
    rw [allB_iff, List.all_cons, Bool.and_eq_true] at hs
    rcases List.mem_cons.1 hy with rfl | hy
    · have hc : c.cells = [c] := by cases c <;> first | rfl | (exact absurd hs.1 (by simp [isScalar]))
      have := (SR.cells h1 (by rw [hc]; simpa using hs.1)).2
      have hy' : y.cells = #[y] ∨ ∃ z, y = .agg z := by cases y <;> simp [Value.cells]
      rcases hy' with e | ⟨z, rfl⟩
      · exact this y (by rw [e]; simp)
      · cases c <;> simp [SR, isScalar] at h1 hs
    · exact SRs.one (by rw [allB_iff]; exact hs.2) h2 y hy

theorem purify_sound {agg : TypeId → Bool × Nat} (hk : HR P β w h) : ∀ (k : Nat) (v : AV) (x : Value) (v' : AV), VR β w v x → purify agg h k v = some v' → SR β.outer w v' x
  | 0, _, _, _, _, he => by simp [purify] at he
  | k + 1, v, x, v', hv, he => by
    refine purStep_sound (h := h) (agg := agg) (keeps_outer β w) (fun v x v' => purify_sound hk k v x v') ?_ ?_ ?_ v x v' hv he
    · intro m o n cap x v' hx e
      simp only [VR] at hx
      obtain ⟨b, hb, rfl⟩ := hx
      unfold purSlc at e
      split at e
      · rename_i cs ty hm
        obtain ⟨b', cs', e3, e4, e5⟩ := hk.obj m _ _ hm hb
        cases e3
        split at e
        · rename_i cs2 hcs
          split at e
          · rename_i hc
            cases e
            simp only [Bool.and_eq_true, Nat.ble_eq, Bool.or_eq_true, Nat.beq_eq] at hc
            obtain ⟨⟨⟨c1, c2⟩, c3⟩, c4⟩ := hc
            have hsr := mapO_sound (fun v x v' => purify_sound hk k v x v') e5 hcs
            have hone := SRs.one c4 hsr
            have hlen := SRs.length hsr
            have hdrop := SRs.drop o hsr
            have hel := elemAt_sound (agg := (agg ty).1) (s := (agg ty).2) hdrop (fun e => by
              rcases c3 with c3 | c3
              · rw [e] at c3; cases c3
              · exact c3) (by
              rw [allB_iff] at c4 ⊢; rw [List.all_eq_true] at c4 ⊢; exact fun x hx => c4 x (List.mem_of_mem_drop hx)) (fun u hu => hone u (List.mem_of_mem_drop hu)) (n := n) (by simp; omega)
            simp only [SR]
            refine ⟨trivial, _, cap, rfl, c2, fun i hi => ?_⟩
            obtain ⟨y, y1, y2, y3, y4⟩ := hel i hi
            refine ⟨b, o, y, rfl, y1, y2, y3, fun j z hz => ⟨?_, cells_safe_outer hk hb _⟩⟩
            have := y4 j z hz
            simp only [List.getElem?_drop] at this
            simp only [World.cell?, e4]
            simpa using this
          · cases e
        · cases e
      · cases e
    · intro m o x v' hx e
      simp only [VR] at hx
      obtain ⟨b, hb, rfl⟩ := hx
      unfold purPtr at e
      split at e
      · rename_i cs ty hm
        obtain ⟨b', cs', e3, e4, e5⟩ := hk.obj m _ _ hm hb
        cases e3
        split at e
        · rename_i cs2 hcs
          cases e
          have hsr := mapO_sound (fun v x v' => purify_sound hk k v x v') e5 hcs
          simp only [SR]
          refine ⟨b, 0, _, by rw [Nat.zero_add], hsr, fun j z hz => ⟨?_, cells_safe_outer hk hb _⟩⟩
          rw [Nat.zero_add]
          simp only [World.cell?, e4]
          simpa using hz
        · cases e
      · cases e
    · intro m x v' hx e
      simp only [VR] at hx
      obtain ⟨b, hb, rfl⟩ := hx
      unfold purMap at e
      split at e
      · rename_i ks vs hm
        obtain ⟨b', es, c, e3, e4, e5, e6⟩ := hk.obj m _ _ hm hb
        cases e3
        split at e
        · rename_i ks' vs' h1 h2
          cases e
          simp only [SR]
          refine ⟨b, es, c, rfl, e4, fun x hx e => ?_, mapO_sound (fun v x v' => purify_sound hk k v x v') e5 h1, mapO_sound (fun v x v' => purify_sound hk k v x v') e6 h2⟩
          have hx : x ∈ β.out := by simpa [Bt.outer, Bt.all] using hx
          exact hk.sep x hx _ (List.mem_of_getElem? hb) b e rfl
        · cases e
      · cases e
end Go.Proofs.Ytkjegegjkeeemaa.Ev
