/- A loop's head: what no round reads is forgotten, what a round has laid is let go. -/
import Derived.Test.YtkjegegjkeeemaaEvS
set_option linter.all false
namespace Go.Proofs.Ytkjegegjkeeemaa.Ev
open Go

def Bt.low (β : Bt) (n : Nat) : Bt := ⟨β.out, β.own.take n⟩
variable {P : Program} {N : Nat} {β β' : Bt} {w w' : World}

theorem low_mem {n : Nat} {x : Own} (h : x ∈ (β.low n).all) : x ∈ β.all := by
  rcases mem_all.1 h with h | h
  · exact mem_all.2 (.inl h)
  · exact mem_all.2 (.inr (List.mem_of_mem_take h))
theorem low_own {n m : Nat} (hm : m < n) : (β.low n).own[m]? = β.own[m]? := by
  show (β.own.take n)[m]? = _
  rw [List.getElem?_take, if_pos hm]
theorem keeps_low (n : Nat) : Keeps β w (β.low n) w :=
  ⟨fun _ _ _ hc hs => ⟨hc, fun x hx => hs x (low_mem hx)⟩, fun _ _ ho => ⟨rfl, fun x hx => ho x (low_mem hx)⟩⟩

theorem lows_sound {f : AV → Bool} {γ : Bt} (ih : ∀ v x, f v = true → VR β w v x → VR γ w v x) : ∀ {cs : List AV} {l : List Value}, allB f cs = true → VRs β w cs l → VRs γ w cs l
  | [], _, _, hv => by simpa [VRs] using hv
  | c :: cs, _, ha, hv => by
    simp only [VRs] at hv ⊢
    obtain ⟨x, xs, h1, h2, h3⟩ := hv
    simp only [allB] at ha
    split at ha
    · rename_i hc
      exact ⟨x, xs, h1, ih c x hc h2, lows_sound ih ha h3⟩
    · cases ha
theorem lowStep_sound {n : Nat} {f : AV → Bool} (ih : ∀ v x, f v = true → VR β w v x → VR (β.low n) w v x) (v : AV) (x : Value) (hl : lowStep n f v = true) (hv : VR β w v x) : VR (β.low n) w v x := by
  have nm : ∀ m, Nat.blt m n = true → (β.low n).own[m]? = β.own[m]? := fun m hm => low_own (by simpa using hm)
  cases v with
  | undef => simp [VR]
  | bool b => simpa [VR] using hv
  | int k m => simpa [VR] using hv
  | str s => simpa [VR] using hv
  | nilPtr => simpa [VR] using hv
  | ptr m o => simp only [VR] at hv ⊢; rw [nm m hl]; exact hv
  | pptr cs o => simp only [VR] at hv ⊢; exact SR.keeps (keeps_low n) _ _ hv
  | nilSl t => simpa [VR] using hv
  | arr s k get tok =>
    simp only [VR] at hv ⊢
    refine ⟨SR.keeps (keeps_low n) _ _ hv.1, fun t e => ?_⟩
    subst e
    rw [nm t hl]; exact hv.2 t rfl
  | slc m o len cap => simp only [VR] at hv ⊢; rw [nm m hl]; exact hv
  | nilMap => simpa [VR] using hv
  | map m => simp only [VR] at hv ⊢; rw [nm m hl]; exact hv
  | pmap ks vs => simp only [VR] at hv ⊢; exact SR.keeps (keeps_low n) _ _ hv
  | nilFn => simpa [VR] using hv
  | fn f cs =>
    simp only [VR] at hv ⊢
    obtain ⟨cs', h1, h2⟩ := hv
    exact ⟨cs', h1, lows_sound ih hl h2⟩
  | yld l => simp only [VR] at hv ⊢; rw [nm l hl]; exact hv
  | nilIf => simpa [VR] using hv
  | ifc t y =>
    simp only [VR] at hv ⊢
    obtain ⟨x', h1, h2⟩ := hv
    exact ⟨x', h1, ih _ _ hl h2⟩
  | agg cs =>
    simp only [VR] at hv ⊢
    obtain ⟨cs', h1, h2⟩ := hv
    exact ⟨cs', h1, lows_sound ih hl h2⟩
  | tup cs =>
    simp only [VR] at hv ⊢
    obtain ⟨cs', h1, h2⟩ := hv
    exact ⟨cs', h1, lows_sound ih hl h2⟩
theorem low_fuel {n : Nat} : ∀ (k : Nat) (v : AV) (x : Value), (Nat.rec (motive := fun _ => AV → Bool) (fun _ => false) (fun _ ih v => lowStep n ih v) k : AV → Bool) v = true → VR β w v x → VR (β.low n) w v x
  | 0, _, _, h, _ => by cases h
  | k + 1, v, x, h, hv => lowStep_sound (low_fuel k) v x h hv
theorem lowV_sound {n : Nat} {v : AV} {x : Value} (h : lowV n v = true) (hv : VR β w v x) : VR (β.low n) w v x := low_fuel 8 v x h hv

theorem allB_mem {α : Type} {f : α → Bool} : ∀ {l : List α}, allB f l = true → ∀ v ∈ l, f v = true
  | c :: cs, h, v, hm => by
    simp only [allB] at h
    split at h
    · rename_i hc
      rcases List.mem_cons.1 hm with rfl | hm
      · exact hc
      · exact allB_mem h v hm
    · cases h

/-! ### Trees that are laid out of a list -/
theorem sets_get : ∀ (ps : List Pth) (vs : List AV) (t : Tr) (q : Pth), (sets t ps vs).get q = t.get q ∨ (sets t ps vs).get q = .undef ∨ ∃ i : Nat, ps[i]? = some q ∧ vs[i]? = some ((sets t ps vs).get q)
  | [], vs, t, q => by left; simp [sets]
  | p :: ps, [], t, q => by left; simp [sets]
  | p :: ps, v :: vs, t, q => by
    simp only [sets]
    rcases sets_get ps vs (t.set p v) q with h | h | ⟨i, h1, h2⟩
    · by_cases e : p = q
      · subst e
        rcases Tr.set_same p t v with k | k
        · right; right; exact ⟨0, rfl, by rw [h, k]; rfl⟩
        · right; left; rw [h, k]
      · left; rw [h, Tr.set_other p t v q e]
    · right; left; exact h
    · right; right; exact ⟨i + 1, h1, h2⟩
theorem gets_get {get : Pth → AV} : ∀ (ps : List Pth) (i : Nat), (gets get ps)[i]? = (ps[i]?).map get
  | [], i => by simp [gets]
  | p :: ps, 0 => by simp [gets]
  | p :: ps, i + 1 => by simp only [gets, List.getElem?_cons_succ]; exact gets_get ps i
theorem full_sets_get (d : Nat) (ps : List Pth) (vs : List AV) (q : Pth) : (sets (Tr.full .undef d) ps vs).get q = .undef ∨ ∃ i : Nat, ps[i]? = some q ∧ vs[i]? = some ((sets (Tr.full .undef d) ps vs).get q) := by
  rcases sets_get ps vs (Tr.full .undef d) q with h | h | h
  · left; rw [h]; rcases Tr.get_full .undef d q with h | h <;> exact h
  · exact .inl h
  · exact .inr h
theorem full_gets_get (d : Nat) (ps : List Pth) (t : Tr) (q : Pth) : (sets (Tr.full .undef d) ps (gets t.get ps)).get q = .undef ∨
    ((sets (Tr.full .undef d) ps (gets t.get ps)).get q = t.get q ∧ t.get q ∈ gets t.get ps) := by
  rcases full_sets_get d ps (gets t.get ps) q with h | ⟨i, h1, h2⟩
  · exact .inl h
  · right
    rw [gets_get, h1] at h2
    simp only [Option.map_some, Option.some.injEq] at h2
    refine ⟨h2.symm, List.mem_of_getElem? (i := i) ?_⟩
    rw [gets_get, h1]; rfl
theorem TR.gets {t : Tr} {tmps : Array Value} (h : TR β w t tmps) (d : Nat) (ps : List Pth) : TR β w (sets (Tr.full .undef d) ps (gets t.get ps)) tmps := by
  intro q hq
  rcases full_gets_get d ps t q with e | ⟨e, _⟩
  · rw [e]; exact VR_undef _ _ _
  · rw [e]; exact h q hq
theorem TR.getsLow {t : Tr} {tmps : Array Value} (h : TR β w t tmps) (d : Nat) (ps : List Pth) {n : Nat} (hl : allB (lowV n) (Ev.gets t.get ps) = true) : TR (β.low n) w (sets (Tr.full .undef d) ps (Ev.gets t.get ps)) tmps := by
  intro q hq
  rcases full_gets_get d ps t q with e | ⟨e, hm⟩
  · rw [e]; exact VR_undef _ _ _
  · rw [e]; exact lowV_sound (allB_mem hl _ hm) (h q hq)

theorem DR.low {n : Nat} : ∀ {ds : List AD} {l : List Deferred}, allB (lowD n) ds = true → DR β ds l → DR (β.low n) ds l
  | [], _, _, h => h
  | .coll r :: ds, _, ha, h => by
    simp only [allB] at ha
    split at ha
    · rename_i hr
      obtain ⟨d, rest, b, h1, h2, h3, h4⟩ := h
      exact ⟨d, rest, b, h1, h2, (low_own (by simpa [lowD] using hr)).trans h3, DR.low ha h4⟩
    · cases ha

theorem OR.low {n : Nat} {o : AO} {x : Own} (hl : lowO n o = true) (k : OR P β w o x) : OR P (β.low n) w o x := by
  cases o with
  | free => exact k
  | cells cs t =>
    obtain ⟨b, cs', rfl, h1, h2⟩ := k
    exact ⟨b, cs', rfl, h1, lows_sound (fun v x => lowV_sound) hl h2⟩
  | tok t len => exact k
  | map ks vs =>
    simp only [lowO, Bool.and_eq_true] at hl
    obtain ⟨b, es, c, rfl, h1, h2, h3⟩ := k
    exact ⟨b, es, c, rfl, h1, lows_sound (fun v x => lowV_sound) hl.1 h2, lows_sound (fun v x => lowV_sound) hl.2 h3⟩
  | loop st pend dp lv vs ps asg body =>
    simp only [lowO] at hl
    obtain ⟨b, fn, tmps, ps', asg', body', dfr, rfl, h1, h2, h3, h4⟩ := k
    refine ⟨b, fn, tmps, ps', asg', body', dfr, rfl, h1, fun q hq => ?_, fun v hv => ?_, h4⟩
    · rcases full_sets_get dp lv vs q with e | ⟨i, e1, e2⟩
      · rw [e]; exact VR_undef _ _ _
      · exact lowV_sound (allB_mem hl _ (List.mem_of_getElem? e2)) (h2 q hq)
    · obtain ⟨y, hy⟩ := h3 v hv
      exact ⟨y, lowV_sound (allB_mem hl v hv) hy⟩
  | dfr taken => exact k

theorem HR.low {h : List AO} {n : Nat} (hl : allB (lowO n) (h.take n) = true) (k : HR P β w h) : HR P (β.low n) w (h.take n) := by
  refine ⟨by simp [Bt.low, k.len], fun m o x hm hx => ?_, fun m m' x y b hx hy hb hb' => ?_, fun x hx b hb => k.lt x (low_mem hx) b hb, fun x hx y hy b hb => k.sep x hx y (List.mem_of_mem_take hy) b hb⟩
  · have ho : lowO n o = true := allB_mem hl o (List.mem_of_getElem? hm)
    have hm' : h[m]? = some o := by rw [List.getElem?_take] at hm; split at hm; exact hm; cases hm
    have hx' : β.own[m]? = some x := by
      have : (β.own.take n)[m]? = some x := hx
      rw [List.getElem?_take] at this; split at this; exact this; cases this
    exact OR.low ho (k.obj m o x hm' hx')
  · have up : ∀ (m : Nat) (x : Own), (β.low n).own[m]? = some x → β.own[m]? = some x := fun m x hx => by
      have : (β.own.take n)[m]? = some x := hx
      rw [List.getElem?_take] at this; split at this; exact this; cases this
    exact k.inj m m' x y b (up m x hx) (up m' y hy) hb hb'

theorem Ext.low {β0 : Bt} {w0 : World} (e : Ext β0 w0 β w) {n : Nat} (hn : β0.own.length ≤ n) : Ext β0 w0 (β.low n) w := by
  refine ⟨e.out_eq, fun m x hx => ?_, e.size, fun b hb ho => ?_, fun b off v hc hs => ?_, e.os, e.tape, e.output⟩
  · rw [low_own (Nat.lt_of_lt_of_le (List.getElem?_eq_some_iff.1 hx).1 hn)]; exact e.own m x hx
  · obtain ⟨h1, h2⟩ := e.rest b hb ho
    exact ⟨h1, fun x hx => h2 x (List.mem_of_mem_take hx)⟩
  · obtain ⟨h1, h2⟩ := e.cell b off v hc hs
    exact ⟨h1, fun x hx => h2 x (low_mem hx)⟩

theorem cleanFrom_sound {β0 : Bt} {w0 : World} {st : St} {a : Act} (r : Rel P N β w st a) (e : Ext β0 w0 β w) (d : Nat) (ps : List Pth) : ∀ (k n : Nat), β0.own.length ≤ n → ∃ β', Rel P N β' w (cleanFrom d ps st k n) a ∧ Ext β0 w0 β' w
  | 0, _, _ => ⟨β, ⟨TR.gets r.t d ps, r.d, r.h, r.n⟩, e⟩
  | k + 1, n, hn => by
    show ∃ β', Rel P N β' w (cleanAt d ps n st (cleanFrom d ps st k (n + 1))) a ∧ Ext β0 w0 β' w
    unfold cleanAt
    split
    · rename_i h
      simp only [Bool.and_eq_true] at h
      obtain ⟨⟨h1, h2⟩, h3⟩ := h
      exact ⟨β.low n, ⟨TR.getsLow r.t d ps h1, DR.low h2 r.d, HR.low h3 r.h, r.n⟩, Ext.low e hn⟩
    · exact cleanFrom_sound r e d ps k (n + 1) (by omega)
theorem clean_sound {β0 : Bt} {w0 : World} {st : St} {a : Act} (r : Rel P N β w st a) (e : Ext β0 w0 β w) {n : Nat} (hn : β0.own.length ≤ n) (d : Nat) (ps : List Pth) :
    ∃ β', Rel P N β' w (clean d ps n st) a ∧ Ext β0 w0 β' w := cleanFrom_sound r e d ps _ n hn
end Go.Proofs.Ytkjegegjkeeemaa.Ev
