/- The abstract machine's values and memory, and what they say of the model's. -/
import Derived.Test.YtkjegegjkeeemaaEvA
import Derived.Laws.Sem
set_option linter.all false
namespace Go.Proofs.Ytkjegegjkeeemaa.Ev
open Go

inductive Own where
  | free
  | obj (b : Nat)
  | tok (cur : Option (Nat × Nat)) (len s : Nat) (e : TypeId)
def Own.blk : Own → Option Nat
  | .obj b => some b
  | .tok (some (b, _)) _ _ _ => some b
  | _ => none
def Own.le : Own → Own → Prop
  | .free, _ => True
  | .obj b, .obj b' => b = b'
  | .tok c l s e, .tok c' l' s' e' => l < l' ∨ (c = c' ∧ l = l' ∧ s = s' ∧ e = e')
  | _, _ => False
theorem Own.le_refl (x : Own) : x.le x := by cases x <;> simp [Own.le]
theorem Own.le_trans {x y z : Own} (h : x.le y) (k : y.le z) : x.le z := by
  cases x <;> cases y <;> cases z <;> simp_all [Own.le]
  rcases h with h | ⟨rfl, rfl, rfl, rfl⟩ <;> rcases k with k | ⟨rfl, rfl, rfl, rfl⟩
  · exact .inl (by omega)
  · exact .inl h
  · exact .inl k
  · exact .inr ⟨rfl, rfl, rfl, rfl⟩

/-- What is owned: by the callers, who lie still; by this run, name by name. -/
structure Bt where
  out : List Own
  own : List Own
def Bt.all (β : Bt) : List Own := β.out ++ β.own
def Bt.still (β : Bt) : Bt := ⟨β.all, []⟩

/-- A cell that nothing owned may write. -/
def safe (β : Bt) (b off : Nat) : Prop :=
  ∀ x ∈ β.all, match x with
    | .obj b' => b' ≠ b
    | .tok (some (b', _)) len s _ => b' = b → off < len * s
    | _ => True

/-! ### A value that lies still -/
mutual
def SR (β : Bt) (w : World) : AV → Value → Prop
  | .bool b, v => v = .bool b
  | .int k n, v => v = .int k n
  | .str s, v => v = .string s
  | .nilPtr, v => v = .pointer none
  | .pptr cs o, v => ∃ b f cs', v = .pointer (some ⟨b, f + o, none⟩) ∧ SRs β w cs cs' ∧ ∀ j x, cs'[j]? = some x → w.cell? ⟨b, f + j, none⟩ = some x ∧ safe β b (f + j)
  | .nilSl tok, v => tok = none ∧ v = .slice none 0 0
  | .arr s n get tok, v => tok = none ∧ ∃ base cap, v = .slice base n cap ∧ n ≤ cap ∧
      (∀ i, i < n → ∃ b f v', base = some ⟨b, f, none⟩ ∧ SR β w (get i) v' ∧ v'.cells.size = s ∧ (∀ u ∈ v'.cells.toList, u.oneCell' = true) ∧
        ∀ j x, v'.cells[j]? = some x → w.cell? ⟨b, f + (i * s + j), none⟩ = some x ∧ safe β b (f + (i * s + j)))
  | .nilMap, v => v = .map none
  | .pmap ks vs, v => ∃ r es c, v = .map (some r) ∧ w.heap[r]? = some (.map es c) ∧ (∀ x ∈ β.all, x.blk ≠ some r) ∧
      SRs β w ks (es.toList.map (·.key)) ∧ SRs β w vs (es.toList.map (·.val))
  | .nilFn, v => v = .nilFunc
  | .fn f cs, v => ∃ cs', v = .func (.func f) #[] cs' ∧ SRs β w cs cs'.toList
  | .nilIf, v => v = .nilIface
  | .ifc t x, v => ∃ x', v = .iface t x' ∧ SR β w x x'
  | .agg cs, v => ∃ cs', v = .agg cs' ∧ SRs β w cs cs'.toList
  | .tup cs, v => ∃ cs', v = .tuple cs' ∧ SRs β w cs cs'.toList
  | .undef, _ | .ptr .., _ | .slc .., _ | .map .., _ | .yld .., _ => False
def SRs (β : Bt) (w : World) : List AV → List Value → Prop
  | [], l => l = []
  | c :: cs, l => ∃ x xs, l = x :: xs ∧ SR β w c x ∧ SRs β w cs xs
end

/-- The elements of a row, read off a stretch of cells. -/
def Elems (β : Bt) (w : World) (s n : Nat) (get : Nat → AV) (f : Nat → Option Value) : Prop :=
  ∀ i, i < n → ∃ v', SR β w (get i) v' ∧ v'.cells.size = s ∧ (∀ u ∈ v'.cells.toList, u.oneCell' = true) ∧ ∀ j x, v'.cells[j]? = some x → f (i * s + j) = some x

mutual
def VR (β : Bt) (w : World) : AV → Value → Prop
  | .undef, _ => True
  | .bool b, v => v = .bool b
  | .int k n, v => v = .int k n
  | .str s, v => v = .string s
  | .nilPtr, v => v = .pointer none
  | .ptr n o, v => ∃ b, β.own[n]? = some (.obj b) ∧ v = .pointer (some ⟨b, o, none⟩)
  | .pptr cs o, v => SR β w (.pptr cs o) v
  | .nilSl _, v => v = .slice none 0 0
  | .arr s n get tok, v => SR β w (.arr s n get none) v ∧
      (∀ t, tok = some t → ∃ cur len s' e', β.own[t]? = some (.tok cur len s' e') ∧ n ≤ len ∧ (0 < n → n = len → ∃ b cap, cur = some (b, cap) ∧ v = .slice (some ⟨b, 0, none⟩) n cap ∧ s = s'))
  | .slc n o len cap, v => ∃ b, β.own[n]? = some (.obj b) ∧ v = .slice (some ⟨b, o, none⟩) len cap
  | .nilMap, v => v = .map none
  | .map n, v => ∃ b, β.own[n]? = some (.obj b) ∧ v = .map (some b)
  | .pmap ks vs, v => SR β w (.pmap ks vs) v
  | .nilFn, v => v = .nilFunc
  | .fn f cs, v => ∃ cs', v = .func (.func f) #[] cs' ∧ VRs β w cs cs'.toList
  | .yld l, v => ∃ b, β.own[l]? = some (.obj b) ∧ v = .func (.yield b) #[] #[]
  | .nilIf, v => v = .nilIface
  | .ifc t x, v => ∃ x', v = .iface t x' ∧ VR β w x x'
  | .agg cs, v => ∃ cs', v = .agg cs' ∧ VRs β w cs cs'.toList
  | .tup cs, v => ∃ cs', v = .tuple cs' ∧ VRs β w cs cs'.toList
def VRs (β : Bt) (w : World) : List AV → List Value → Prop
  | [], l => l = []
  | c :: cs, l => ∃ x xs, l = x :: xs ∧ VR β w c x ∧ VRs β w cs xs
end

/-- What a step leaves as it was. -/
structure Ext (β : Bt) (w : World) (β' : Bt) (w' : World) : Prop where
  out_eq : β'.out = β.out
  own : ∀ (n : Nat) (x : Own), β.own[n]? = some x → ∃ x', β'.own[n]? = some x' ∧ x.le x'
  size : w.heap.size ≤ w'.heap.size
  rest : ∀ b, b < w.heap.size → (∀ x ∈ β.own, x.blk ≠ some b) → w'.heap[b]? = w.heap[b]? ∧ ∀ x ∈ β'.own, x.blk ≠ some b
  cell : ∀ (b off : Nat) (v : Value), w.cell? ⟨b, off, none⟩ = some v → safe β b off → w'.cell? ⟨b, off, none⟩ = some v ∧ safe β' b off
  os : w'.os = w.os
  tape : w'.tape = w.tape
  output : w'.output = w.output

theorem mem_all {β : Bt} {x : Own} : x ∈ β.all ↔ x ∈ β.out ∨ x ∈ β.own := List.mem_append
theorem safe_of_rest {β : Bt} {b : Nat} (h : ∀ x ∈ β.all, x.blk ≠ some b) (off : Nat) : safe β b off := by
  intro x hx
  have := h x hx
  cases x with
  | free => trivial
  | obj b' => intro e; exact this (by simp [Own.blk, e])
  | tok c l s e => cases c with
    | none => trivial
    | some p => obtain ⟨b', cap⟩ := p; intro e; exact absurd (by simp [Own.blk, e]) this

theorem cell_lt {w : World} {a : Addr} {v : Value} (h : w.cell? a = some v) : a.block < w.heap.size := by
  unfold World.cell? at h
  split at h
  · rename_i c e f he
    exact (Array.getElem?_eq_some_iff.1 he).1
  · cases h

theorem Ext.obj {β β' : Bt} {w w' : World} (h : Ext β w β' w') {n b : Nat} (hb : β.own[n]? = some (.obj b)) : β'.own[n]? = some (.obj b) := by
  obtain ⟨x', h1, h2⟩ := h.own n _ hb
  cases x' <;> simp [Own.le] at h2
  subst h2; exact h1

/-- What still values need of a change. -/
structure Keeps (β : Bt) (w : World) (β' : Bt) (w' : World) : Prop where
  cell : ∀ (b off : Nat) (v : Value), w.cell? ⟨b, off, none⟩ = some v → safe β b off → w'.cell? ⟨b, off, none⟩ = some v ∧ safe β' b off
  rest : ∀ b, b < w.heap.size → (∀ x ∈ β.all, x.blk ≠ some b) → w'.heap[b]? = w.heap[b]? ∧ ∀ x ∈ β'.all, x.blk ≠ some b
theorem Ext.keeps {β β' : Bt} {w w' : World} (h : Ext β w β' w') : Keeps β w β' w' :=
  ⟨h.cell, fun b hb ho => by
    obtain ⟨h1, h2⟩ := h.rest b hb (fun x hx => ho x (mem_all.2 (.inr hx)))
    refine ⟨h1, fun x hx => ?_⟩
    rcases mem_all.1 hx with hx | hx
    · rw [h.out_eq] at hx; exact ho x (mem_all.2 (.inl hx))
    · exact h2 x hx⟩

mutual
theorem SR.keeps {β β' : Bt} {w w' : World} (h : Keeps β w β' w') : ∀ (v : AV) (x : Value), SR β w v x → SR β' w' v x
  | .undef, _, hv => by simp [SR] at hv
  | .bool b, _, hv => by simpa [SR] using hv
  | .int k n, _, hv => by simpa [SR] using hv
  | .str s, _, hv => by simpa [SR] using hv
  | .nilPtr, _, hv => by simpa [SR] using hv
  | .ptr n o, _, hv => by simp [SR] at hv
  | .pptr cs o, _, hv => by
    simp only [SR] at hv ⊢
    obtain ⟨b, f, cs', h1, h2, h3⟩ := hv
    exact ⟨b, f, cs', h1, SRs.keeps h cs cs' h2, fun j x hj => h.cell _ _ _ (h3 j x hj).1 (h3 j x hj).2⟩
  | .nilSl _, _, hv => by simpa [SR] using hv
  | .arr s n get tok, _, hv => by
    simp only [SR] at hv ⊢
    obtain ⟨ht, base, cap, h1, h0, h2⟩ := hv
    refine ⟨ht, base, cap, h1, h0, fun i hi => ?_⟩
    obtain ⟨b, f, v', e, hv', hs, ho, hc⟩ := h2 i hi
    exact ⟨b, f, v', e, SR.keeps h (get i) v' hv', hs, ho, fun j x hj => h.cell _ _ _ (hc j x hj).1 (hc j x hj).2⟩
  | .slc n o len cap, _, hv => by simp [SR] at hv
  | .nilMap, _, hv => by simpa [SR] using hv
  | .map n, _, hv => by simp [SR] at hv
  | .pmap ks vs, _, hv => by
    simp only [SR] at hv ⊢
    obtain ⟨r, es, c, h1, h2, h3, h4, h5⟩ := hv
    obtain ⟨k1, k2⟩ := h.rest r (Array.getElem?_eq_some_iff.1 h2).1 h3
    exact ⟨r, es, c, h1, k1.trans h2, k2, SRs.keeps h ks _ h4, SRs.keeps h vs _ h5⟩
  | .nilFn, _, hv => by simpa [SR] using hv
  | .fn f cs, _, hv => by
    simp only [SR] at hv ⊢
    obtain ⟨cs', h1, h2⟩ := hv
    exact ⟨cs', h1, SRs.keeps h cs _ h2⟩
  | .yld l, _, hv => by simp [SR] at hv
  | .nilIf, _, hv => by simpa [SR] using hv
  | .ifc t x, _, hv => by
    simp only [SR] at hv ⊢
    obtain ⟨x', h1, h2⟩ := hv
    exact ⟨x', h1, SR.keeps h x x' h2⟩
  | .agg cs, _, hv => by
    simp only [SR] at hv ⊢
    obtain ⟨cs', h1, h2⟩ := hv
    exact ⟨cs', h1, SRs.keeps h cs _ h2⟩
  | .tup cs, _, hv => by
    simp only [SR] at hv ⊢
    obtain ⟨cs', h1, h2⟩ := hv
    exact ⟨cs', h1, SRs.keeps h cs _ h2⟩
theorem SRs.keeps {β β' : Bt} {w w' : World} (h : Keeps β w β' w') : ∀ (cs : List AV) (l : List Value), SRs β w cs l → SRs β' w' cs l
  | [], _, hv => by simpa [SRs] using hv
  | c :: cs, _, hv => by
    simp only [SRs] at hv ⊢
    obtain ⟨x, xs, h1, h2, h3⟩ := hv
    exact ⟨x, xs, h1, SR.keeps h c x h2, SRs.keeps h cs xs h3⟩
end

mutual
theorem VR.ext {β β' : Bt} {w w' : World} (h : Ext β w β' w') : ∀ (v : AV) (x : Value), VR β w v x → VR β' w' v x
  | .undef, _, _ => by simp [VR]
  | .bool b, _, hv => by simpa [VR] using hv
  | .int k n, _, hv => by simpa [VR] using hv
  | .str s, _, hv => by simpa [VR] using hv
  | .nilPtr, _, hv => by simpa [VR] using hv
  | .ptr n o, _, hv => by
    simp only [VR] at hv ⊢
    obtain ⟨b, h1, h2⟩ := hv
    exact ⟨b, h.obj h1, h2⟩
  | .pptr cs o, _, hv => by
    simp only [VR] at hv ⊢
    exact SR.keeps h.keeps _ _ hv
  | .nilSl _, _, hv => by simpa [VR] using hv
  | .arr s n get tok, _, hv => by
    simp only [VR] at hv ⊢
    refine ⟨SR.keeps h.keeps _ _ hv.1, fun t ht => ?_⟩
    obtain ⟨cur, len, s', e', hb, hn, hf⟩ := hv.2 t ht
    obtain ⟨x', k1, k2⟩ := h.own t _ hb
    cases x' with
    | free => simp [Own.le] at k2
    | obj b => simp [Own.le] at k2
    | tok cur' len' s'' e'' =>
      simp only [Own.le] at k2
      rcases k2 with k2 | ⟨rfl, rfl, rfl, rfl⟩
      · exact ⟨cur', len', s'', e'', k1, by omega, fun _ e => by omega⟩
      · exact ⟨cur, len, s', e', k1, hn, hf⟩
  | .slc n o len cap, _, hv => by
    simp only [VR] at hv ⊢
    obtain ⟨b, h1, h2⟩ := hv
    exact ⟨b, h.obj h1, h2⟩
  | .nilMap, _, hv => by simpa [VR] using hv
  | .map n, _, hv => by
    simp only [VR] at hv ⊢
    obtain ⟨b, h1, h2⟩ := hv
    exact ⟨b, h.obj h1, h2⟩
  | .pmap ks vs, _, hv => by
    simp only [VR] at hv ⊢
    exact SR.keeps h.keeps _ _ hv
  | .nilFn, _, hv => by simpa [VR] using hv
  | .fn f cs, _, hv => by
    simp only [VR] at hv ⊢
    obtain ⟨cs', h1, h2⟩ := hv
    exact ⟨cs', h1, VRs.ext h cs _ h2⟩
  | .yld l, _, hv => by
    simp only [VR] at hv ⊢
    obtain ⟨b, h1, h2⟩ := hv
    exact ⟨b, h.obj h1, h2⟩
  | .nilIf, _, hv => by simpa [VR] using hv
  | .ifc t x, _, hv => by
    simp only [VR] at hv ⊢
    obtain ⟨x', h1, h2⟩ := hv
    exact ⟨x', h1, VR.ext h x x' h2⟩
  | .agg cs, _, hv => by
    simp only [VR] at hv ⊢
    obtain ⟨cs', h1, h2⟩ := hv
    exact ⟨cs', h1, VRs.ext h cs _ h2⟩
  | .tup cs, _, hv => by
    simp only [VR] at hv ⊢
    obtain ⟨cs', h1, h2⟩ := hv
    exact ⟨cs', h1, VRs.ext h cs _ h2⟩
theorem VRs.ext {β β' : Bt} {w w' : World} (h : Ext β w β' w') : ∀ (cs : List AV) (l : List Value), VRs β w cs l → VRs β' w' cs l
  | [], _, hv => by simpa [VRs] using hv
  | c :: cs, _, hv => by
    simp only [VRs] at hv ⊢
    obtain ⟨x, xs, h1, h2, h3⟩ := hv
    exact ⟨x, xs, h1, VR.ext h c x h2, VRs.ext h cs xs h3⟩
end

mutual
/-- What lies still is a value of whatever run. -/
theorem SR.vr {β : Bt} {w : World} : ∀ (v : AV) (x : Value), SR β w v x → VR β w v x
  | .undef, _, hv => by simp [SR] at hv
  | .bool b, _, hv => by simpa [SR, VR] using hv
  | .int k n, _, hv => by simpa [SR, VR] using hv
  | .str s, _, hv => by simpa [SR, VR] using hv
  | .nilPtr, _, hv => by simpa [SR, VR] using hv
  | .ptr n o, _, hv => by simp [SR] at hv
  | .pptr cs o, _, hv => by simp only [VR]; exact hv
  | .nilSl _, _, hv => by simp only [SR] at hv; simp only [VR]; exact hv.2
  | .arr s n get tok, _, hv => by
    have ht : tok = none := by simp only [SR] at hv; exact hv.1
    subst ht
    simp only [VR]
    exact ⟨hv, fun t e => by cases e⟩
  | .slc n o len cap, _, hv => by simp [SR] at hv
  | .nilMap, _, hv => by simpa [SR, VR] using hv
  | .map n, _, hv => by simp [SR] at hv
  | .pmap ks vs, _, hv => by simp only [VR]; exact hv
  | .nilFn, _, hv => by simpa [SR, VR] using hv
  | .fn f cs, _, hv => by
    simp only [SR] at hv
    simp only [VR]
    obtain ⟨cs', h1, h2⟩ := hv
    exact ⟨cs', h1, SRs.vr cs _ h2⟩
  | .yld l, _, hv => by simp [SR] at hv
  | .nilIf, _, hv => by simpa [SR, VR] using hv
  | .ifc t x, _, hv => by
    simp only [SR] at hv
    simp only [VR]
    obtain ⟨x', h1, h2⟩ := hv
    exact ⟨x', h1, SR.vr x x' h2⟩
  | .agg cs, _, hv => by
    simp only [SR] at hv
    simp only [VR]
    obtain ⟨cs', h1, h2⟩ := hv
    exact ⟨cs', h1, SRs.vr cs _ h2⟩
  | .tup cs, _, hv => by
    simp only [SR] at hv
    simp only [VR]
    obtain ⟨cs', h1, h2⟩ := hv
    exact ⟨cs', h1, SRs.vr cs _ h2⟩
theorem SRs.vr {β : Bt} {w : World} : ∀ (cs : List AV) (l : List Value), SRs β w cs l → VRs β w cs l
  | [], _, hv => by simpa [SRs, VRs] using hv
  | c :: cs, _, hv => by
    simp only [SRs] at hv
    simp only [VRs]
    obtain ⟨x, xs, h1, h2, h3⟩ := hv
    exact ⟨x, xs, h1, SR.vr c x h2, SRs.vr cs xs h3⟩
end
end Go.Proofs.Ytkjegegjkeeemaa.Ev
