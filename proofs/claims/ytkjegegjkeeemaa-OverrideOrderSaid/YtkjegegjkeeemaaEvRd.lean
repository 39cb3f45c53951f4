/- From a row's reading of the arguments to the abstract machine's values. -/
import Derived.Test.YtkjegegjkeeemaaEvZA
import Derived.WalkKit
import Derived.ProofKit
import Derived.Carry
import Derived.SizedLaws
set_option linter.all false
namespace Go.Proofs.Ytkjegegjkeeemaa.Ev
open Go

/-! ### What a cell of a type bears -/
inductive Ct where
  | int (k : IntKind)
  | bool
  | str
  | sl (agg : Bool) (cs : List Ct)

mutual
/-- A value of this kind, as it lies still. -/
def shC : Ct → AV → Prop
  | .int k, a => ∃ n, a = .int k n ∧ (Lit.int k n).wf = true
  | .bool, a => ∃ b, a = .bool b
  | .str, a => ∃ s, a = .str s ∧ s.size ≤ maxLen
  | .sl agg cs, a => ∃ n get, a = .arr (lenCs cs) n get none ∧ n ≤ maxLen ∧ ∀ i, i < n → (agg = true → ∃ as, get i = .agg as ∧ shCs cs as) ∧ (agg = false → shCs cs [get i])
def shCs : List Ct → List AV → Prop
  | [], as => as = []
  | c :: cs, as => ∃ a as', as = a :: as' ∧ shC c a ∧ shCs cs as'
def lenCs : List Ct → Nat
  | [] => 0
  | _ :: cs => lenCs cs + 1
end
theorem lenCs_eq : ∀ cs : List Ct, lenCs cs = cs.length
  | [] => by simp [lenCs]
  | c :: cs => by simp [lenCs, lenCs_eq cs]
theorem shC_scalar {c : Ct} {a : AV} (h : shC c a) : isScalar a = true := by
  cases c <;> simp only [shC] at h
  · obtain ⟨n, rfl, _⟩ := h; rfl
  · obtain ⟨b, rfl⟩ := h; rfl
  · obtain ⟨s, rfl, _⟩ := h; rfl
  · obtain ⟨n, get, rfl, _⟩ := h; rfl
theorem shCs_scalar : ∀ {cs : List Ct} {as : List AV}, shCs cs as → as.all isScalar = true
  | [], as, h => by simp only [shCs] at h; subst h; rfl
  | c :: cs, as, h => by
    simp only [shCs] at h
    obtain ⟨a, as', rfl, h1, h2⟩ := h
    simp [shC_scalar h1, shCs_scalar h2]
theorem shCs_len : ∀ {cs : List Ct} {as : List AV}, shCs cs as → as.length = cs.length
  | [], as, h => by simp only [shCs] at h; subst h; rfl
  | c :: cs, as, h => by
    simp only [shCs] at h
    obtain ⟨a, as', rfl, h1, h2⟩ := h
    simp [shCs_len h2]
theorem shCs_append : ∀ {cs ds : List Ct} {as bs : List AV}, shCs cs as → shCs ds bs → shCs (cs ++ ds) (as ++ bs)
  | [], ds, as, bs, h, k => by simp only [shCs] at h; subst h; exact k
  | c :: cs, ds, as, bs, h, k => by
    simp only [shCs] at h
    obtain ⟨a, as', rfl, h1, h2⟩ := h
    show shCs (c :: (cs ++ ds)) (a :: (as' ++ bs))
    simp only [shCs]
    exact ⟨a, _, rfl, h1, shCs_append h2 k⟩

/-! ### Of a type, what its cells bear -/
/-- The fields, one behind another from cell n on. -/
def descFs (P : Program) (ih : TypeId → Option (Bool × List Ct)) : List Field → Nat → Option (List Ct)
  | [], _ => some []
  | f :: fs, n => match ih f.type with
    | some (_, cs) => match Nat.beq f.offset n && Nat.beq (P.cellsOf f.type) (lenCs cs) with
      | true => match descFs P ih fs (n + lenCs cs) with
        | some ds => some (cs ++ ds)
        | none => none
      | false => none
    | none => none
def descStep (P : Program) (ih : TypeId → Option (Bool × List Ct)) (t : TypeId) : Option (Bool × List Ct) :=
  match P.underlying t with
  | some .bool => some (false, [.bool])
  | some (.int k) => some (false, [.int k])
  | some .string => some (false, [.str])
  | some (.slice e) => match ih e with
    | some (agg, cs) => match Nat.beq (P.cellsOf e) (lenCs cs) && Nat.blt 0 (lenCs cs) with
      | true => some (false, [.sl agg cs])
      | false => none
    | none => none
  | some (.struct fs) => match descFs P ih fs.toList 0 with
    | some cs => match Nat.beq (P.cellsOf t) (lenCs cs) with
      | true => some (true, cs)
      | false => none
    | none => none
  | _ => none
noncomputable def desc (P : Program) (k : Nat) : TypeId → Option (Bool × List Ct) :=
  Nat.rec (motive := fun _ => TypeId → Option (Bool × List Ct)) (fun _ => none) (fun _ ih t => descStep P ih t) k

theorem desc_one {P : Program} : ∀ {k : Nat} {t : TypeId} {cts : List Ct}, desc P k t = some (false, cts) → lenCs cts = 1
  | 0, _, _, h => by cases h
  | k + 1, t, cts, h => by
    have h : descStep P (desc P k) t = some (false, cts) := h
    unfold descStep at h
    split at h
    · cases h; simp [lenCs]
    · cases h; simp [lenCs]
    · cases h; simp [lenCs]
    · split at h
      · split at h
        · cases h; simp [lenCs]
        · cases h
      · cases h
    · split at h
      · split at h <;> cases h
      · cases h
    · cases h

abbrev βo : Bt := ⟨[], []⟩
theorem safe_o (b off : Nat) : safe βo b off := fun x hx => by simp [Bt.all] at hx
theorem SRs.len {β : Bt} {w : World} : ∀ {cs : List AV} {l : List Value}, SRs β w cs l → cs.length = l.length
  | [], l, h => by simp only [SRs] at h; subst h; rfl
  | c :: cs, l, h => by
    simp only [SRs] at h
    obtain ⟨x, xs, rfl, h1, h2⟩ := h
    simp [SRs.len h2]
theorem SRs.ones {β : Bt} {w : World} : ∀ {cs : List AV} {l : List Value}, cs.all isScalar = true → SRs β w cs l → ∀ y ∈ l, y.oneCell' = true
  | [], l, _, h, y, hy => by simp only [SRs] at h; subst h; cases hy
  | c :: cs, l, hs, h, y, hy => by
    simp only [List.all_cons, Bool.and_eq_true] at hs
    simp only [SRs] at h
    obtain ⟨x, xs, rfl, h1, h2⟩ := h
    rcases List.mem_cons.1 hy with rfl | hy
    · cases c <;> simp only [isScalar] at hs <;> simp only [SR] at h1 <;> first
        | (subst h1; rfl)
        | (obtain ⟨_, rfl⟩ := h1; rfl)
        | (obtain ⟨_, rfl, _⟩ := h1; rfl)
        | (obtain ⟨_, _, _, rfl, _⟩ := h1; rfl)
        | (obtain ⟨_, _, _, _, rfl, _⟩ := h1; rfl)
        | (obtain ⟨_, _, rfl, _⟩ := h1; rfl)
        | (obtain ⟨_, _, _, _⟩ := h1; simp_all [Value.oneCell'])
        | exact absurd hs.1 (by simp)
        | exact h1.elim
    · exact SRs.ones hs.2 h2 y hy

section
variable {H : Type} {enc : TypeId × Value → H} {P : Program} {W : World} {spare : Nat → Bool} {held : Bool}

theorem read_fs {k m : Nat} (ih : ∀ (t : TypeId) (agg : Bool) (cts : List Ct) (cs : List Value) (x : DataW H × List MemPlace), desc P k t = some (agg, cts) → DataW.trod enc P W 0 spare held m t cs = some x → ∃ as, shCs cts as ∧ SRs βo W as cs) :
    ∀ (fs : List Field) (n : Nat) (cts : List Ct) (cs : List Value), descFs P (desc P k) fs n = some cts → cs.length = n + lenCs cts →
      (∀ f ∈ fs, ∃ x, DataW.trod enc P W 0 spare held m f.type ((cs.drop f.offset).take (P.cellsOf f.type)) = some x) → ∃ as, shCs cts as ∧ SRs βo W as (cs.drop n) := by
  intro fs
  induction fs with
  | nil =>
    intro n cts cs h hl _
    simp only [descFs, Option.some.injEq] at h
    subst h
    refine ⟨[], by simp [shCs], ?_⟩
    simp only [lenCs] at hl
    have : cs.drop n = [] := List.drop_eq_nil_of_le (by omega)
    simp [SRs, this]
  | cons f fs ihf =>
    intro n cts cs h hl hx
    unfold descFs at h
    split at h
    · rename_i cs1 h1
      split at h
      · rename_i hb
        simp only [Bool.and_eq_true, Nat.beq_eq] at hb
        split at h
        · rename_i ds h2
          cases h
          obtain ⟨x, hx1⟩ := hx f (by simp)
          obtain ⟨as, a1, a2⟩ := ih _ _ _ _ _ h1 hx1
          rw [lenCs_eq, List.length_append] at hl
          obtain ⟨bs, b1, b2⟩ := ihf (n + lenCs cs1) ds cs h2 (by rw [lenCs_eq, lenCs_eq]; omega) (fun g hg => hx g (by simp [hg]))
          refine ⟨as ++ bs, shCs_append a1 b1, ?_⟩
          rw [hb.1, hb.2] at a2
          have := SRs.append a2 b2
          rw [← List.drop_drop, List.take_append_drop] at this
          exact this
        · cases h
      · cases h
    · cases h

theorem read : ∀ (k m : Nat) (t : TypeId) (agg : Bool) (cts : List Ct) (cs : List Value) (x : DataW H × List MemPlace), desc P k t = some (agg, cts) → DataW.trod enc P W 0 spare held m t cs = some x → ∃ as, shCs cts as ∧ SRs βo W as cs
  | 0, _, _, _, _, _, _, h, _ => by cases h
  | k + 1, m, t, agg, cts, cs, x, h, hx => by
    have h : descStep P (desc P k) t = some (agg, cts) := h
    unfold descStep at h
    split at h
    · rename_i hu
      cases h
      obtain ⟨b, rfl, _⟩ := DataW.trod_bool hu hx
      exact ⟨[.bool b], by simp [shCs, shC], by simp [SRs, SR]⟩
    · rename_i k' hu
      cases h
      obtain ⟨n, rfl, _, hw⟩ := DataW.trod_int hu hx
      exact ⟨[.int k' n], by simp [shCs, shC, hw], by simp [SRs, SR]⟩
    · rename_i hu
      cases h
      obtain ⟨s, rfl, _, hw⟩ := DataW.trod_string hu hx
      exact ⟨[.str s], by simp [shCs, shC, hw], by simp [SRs, SR]⟩
    · rename_i e hu
      split at h
      · rename_i agg' cs' he
        split at h
        · rename_i hb
          simp only [Bool.and_eq_true, Nat.beq_eq, Nat.blt_eq] at hb
          obtain ⟨hb, hpos⟩ := hb
          cases h
          rcases DataW.trod_slice hu hx with ⟨rfl, _⟩ | ⟨a, len, cap, elems, rest, n, _, rfl, _, _, hlc, hcm, hel, hget, _⟩
          · refine ⟨[.arr (lenCs cs') 0 (fun _ => .undef) none], ?_, ?_⟩
            · simp only [shCs, shC]
              exact ⟨_, _, rfl, ⟨0, _, rfl, Nat.zero_le _, fun i hi => by omega⟩, rfl⟩
            · simp only [SRs, SR]
              exact ⟨_, _, rfl, ⟨trivial, none, 0, rfl, Nat.le_refl _, fun i hi => by omega⟩, rfl⟩
          · rw [hb] at hget
            have each : ∀ i, i < len → ∃ as cs1, shCs cs' as ∧ SRs βo W as cs1 ∧ W.cells? 0 (a.add (i * lenCs cs')) (lenCs cs') = some cs1 := by
              intro i hi
              have := hget i hi
              have hlt : i < elems.length := by omega
              rw [List.getElem?_eq_getElem hlt, Option.bind_eq_some_iff] at this
              obtain ⟨cs1, hc, hd⟩ := this
              obtain ⟨as, h1, h2⟩ := read k n e agg' cs' cs1 _ he hd
              exact ⟨as, cs1, h1, h2, hc⟩
            have spot : 0 < len → a.spot = none := by
              intro h0
              obtain ⟨as, cs1, h1, h2, hc⟩ := each 0 h0
              obtain ⟨_, hl, hcell⟩ := World.cells?_some hc
              have h3 := hcell 0 hpos
              rw [List.getElem?_eq_getElem (by omega)] at h3
              have : (a.add (0 * lenCs cs')).add 0 = a := by simp [Addr.add]
              rw [this] at h3
              unfold World.cell? at h3
              split at h3
              · split at h3
                · cases h3
                · rename_i hs; simpa using hs
              · cases h3
            have addr : 0 < len → ∀ i j, (a.add (i * lenCs cs')).add j = ⟨a.block, a.off + (i * lenCs cs' + j), none⟩ := by
              intro h0 i j
              have hs := spot h0
              obtain ⟨b, f, s⟩ := a
              simp only at hs
              subst hs
              unfold Addr.add
              by_cases h1 : i * lenCs cs' = 0 <;> by_cases h2 : j = 0 <;> simp [h1, h2, Nat.add_assoc]
            refine ⟨[.arr (lenCs cs') len (fun i => if hi : i < len then (if agg' then .agg (Classical.choose (each i hi)) else (Classical.choose (each i hi)).headD .undef) else .undef) none], ?_, ?_⟩
            · simp only [shCs, shC]
              refine ⟨_, _, rfl, ⟨len, _, rfl, Nat.le_trans hlc hcm, fun i hi => ?_⟩, rfl⟩
              obtain ⟨cs1, h1, h2, hc⟩ := Classical.choose_spec (each i hi)
              refine ⟨fun ha => ⟨Classical.choose (each i hi), by simp [hi, ha], h1⟩, fun ha => ?_⟩
              subst ha
              simp only [hi, dif_pos, if_neg (show ¬(false = true) by decide)]
              generalize Classical.choose (each i hi) = z at h1 ⊢
              have hlen : z.length = 1 := (shCs_len h1).trans ((lenCs_eq _).symm.trans (desc_one he))
              obtain ⟨a1, rfl⟩ := List.length_eq_one_iff.1 hlen
              exact h1
            · simp only [SRs, SR]
              refine ⟨_, _, rfl, ⟨trivial, some a, cap, rfl, hlc, fun i hi => ?_⟩, rfl⟩
              obtain ⟨cs1, h1, h2, hc⟩ := Classical.choose_spec (each i hi)
              obtain ⟨_, hl, hcell⟩ := World.cells?_some hc
              have h0 : 0 < len := by omega
              have hs := spot h0
              have cell : ∀ j x, cs1[j]? = some x → W.cell? ⟨a.block, a.off + (i * lenCs cs' + j), none⟩ = some x ∧ safe βo a.block (a.off + (i * lenCs cs' + j)) := by
                intro j x hj
                have hlt : j < lenCs cs' := by rw [← hl]; exact (List.getElem?_eq_some_iff.1 hj).1
                refine ⟨?_, safe_o _ _⟩
                rw [← addr h0 i j, hcell j hlt]; exact hj
              have ones := SRs.ones (shCs_scalar h1) h2
              simp only [hi, dif_pos]
              generalize Classical.choose (each i hi) = z at h1 h2 ⊢
              have hbase : some a = some (⟨a.block, a.off, none⟩ : Addr) := by
                obtain ⟨b, f, s⟩ := a
                simp only at hs
                subst hs; rfl
              cases agg' with
              | true =>
                refine ⟨a.block, a.off, .agg cs1.toArray, hbase, ?_, ?_, ?_, ?_⟩
                · simp only [SR, if_true]; exact ⟨_, rfl, by simpa using h2⟩
                · simp [Value.cells, hl]
                · simpa [Value.cells] using ones
                · simpa [Value.cells] using cell
              | false =>
                have hlen := desc_one he
                have hl1 : cs1.length = 1 := hl.trans hlen
                obtain ⟨y, rfl⟩ := List.length_eq_one_iff.1 hl1
                have hz : z.length = 1 := (shCs_len h1).trans ((lenCs_eq _).symm.trans hlen)
                obtain ⟨u, rfl⟩ := List.length_eq_one_iff.1 hz
                have hy : y.oneCell' = true := ones y (by simp)
                have hcy : y.cells = #[y] := by cases y <;> first | rfl | cases hy
                have hsr : SR βo W u y := by
                  simp only [SRs] at h2
                  obtain ⟨x', xs, e, h3, _⟩ := h2
                  cases e
                  exact h3
                refine ⟨a.block, a.off, y, hbase, by simpa using hsr, by rw [hcy, hlen]; rfl, by simpa [hcy] using hy, by simpa [hcy] using cell⟩
        · cases h
      · cases h
    · rename_i fs hu
      split at h
      · rename_i cs' hd
        split at h
        · rename_i hb
          cases h
          rw [Nat.beq_eq] at hb
          obtain ⟨xs, n, _, _, hl, hxs, hf⟩ := DataW.trod_struct hu hx
          obtain ⟨as, a1, a2⟩ := read_fs (m := n) (fun t agg cts cs x h1 h2 => read k n t agg cts cs x h1 h2) fs.toList 0 cts cs hd (by omega) (fun f hfm => by
            obtain ⟨i, hi⟩ := List.getElem?_of_mem hfm
            have hi' : fs[i]? = some f := by simpa using hi
            have := hf i f hi'
            have hlt : i < xs.length := by
              rw [hxs]
              exact (Array.getElem?_eq_some_iff.1 hi').1
            rw [List.getElem?_eq_getElem hlt] at this
            exact ⟨_, this⟩)
          exact ⟨as, a1, a2⟩
        · cases h
      · cases h
    · cases h
end
end Go.Proofs.Ytkjegegjkeeemaa.Ev
