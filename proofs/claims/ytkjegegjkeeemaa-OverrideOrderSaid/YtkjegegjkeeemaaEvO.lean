/- Append. -/
import Derived.Test.YtkjegegjkeeemaaEvN
set_option linter.all false
namespace Go.Proofs.Ytkjegegjkeeemaa.Ev
open Go

variable {P : Program} {β β' : Bt} {w w' : World} {h h2 : List AO} {t : Tr} {a : Act} {o : Oper} {R : Type} {K : AV → List AO → Option R} {res : R}

theorem Elems.list {s : Nat} {f : Nat → Option Value} : ∀ {n : Nat} {get : Nat → AV}, Elems β w s n get f →
    ∃ l : List Value, l.length = n * s ∧ (∀ q x, l[q]? = some x → f q = some x) ∧ Elems β w s n get (fun q => l[q]?) ∧ ∀ u ∈ l, u.oneCell' = true
  | 0, _, _ => ⟨[], by simp, by simp, fun i hi => absurd hi (Nat.not_lt_zero _), by simp⟩
  | n + 1, get, hE => by
    obtain ⟨l, h1, h2, h3, h4⟩ := Elems.list (n := n) (get := get) (fun i hi => hE i (Nat.lt_succ_of_lt hi))
    obtain ⟨v, k1, k2, k3, k4⟩ := hE n (Nat.lt_succ_self n)
    refine ⟨l ++ v.cells.toList, ?_, fun q x hq => ?_, fun i hi => ?_, fun u hu => ?_⟩
    · simp [h1, k2, Nat.add_mul]
    · rcases Nat.lt_or_ge q l.length with hlt | hge
      · rw [List.getElem?_append_left hlt] at hq; exact h2 q x hq
      · rw [List.getElem?_append_right hge] at hq
        have := k4 (q - l.length) x (by simpa using hq)
        rwa [h1, Nat.add_sub_cancel' (by omega)] at this
    · rcases Nat.lt_or_ge i n with hlt | hge
      · obtain ⟨y, y1, y2, y3, y4⟩ := h3 i hlt
        refine ⟨y, y1, y2, y3, fun j x hj => ?_⟩
        have := y4 j x hj
        have hlt' : i * s + j < l.length := (List.getElem?_eq_some_iff.1 this).1
        simp only [List.getElem?_append_left hlt']; exact this
      · obtain rfl : i = n := by omega
        refine ⟨v, k1, k2, k3, fun j x hj => ?_⟩
        have hge' : l.length ≤ i * s + j := by omega
        simp only [List.getElem?_append_right hge', h1, Nat.add_sub_cancel_left]
        simpa using hj
    · rcases List.mem_append.1 hu with hu | hu
      · exact h4 u hu
      · exact k3 u hu

/-- Rows of elements, one behind the other. -/
theorem Elems.join {s n k : Nat} {g gy : Nat → AV} {l m : List Value} (hl : l.length = n * s) (h1 : Elems β w s n g (fun q => l[q]?)) (h2 : Elems β w s k gy (fun q => m[q]?)) (rest : List Value) :
    Elems β w s (n + k) (joinG n g k gy) (fun q => (l ++ m ++ rest)[q]?) := by
  have left : ∀ q x, l[q]? = some x → (l ++ m ++ rest)[q]? = some x := fun q x hq => by
    have hlt : q < l.length := (List.getElem?_eq_some_iff.1 hq).1
    rw [List.append_assoc, List.getElem?_append_left hlt]; exact hq
  have right : ∀ q x, m[q]? = some x → (l ++ m ++ rest)[l.length + q]? = some x := fun q x hq => by
    have hlt : q < m.length := (List.getElem?_eq_some_iff.1 hq).1
    rw [List.append_assoc, List.getElem?_append_right (by omega), Nat.add_sub_cancel_left, List.getElem?_append_left hlt]; exact hq
  intro i hi
  have sel : (i < n → joinG n g k gy i = g i) ∧ (n ≤ i → joinG n g k gy i = gy (i - n)) := by
    unfold joinG
    constructor
    · intro hin
      have h3 : Nat.beq i n = false := by
        cases e : Nat.beq i n with
        | false => rfl
        | true => have := Nat.eq_of_beq_eq_true e; omega
      have h4 : Nat.blt i n = true := by simpa [Nat.blt_eq] using hin
      cases Nat.beq k 1 <;> simp [h3, h4]
    · intro hin
      have h4 : Nat.blt i n = false := by
        cases e : Nat.blt i n with
        | false => rfl
        | true => have : i < n := by simpa [Nat.blt_eq] using e
                  omega
      cases hk : Nat.beq k 1 with
      | false => simp [h4]
      | true =>
        have hk := Nat.eq_of_beq_eq_true hk
        have : i = n := by omega
        subst this
        have h5 : Nat.beq i i = true := by simp
        simp [h5]
  rcases Nat.lt_or_ge i n with hlt | hge
  · obtain ⟨y, y1, y2, y3, y4⟩ := h1 i hlt
    rw [sel.1 hlt]
    exact ⟨y, y1, y2, y3, fun j x hj => left _ _ (y4 j x hj)⟩
  · obtain ⟨y, y1, y2, y3, y4⟩ := h2 (i - n) (by omega)
    rw [sel.2 hge]
    refine ⟨y, y1, y2, y3, fun j x hj => ?_⟩
    have := right _ _ (y4 j x hj)
    have e : i * s + j = l.length + ((i - n) * s + j) := by
      rw [hl, ← Nat.add_assoc, ← Nat.add_mul, Nat.add_sub_cancel' hge]
    rw [e]; exact this

theorem Elems.ext {s n : Nat} {g : Nat → AV} {f : Nat → Option Value} (kp : Keeps β w β' w') (hE : Elems β w s n g f) : Elems β' w' s n g f := fun i hi => by
  obtain ⟨y, y1, y2⟩ := hE i hi
  exact ⟨y, SR.keeps kp _ _ y1, y2⟩

/-- A row in a block, its cells safe, is a still value. -/
theorem Elems.sr {s n cap b f : Nat} {g : Nat → AV} (hE : Elems β w s n g (fun q => w.cell? ⟨b, f + q, none⟩)) (hc : n ≤ cap) (hs : ∀ q, q < n * s → safe β b (f + q)) : SR β w (.arr s n g none) (.slice (some ⟨b, f, none⟩) n cap) := by
  simp only [SR]
  refine ⟨trivial, _, cap, rfl, hc, fun i hi => ?_⟩
  obtain ⟨y, y1, y2, y3, y4⟩ := hE i hi
  refine ⟨b, f, y, rfl, y1, y2, y3, fun j x hj => ⟨y4 j x hj, hs _ ?_⟩⟩
  have hj' : j < s := by rw [← y2]; exact (Array.getElem?_eq_some_iff.1 hj).1
  have : (i + 1) * s ≤ n * s := Nat.mul_le_mul_right s hi
  rw [Nat.add_mul, Nat.one_mul] at this; omega
theorem SR.elems {s n : Nat} {g : Nat → AV} {tok : Option Nat} {x : Value} (hx : SR β w (.arr s n g tok) x) : ∃ base cap, x = .slice base n cap ∧ n ≤ cap ∧
    (0 < n → ∃ b f, base = some ⟨b, f, none⟩ ∧ Elems β w s n g (fun q => w.cell? ⟨b, f + q, none⟩)) := by
  simp only [SR] at hx
  obtain ⟨_, base, cap, rfl, hc, hel⟩ := hx
  refine ⟨base, cap, rfl, hc, fun hn => ?_⟩
  obtain ⟨b, f, _, rfl, _⟩ := hel 0 hn
  refine ⟨b, f, rfl, fun i hi => ?_⟩
  obtain ⟨b', f', y, e, y1, y2, y3, y4⟩ := hel i hi
  cases e
  exact ⟨y, y1, y2, y3, fun j x hj => (y4 j x hj).1⟩

theorem chunks_sound {agg : Bool} {s : Nat} : ∀ {n : Nat} {cs : List AV} {l : List Value} {vs : List AV}, VRs β w cs l → n * s ≤ cs.length → mapO strip (chunks agg s cs n) = some vs →
    allB (fun v => Nat.beq v.cells.length s && allB isScalar v.cells && (agg || isScalar v)) vs = true → Elems β w s n (fun i => vs.getD i .undef) (fun q => l[q]?)
  | 0, _, _, _, _, _, _, _ => fun i hi => absurd hi (Nat.not_lt_zero _)
  | n + 1, cs, l, vs, hv, hl, he, hs => by
    have hlen := VRs.length hv
    rw [Nat.add_mul, Nat.one_mul] at hl
    simp only [chunks, mapO] at he
    split at he
    · rename_i v vs' e1 e2
      cases he
      simp only [allB] at hs
      split at hs
      · rename_i hc
        simp only [Bool.and_eq_true, Nat.beq_eq, Bool.or_eq_true] at hc
        obtain ⟨⟨c1, c2⟩, c3⟩ := hc
        have ih := chunks_sound (n := n) (VRs.drop s hv) (by simp; omega) e2 hs
        rw [allB_iff] at c2
        intro i hi
        cases i with
        | zero =>
          cases agg with
          | true =>
            have hsr := strip_sound (x := .agg (l.take s).toArray) (by simp only [VR]; exact ⟨_, rfl, by simpa using VRs.take s hv⟩) e1
            obtain ⟨k1, k2⟩ := SR.cells hsr c2
            refine ⟨_, hsr, by simp [Value.cells]; omega, k2, fun j x hj => ?_⟩
            simp only [Value.cells, List.getElem?_toArray, List.getElem?_take] at hj
            split at hj
            · simpa using hj
            · cases hj
          | false =>
            cases cs with
            | nil => simp [List.headD] at e1; simp [strip, purify, purStep] at e1
            | cons c cs =>
              simp only [VRs] at hv
              obtain ⟨x, xs, rfl, hx, _⟩ := hv
              simp only [List.headD_cons] at e1
              have hsr := strip_sound hx e1
              obtain ⟨k1, k2⟩ := SR.cells hsr c2
              have c3 : isScalar v = true := by
                rcases c3 with c3 | c3
                · cases c3
                · exact c3
              have hvc : v.cells = [v] := by cases v <;> first | rfl | (exact absurd c3 (by simp [isScalar]))
              have hs1 : s = 1 := by rw [hvc] at c1; simpa using c1.symm
              subst hs1
              have hxc : x.cells = #[x] := by
                have : x.oneCell' = true := by
                  have hy : x.cells = #[x] ∨ ∃ z, x = .agg z := by cases x <;> simp [Value.cells]
                  rcases hy with e | ⟨z, rfl⟩
                  · exact k2 x (by rw [e]; simp)
                  · cases v <;> simp [SR, isScalar] at hsr c3
                cases x <;> first | rfl | (simp [Value.oneCell'] at this)
              refine ⟨x, hsr, by rw [hxc]; rfl, k2, fun j y hj => ?_⟩
              rw [hxc] at hj
              cases j with
              | zero => simp at hj; subst hj; simp
              | succ j => simp at hj
        | succ i =>
          obtain ⟨y, y1, y2, y3, y4⟩ := ih i (by omega)
          refine ⟨y, by simpa using y1, y2, y3, fun j x hj => ?_⟩
          have := y4 j x hj
          simp only [List.getElem?_drop] at this
          rw [Nat.add_mul, Nat.one_mul, show i * s + s + j = s + (i * s + j) by omega]; exact this
      · cases hs
    · cases he

theorem appArg_sound (hk : HR P β w h) {agg : Bool} {s k : Nat} {ok : Nat → Bool} {y : AV} {y' : Value} {gy : Nat → AV} (hy : VR β w y y') (he : appArg agg s ok h y = some (k, gy)) :
    ∃ base c, y' = .slice base k c ∧ (0 < k → ∃ b f, base = some ⟨b, f, none⟩ ∧ Elems β w s k gy (fun q => w.cell? ⟨b, f + q, none⟩)) := by
  unfold appArg at he
  split at he
  · cases he
    simp only [VR] at hy
    exact ⟨none, 0, hy, fun h => absurd h (Nat.lt_irrefl _)⟩
  · split at he
    · rename_i hs
      have hs := Nat.eq_of_beq_eq_true hs
      subst hs
      cases he
      simp only [VR] at hy
      obtain ⟨base, cap, e, _, hel⟩ := SR.elems hy.1
      exact ⟨base, cap, e, hel⟩
    · cases he
  · rename_i m off n cap
    split at he
    · split at he
      · rename_i cs ty hm
        split at he
        · rename_i vs hvs
          split at he
          · rename_i hc
            cases he
            simp only [Bool.and_eq_true, Nat.ble_eq] at hc
            simp only [VR] at hy
            obtain ⟨b, hb, e⟩ := hy
            obtain ⟨b', cs', e3, e4, e5⟩ := hk.obj m _ _ hm hb
            cases e3
            have := chunks_sound (VRs.drop off e5) (by simp; omega) hvs hc.2
            refine ⟨_, _, e, fun _ => ⟨b, off, rfl, fun i hi => ?_⟩⟩
            obtain ⟨y, y1, y2, y3, y4⟩ := this i hi
            refine ⟨y, y1, y2, y3, fun j x hj => ?_⟩
            have := y4 j x hj
            simp only [List.getElem?_drop] at this
            simp only [World.cell?, e4]
            simpa using this
          · cases he
        · cases he
      · cases he
    · cases he
  · cases he

/-! ### The block that append lays -/
theorem size_zero (z : Array Value) (n : Nat) : (Builtin.zeroCells z n).size = n * z.size := size_zeroCells z n

theorem grow_done (hk : HR P β w h) {s n k cap e m : Nat} {g gy : Nat → AV} {l news : List Value} {zs : Array Value} {obj : Obj} (hs0 : 0 < s) (hkk : 0 < k)
    (hl : l.length = n * s) (h1 : Elems β w s n g (fun q => l[q]?)) (hm : news.length = k * s) (h2e : Elems β w s k gy (fun q => news[q]?))
    (hobj : obj = .cells (l.toArray ++ news.toArray ++ zs) e) (hz : zs.size = (cap - (n + k)) * s) (hcap : n + k ≤ cap) (hmax : cap ≤ maxLen)
    (gr : Grew w w' obj) (st : SetAt β β' h h2 m (.tok e (n + k)) (.tok (some (w.heap.size, cap)) (n + k) s e)) (hle : ∀ y, β.own[m]? = some y → y.le (.tok (some (w.heap.size, cap)) (n + k) s e)) :
    HR P β' w' h2 ∧ Ext β w β' w' ∧ VR β' w' (.arr s (n + k) (joinG n g k gy) (some m)) (.slice (some ⟨w.heap.size, 0, none⟩) (n + k) cap) := by
  have ex : Ext β w β' w' := Ext.setGrew st gr rfl hle
  have hat := gr.at_
  rw [hobj] at hat
  have hr : HR P β' w' h2 := HR.setGrew hk st gr rfl ex ⟨_, s, rfl, _, hat, hcap, hmax, by
    simp [hl, hm, hz, ← Nat.add_mul]; rw [Nat.add_sub_cancel' hcap], hs0⟩
  refine ⟨hr, ex, ?_⟩
  have hE : Elems β w s (n + k) (joinG n g k gy) (fun q => (l ++ news ++ zs.toList)[q]?) := Elems.join hl h1 h2e zs.toList
  have hE2 : Elems β' w' s (n + k) (joinG n g k gy) (fun q => w'.cell? ⟨w.heap.size, 0 + q, none⟩) := fun i hi => by
    obtain ⟨y, y1, y2, y3, y4⟩ := Elems.ext ex.keeps hE i hi
    refine ⟨y, y1, y2, y3, fun j x hj => ?_⟩
    have := y4 j x hj
    simp only [World.cell?, hat, Nat.zero_add, Option.isSome_none, Bool.false_eq_true, if_false]
    simpa [← Array.getElem?_toList] using this
  simp only [VR]
  refine ⟨Elems.sr hE2 hcap (fun q hq => ?_), fun t' e' => ?_⟩
  · intro y hy
    rcases mem_all.1 hy with hy | hy
    · cases y with
      | free => trivial
      | obj b' =>
        intro e'
        have := hr.sep _ hy _ (List.mem_of_getElem? st.own) b' rfl
        exact this (by simp [Own.blk, e'])
      | tok c l' s' e'' => cases c with
        | none => trivial
        | some p =>
          obtain ⟨b', cap'⟩ := p
          intro e'
          have := hr.sep _ hy _ (List.mem_of_getElem? st.own) b' rfl
          exact absurd (by simp [Own.blk, e']) this
    · obtain ⟨n', hn'⟩ := List.mem_iff_getElem?.1 hy
      cases y with
      | free => trivial
      | obj b' =>
        intro e'
        have := hr.inj n' m _ _ b' hn' st.own rfl (by simp [Own.blk, e'])
        subst this; rw [st.own] at hn'; cases hn'
      | tok c l' s' e'' => cases c with
        | none => trivial
        | some p =>
          obtain ⟨b', cap'⟩ := p
          intro e'
          have := hr.inj n' m _ _ b' hn' st.own rfl (by simp [Own.blk, e'])
          subst this; rw [st.own] at hn'; cases hn'
          omega
  · cases e'
    exact ⟨_, _, _, _, st.own, Nat.le_refl _, fun _ _ => ⟨_, _, rfl, rfl, rfl⟩⟩

/-- A change at one name that is there. -/
theorem setAt_set (hk : HR P β w h) {m : Nat} {y : Own} (hy : β.own[m]? = some y) (o : AO) (x : Own) : SetAt β ⟨β.out, β.own.set m x⟩ h (h.set m o) m o x := by
  have hlt : m < β.own.length := (List.getElem?_eq_some_iff.1 hy).1
  have hlt' : m < h.length := by rw [hk.len]; exact hlt
  exact ⟨rfl, by simp [hk.len], by simp [hlt'], by simp [hlt], fun n hn => ⟨by simp [List.getElem?_set_ne (Ne.symm hn)], by simp [List.getElem?_set_ne (Ne.symm hn)]⟩⟩

/-- Append in place: the cells behind the row were the token's own. -/
theorem room_done (hk : HR P β w h) {s n k cap e m b : Nat} {g gy : Nat → AV} {news : List Value} {cur : Array Value} (hs0 : 0 < s) (hkk : 0 < k)
    (hb : β.own[m]? = some (.tok (some (b, cap)) n s e)) (hcur : w.heap[b]? = some (.cells cur e (0, 0))) (hsz : cur.size = cap * s) (hmax : cap ≤ maxLen)
    (h1 : Elems β w s n g (fun q => w.cell? ⟨b, 0 + q, none⟩)) (hm : news.length = k * s) (h2e : Elems β w s k gy (fun q => news[q]?)) (hcap : n + k ≤ cap) :
    ∃ β', HR P β' (w.setRow b (cur.toList.take (n * s) ++ news ++ cur.toList.drop (n * s + news.length)).toArray) (h.set m (.tok e (n + k))) ∧
      Ext β w β' (w.setRow b (cur.toList.take (n * s) ++ news ++ cur.toList.drop (n * s + news.length)).toArray) ∧
      VR β' (w.setRow b (cur.toList.take (n * s) ++ news ++ cur.toList.drop (n * s + news.length)).toArray) (.arr s (n + k) (joinG n g k gy) (some m)) (.slice (some ⟨b, 0, none⟩) (n + k) cap) := by
  have hle : (n + k) * s ≤ cap * s := Nat.mul_le_mul_right s hcap
  rw [Nat.add_mul] at hle
  have hlt : b < w.heap.size := (Array.getElem?_eq_some_iff.1 hcur).1
  generalize hW : w.setRow b (cur.toList.take (n * s) ++ news ++ cur.toList.drop (n * s + news.length)).toArray = W
  have hbut : But w W b := hW ▸ but_setRow w b _
  have hat : W.heap[b]? = some (.cells (cur.toList.take (n * s) ++ news ++ cur.toList.drop (n * s + news.length)).toArray e (0, 0)) := hW ▸ setRow_heap w b cur _ e _ hcur
  have st := setAt_set hk hb (.tok e (n + k)) (.tok (some (b, cap)) (n + k) s e)
  have ex : Ext β w ⟨β.out, β.own.set m (.tok (some (b, cap)) (n + k) s e)⟩ W := by
    refine ⟨rfl, fun n' y hn => ?_, by rw [hbut.size]; exact Nat.le_refl _, fun b' hb' ho => ⟨hbut.other b' (fun e' => ?_), fun y hy => ?_⟩, fun b' off v hc hs => ⟨?_, fun y hy => ?_⟩, hbut.os, hbut.tape, hbut.output⟩
    · by_cases en : n' = m
      · subst en; rw [hb] at hn; cases hn; exact ⟨_, st.own, .inl (by omega)⟩
      · exact ⟨y, (st.other n' en).1.trans hn, Own.le_refl y⟩
    · subst e'; exact ho _ (List.mem_of_getElem? hb) rfl
    · rcases st.mem y hy with rfl | ⟨n', _, hn'⟩
      · intro e'; exact ho _ (List.mem_of_getElem? hb) e'
      · exact ho y (List.mem_of_getElem? hn')
    · unfold World.cell? at hc ⊢
      simp only at hc ⊢
      by_cases e' : b' = b
      · subst e'
        have hoff : off < n * s := hs _ (mem_all.2 (.inr (List.mem_of_getElem? hb))) rfl
        rw [hcur] at hc; rw [hat]
        simp only [Option.isSome_none, Bool.false_eq_true, if_false] at hc ⊢
        simp only [List.getElem?_toArray]
        rw [List.append_assoc, List.getElem?_append_left (by simp; omega), List.getElem?_take, if_pos hoff, Array.getElem?_toList]
        exact hc
      · rw [hbut.other b' e']; exact hc
    · rcases mem_all.1 hy with hy | hy
      · exact hs y (mem_all.2 (.inl hy))
      · rcases st.mem y hy with rfl | ⟨n', _, hn'⟩
        · intro e'
          have hoff : off < n * s := hs _ (mem_all.2 (.inr (List.mem_of_getElem? hb))) e'
          rw [Nat.add_mul]; omega
        · exact hs y (mem_all.2 (.inr (List.mem_of_getElem? hn')))
  have hr : HR P ⟨β.out, β.own.set m (.tok (some (b, cap)) (n + k) s e)⟩ W (h.set m (.tok e (n + k))) := by
    refine ⟨st.len, fun n' o' y hn hy => ?_, fun n' n'' y z b' hy hz by' bz => ?_, fun y hy b' hb' => ?_, fun y hy z hz b' hb' => ?_⟩
    · by_cases en : n' = m
      · subst en
        rw [st.obj] at hn; rw [st.own] at hy; cases hn; cases hy
        exact ⟨_, s, rfl, _, hat, hcap, hmax, by rw [List.size_toArray, List.length_append, List.length_append, List.length_take, List.length_drop, Array.length_toList, hm, hsz]; omega, hs0⟩
      · obtain ⟨k1, k2⟩ := st.other n' en
        rw [k1] at hy; rw [k2] at hn
        refine OR.ext ex (fun b' hb' => hbut.other b' (fun e' => ?_)) (hk.obj n' o' y hn hy)
        subst e'
        exact en (hk.inj n' m y _ b' hy hb hb' rfl)
    · have same : ∀ (q : Nat) (u : Own), (β.own.set m (.tok (some (b, cap)) (n + k) s e))[q]? = some u → ∃ u', β.own[q]? = some u' ∧ u'.blk = u.blk := fun q u hq => by
        by_cases eq : q = m
        · subst eq; rw [st.own] at hq; cases hq; exact ⟨_, hb, rfl⟩
        · exact ⟨u, ((st.other q eq).1).symm.trans hq, rfl⟩
      obtain ⟨y', y1, y2⟩ := same n' y hy
      obtain ⟨z', z1, z2⟩ := same n'' z hz
      exact hk.inj n' n'' y' z' b' y1 z1 (y2.trans by') (z2.trans bz)
    · rw [hbut.size]
      rcases mem_all.1 hy with hy | hy
      · exact hk.lt y (mem_all.2 (.inl hy)) b' hb'
      · rcases st.mem y hy with rfl | ⟨n', _, hn'⟩
        · exact hk.lt _ (mem_all.2 (.inr (List.mem_of_getElem? hb))) b' hb'
        · exact hk.lt' n' y b' hn' hb'
    · rcases st.mem z hz with rfl | ⟨n', _, hn'⟩
      · exact hk.sep y hy _ (List.mem_of_getElem? hb) b' hb'
      · exact hk.sep y hy z (List.mem_of_getElem? hn') b' hb'
  refine ⟨_, hr, ex, ?_⟩
  -- the row, read off the old block
  have hl : (cur.toList.take (n * s)).length = n * s := by simp; omega
  have h1' : Elems β w s n g (fun q => (cur.toList.take (n * s))[q]?) := fun i hi => by
    obtain ⟨y, y1, y2, y3, y4⟩ := h1 i hi
    refine ⟨y, y1, y2, y3, fun j x hj => ?_⟩
    have hj' : j < s := by rw [← y2]; exact (Array.getElem?_eq_some_iff.1 hj).1
    have : (i + 1) * s ≤ n * s := Nat.mul_le_mul_right s hi
    rw [Nat.add_mul, Nat.one_mul] at this
    have := y4 j x hj
    simp only [World.cell?, hcur, Nat.zero_add, Option.isSome_none, Bool.false_eq_true, if_false] at this
    simp only [List.getElem?_take]
    rw [if_pos (by omega), Array.getElem?_toList]; exact this
  have hE := Elems.join hl h1' h2e (cur.toList.drop (n * s + news.length))
  have hE2 : Elems ⟨β.out, β.own.set m (.tok (some (b, cap)) (n + k) s e)⟩ W s (n + k) (joinG n g k gy) (fun q => W.cell? ⟨b, 0 + q, none⟩) := fun i hi => by
    obtain ⟨y, y1, y2, y3, y4⟩ := Elems.ext ex.keeps hE i hi
    refine ⟨y, y1, y2, y3, fun j x hj => ?_⟩
    have := y4 j x hj
    simp only [World.cell?, hat, Nat.zero_add, Option.isSome_none, Bool.false_eq_true, if_false]
    simpa using this
  simp only [VR]
  refine ⟨Elems.sr hE2 hcap (fun q hq => ?_), fun t' e' => ?_⟩
  · intro y hy
    rcases mem_all.1 hy with hy | hy
    · cases y with
      | free => trivial
      | obj b' => intro e'; exact hr.sep _ hy _ (List.mem_of_getElem? st.own) b' rfl (by simp [Own.blk, e'])
      | tok c l' s' e'' => cases c with
        | none => trivial
        | some p =>
          obtain ⟨b', cap'⟩ := p
          intro e'
          exact absurd (by simp [Own.blk, e']) (hr.sep _ hy _ (List.mem_of_getElem? st.own) b' rfl)
    · obtain ⟨n', hn'⟩ := List.mem_iff_getElem?.1 hy
      cases y with
      | free => trivial
      | obj b' =>
        intro e'
        have := hr.inj n' m _ _ b' hn' st.own rfl (by simp [Own.blk, e'])
        subst this; rw [st.own] at hn'; cases hn'
      | tok c l' s' e'' => cases c with
        | none => trivial
        | some p =>
          obtain ⟨b', cap'⟩ := p
          intro e'
          have := hr.inj n' m _ _ b' hn' st.own rfl (by simp [Own.blk, e'])
          subst this; rw [st.own] at hn'; cases hn'
          omega
  · cases e'
    exact ⟨_, _, _, _, st.own, Nat.le_refl _, fun _ _ => ⟨_, _, rfl, rfl, rfl⟩⟩
end Go.Proofs.Ytkjegegjkeeemaa.Ev
