/- A region whose order is open: whatever order is drawn. -/
import Derived.Test.YtkjegegjkeeemaaEvW
set_option linter.all false
namespace Go.Proofs.Ytkjegegjkeeemaa.Ev
open Go

def okAt (base : Nat) (d : DOp) (m : Nat) : Bool := Nat.blt m base || memN (m - base) d.pre
theorem blt_self (b n : Nat) : Nat.blt (b + n) b = false := by
  cases h : Nat.blt (b + n) b with
  | false => rfl
  | true => rw [Nat.blt_eq] at h; omega
theorem memN_iff {n : Nat} : ∀ {l : List Nat}, memN n l = true ↔ n ∈ l
  | [] => by simp [memN]
  | m :: ms => by simp [memN, memN_iff]

section
variable {P : Program} {N : Nat} {R : Type} {K : AE → St → Option R} {res : R} {base : Nat}

/-- One draw: the step's own names and looks. -/
noncomputable def dStep (E : Env) (base : Nat) (d : DOp) (K : St → Option R) (st : St) : Option R := evalStep E true (okAt base d) (layAt (base + d.no) st.h) d.op K st
theorem evalDraw_cons (E : Env) (d : DOp) (L : List DOp) (st : St) : evalDraw E base K (d :: L) st = dStep E base d (evalDraw E base K L) st := rfl

structure PairOK (a d : DOp) : Prop where
  lt : a.no < d.no
  pre : ∀ j ∈ a.pre, j < a.no
  free : a.no ∉ d.pre
  sw : swap a.op d.op = true

theorem bubble {E : Env} (hE : CallLaw E.call) {d : DOp} {B : List DOp} : ∀ (A : List DOp) (st : St), (∀ a ∈ A, PairOK a d) → evalDraw E base K (A ++ d :: B) st = some res → dStep E base d (evalDraw E base K (A ++ B)) st = some res
  | [], st, _, he => he
  | a :: A, st, hp, he => by
    rw [List.cons_append, evalDraw_cons] at he
    obtain ⟨st1, h1, h2⟩ := goes_step E hE true (okAt base a) (layAt (base + a.no) st.h) a.op st R _ res he
    have h3 := bubble hE A st1 (fun x hx => hp x (List.mem_cons_of_mem _ hx)) h1
    have h4 : dStep E base a (fun s => dStep E base d (evalDraw E base K (A ++ B)) s) st = some res := h2 R _ res h3
    have p := hp a (List.mem_cons_self ..)
    refine swap_steps hE p.sw ?_ ?_ ?_ h4
    · have := p.lt; omega
    · have hlt := p.lt
      simp only [okAt, Bool.or_eq_false_iff]
      refine ⟨blt_self _ _, ?_⟩
      rw [Nat.add_sub_cancel_left]
      cases hm : memN d.no a.pre with
      | false => rfl
      | true => exact absurd (p.pre _ (memN_iff.1 hm)) (by omega)
    · simp only [okAt, Bool.or_eq_false_iff]
      refine ⟨blt_self _ _, ?_⟩
      rw [Nat.add_sub_cancel_left]
      cases hm : memN a.no d.pre with
      | false => rfl
      | true => exact absurd (memN_iff.1 hm) p.free

/-- What the look at a drawn region's text has shown. -/
structure DrawOK (P : Program) (N : Nat) (ops : Array Oper) (ds : List DOp) : Prop where
  len : ds.length = ops.size
  at_ : ∀ (i : Nat) (d : DOp), ds[i]? = some d → d.no = i ∧ (∀ j ∈ d.pre, j < i) ∧ ∃ o, ops[i]? = some o ∧ okOper P N ops o d.op = true ∧ (∀ e ∈ o.after, Region.binds .any e = true → e.on < i) ∧
    ∀ j ∈ d.pre, ∃ e ∈ o.after, Region.binds .any e = true ∧ (e.on = j ∨ ∃ d', ds[e.on]? = some d' ∧ j ∈ d'.pre)
  sw : ∀ a ∈ ds, ∀ b ∈ ds, a.no < b.no → a.no ∈ b.pre ∨ swap a.op b.op = true

theorem okDraw_sound {ops : Array Oper} {pres : List (List Nat)} : ∀ {os : List Oper} {ds : List DOp} {i : Nat}, okDraw P N ops pres os ds i = true → ds.length = os.length ∧
    ∀ (k : Nat) (d : DOp), ds[k]? = some d → d.no = i + k ∧ (∀ j ∈ d.pre, j < i + k) ∧ ∃ o, os[k]? = some o ∧ okOper P N ops o d.op = true ∧ (∀ e ∈ o.after, Region.binds .any e = true → e.on < i + k) ∧ okPre ops pres o d.pre = true
  | [], [], _, _ => ⟨rfl, fun k d h => by simp at h⟩
  | [], _ :: _, _, h => by cases h
  | _ :: _, [], _, h => by cases h
  | o :: os, m :: ms, i, h => by
    simp only [okDraw, Bool.and_eq_true, Nat.beq_eq] at h
    obtain ⟨⟨⟨⟨⟨h1, h2⟩, h3⟩, h4⟩, h5⟩, h6⟩ := h
    obtain ⟨k1, k2⟩ := okDraw_sound h6
    refine ⟨by simp [k1], fun k d hd => ?_⟩
    cases k with
    | zero =>
      simp only [List.getElem?_cons_zero, Option.some.injEq] at hd
      subst hd
      refine ⟨h2, fun j hj => by have := List.all_eq_true.1 h4 j hj; simpa using this, o, rfl, h1, fun e he hb => ?_, h3⟩
      have := List.all_eq_true.1 h5 e (Array.mem_toList_iff.2 he)
      rw [hb] at this
      simpa using this
    | succ k =>
      rw [List.getElem?_cons_succ] at hd
      obtain ⟨q1, q2, o', q3, q4, q5, q6⟩ := k2 k d hd
      exact ⟨by omega, fun j hj => by have := q2 j hj; omega, o', by rw [List.getElem?_cons_succ]; exact q3, q4, fun e he hb => by have := q5 e he hb; omega, q6⟩

theorem drawOK {ops : Array Oper} {ds : List DOp} (h : okDraw P N ops (ds.map (·.pre)) ops.toList ds 0 = true) (hs : okSwaps ds = true) : DrawOK P N ops ds := by
  obtain ⟨h1, h2⟩ := okDraw_sound h
  refine ⟨by simpa using h1, fun i d hd => ?_, fun a ha b hb hlt => ?_⟩
  · obtain ⟨q1, q2, o, q3, q4, q5, q6⟩ := h2 i d hd
    refine ⟨by omega, fun j hj => by have := q2 j hj; omega, o, by simpa using q3, q4, fun e he hb => by have := q5 e he hb; omega, fun j hj => ?_⟩
    simp only [okPre] at q6
    have := List.all_eq_true.1 q6 j hj
    obtain ⟨e, he, hbe⟩ := List.any_eq_true.1 this
    simp only [Bool.and_eq_true, Bool.or_eq_true, Nat.beq_eq] at hbe
    refine ⟨e, Array.mem_toList_iff.1 he, hbe.1, hbe.2.imp id (fun hm => ?_)⟩
    have hm := memN_iff.1 hm
    cases hde : ds[e.on]? with
    | none => rw [List.getD_eq_getElem?_getD, List.getElem?_map, hde] at hm; cases hm
    | some d' => rw [List.getD_eq_getElem?_getD, List.getElem?_map, hde] at hm; exact ⟨d', rfl, hm⟩
  · have := List.all_eq_true.1 (List.all_eq_true.1 hs b hb) a ha
    simp only [Bool.or_eq_true, Bool.not_eq_true'] at this
    rcases this with (this | this) | this
    · have hb : Nat.blt a.no b.no = true := by simpa using hlt
      rw [hb] at this; cases this
    · exact .inl (memN_iff.1 this)
    · exact .inr this

/-- Who is still to come. -/
structure Left (ops : Array Oper) (ds L : List DOp) (listed : Array Bool) : Prop where
  size : listed.size = ops.size
  sub : ∀ d ∈ L, d ∈ ds
  inc : L.Pairwise (fun a b => a.no < b.no)
  iff : ∀ i : Nat, listed.getD i true = false ↔ ∃ d ∈ L, d.no = i
  closed : ∀ d ∈ ds, (∀ d' ∈ L, d'.no ≠ d.no) → ∀ j ∈ d.pre, ∀ d' ∈ L, d'.no ≠ j

theorem listed_true {ops : Array Oper} {ds L : List DOp} {listed : Array Bool} (l : Left ops ds L listed) {i : Nat} (h : listed.getD i false = true) : ∀ d ∈ L, d.no ≠ i := by
  intro d hd e
  have := (l.iff i).2 ⟨d, hd, e⟩
  rw [Array.getD_eq_getD_getElem?] at h this
  cases hx : listed[i]? with
  | none => rw [hx] at h; cases h
  | some b => rw [hx] at h this; simp at h this; rw [h] at this; cases this

theorem draw_at {ds : List DOp} {ops : Array Oper} (D : DrawOK P N ops ds) {d : DOp} (hd : d ∈ ds) : ds[d.no]? = some d := by
  obtain ⟨i, hi⟩ := List.mem_iff_getElem?.1 hd
  have := (D.at_ i d hi).1
  rw [this]; exact hi

theorem left_take {ops : Array Oper} {ds : List DOp} (D : DrawOK P N ops ds) {A B : List DOp} {d : DOp} {listed : Array Bool} (l : Left ops ds (A ++ d :: B) listed)
    (hpre : ∀ j ∈ d.pre, ∀ d' ∈ A ++ d :: B, d'.no ≠ j) : Left ops ds (A ++ B) (listed.setIfInBounds d.no true) := by
  have hsub : ∀ x ∈ A ++ B, x ∈ A ++ d :: B := fun x hx => by
    rcases List.mem_append.1 hx with hx | hx
    · exact List.mem_append.2 (.inl hx)
    · exact List.mem_append.2 (.inr (List.mem_cons_of_mem _ hx))
  have hne : ∀ x ∈ A ++ B, x.no ≠ d.no := fun x hx => by
    have hinc := l.inc
    rw [List.pairwise_append] at hinc
    obtain ⟨_, i2, i3⟩ := hinc
    rcases List.mem_append.1 hx with hx | hx
    · have := i3 x hx d (List.mem_cons_self ..); omega
    · have := (List.pairwise_cons.1 i2).1 x hx; omega
  refine ⟨by simp [l.size], fun x hx => l.sub x (hsub x hx), ?_, fun i => ?_, fun x hx hno j hj d' hd' => ?_⟩
  · have hinc := l.inc
    rw [List.pairwise_append] at hinc ⊢
    obtain ⟨i1, i2, i3⟩ := hinc
    exact ⟨i1, (List.pairwise_cons.1 i2).2, fun x hx y hy => i3 x hx y (List.mem_cons_of_mem _ hy)⟩
  · by_cases e : i = d.no
    · subst e
      constructor
      · intro h
        exfalso
        rw [Array.getD_eq_getD_getElem?] at h
        by_cases hlt : d.no < listed.size
        · rw [Array.getElem?_setIfInBounds_self_of_lt hlt] at h; cases h
        · rw [Array.getElem?_eq_none (by simp; omega)] at h; cases h
      · rintro ⟨x, hx, e⟩
        exact absurd e (hne x hx)
    · have : (listed.setIfInBounds d.no true).getD i true = listed.getD i true := by
        rw [Array.getD_eq_getD_getElem?, Array.getD_eq_getD_getElem?, Array.getElem?_setIfInBounds_ne (by omega)]
      rw [this, l.iff]
      constructor
      · rintro ⟨x, hx, e2⟩
        refine ⟨x, ?_, e2⟩
        rcases List.mem_append.1 hx with hx | hx
        · exact List.mem_append.2 (.inl hx)
        · rcases List.mem_cons.1 hx with rfl | hx
          · exact absurd e2.symm e
          · exact List.mem_append.2 (.inr hx)
      · rintro ⟨x, hx, e2⟩
        exact ⟨x, hsub x hx, e2⟩
  · by_cases e : x.no = d.no
    · have : x = d := by
        have h1 := draw_at D hx
        have h2 := draw_at D (l.sub d (List.mem_append.2 (.inr (List.mem_cons_self ..))))
        rw [e, h2] at h1; exact (Option.some.inj h1).symm
      subst this
      exact hpre j hj d' (hsub d' hd')
    · refine l.closed x hx (fun y hy e2 => ?_) j hj d' (hsub d' hd')
      rcases List.mem_append.1 hy with hy | hy
      · exact hno y (List.mem_append.2 (.inl hy)) e2
      · rcases List.mem_cons.1 hy with rfl | hy
        · exact e e2.symm
        · exact hno y (List.mem_append.2 (.inr hy)) e2

theorem draw_go {E : Env} (hL : CallLaw E.call) (hE : CallOK P E.call) {ops : Array Oper} {ds : List DOp} (D : DrawOK P N ops ds) {ro : Option Nat} {n : Nat} {Q : Exit → Act → World → Prop} : ∀ (k : Nat) (L : List DOp) (listed : Array Bool) (β : Bt) (w : World) (st : St) (a : Act),
    L.length = k → Left ops ds L listed → (∀ d ∈ L, st.h[base + d.no]? = some .free) → Rel P N β w st a → evalDraw E base K L st = some res →
    (∀ a' w', After P N β w (K .norm) res a' w' → Q .normal a' w') → wpAnyIn (FF ro) n P .any ops Q k listed a w
  | 0, L, listed, β, w, st, a, hk, l, hf, r, he, hQ => by
    have hL0 : L = [] := List.eq_nil_of_length_eq_zero hk
    subst hL0
    refine ⟨?_, hQ _ _ ⟨β, st, he, r, Ext.refl β w⟩⟩
    cases hr : Region.ready .any ops listed with
    | nil => rfl
    | cons i is =>
      have hi : i ∈ Region.ready .any ops listed := by rw [hr]; exact List.mem_cons_self ..
      obtain ⟨d, hd, _⟩ := (l.iff i).1 (mem_ready.1 hi).1
      cases hd
  | k + 1, L, listed, β, w, st, a, hk, l, hf, r, he, hQ => by
    refine ⟨fun hnil => ?_, fun i hi => ?_⟩
    · exfalso
      cases L with
      | nil => cases hk
      | cons d L =>
        have hd := draw_at D (l.sub d (List.mem_cons_self ..))
        obtain ⟨_, _, o, q3, q4, q5, q6⟩ := D.at_ d.no d hd
        have : d.no ∈ Region.ready .any ops listed := by
          refine mem_ready.2 ⟨(l.iff d.no).2 ⟨d, List.mem_cons_self .., rfl⟩, o, q3, fun e he' hb => ?_⟩
          have hlt := q5 e he' hb
          have hs : d.no < listed.size := by
            rw [l.size]; exact (Array.getElem?_eq_some_iff.1 q3).1
          have hx : listed.getD e.on true ≠ false := fun hx => by
            obtain ⟨x, hx, e2⟩ := (l.iff e.on).1 hx
            rcases List.mem_cons.1 hx with rfl | hx
            · omega
            · have := (List.pairwise_cons.1 l.inc).1 x hx; omega
          rw [Array.getD_eq_getD_getElem?, Array.getElem?_eq_getElem (by omega)] at hx ⊢
          simpa using hx
        rw [hnil] at this; cases this
    · obtain ⟨hi0, o, hio, hafter⟩ := mem_ready.1 hi
      obtain ⟨d, hdL, rfl⟩ := (l.iff i).1 hi0
      obtain ⟨A, B, rfl⟩ := List.append_of_mem hdL
      have hds := l.sub d hdL
      obtain ⟨_, q2, o', q3, q4, q5, q6⟩ := D.at_ d.no d (draw_at D hds)
      rw [hio] at q3; cases q3
      have hpre : ∀ j ∈ d.pre, ∀ d' ∈ A ++ d :: B, d'.no ≠ j := by
        intro j hj
        obtain ⟨e, he', hb, hej⟩ := q6 j hj
        have hle := listed_true l (hafter e he' hb)
        rcases hej with rfl | ⟨d', hd', hj'⟩
        · exact hle
        · have hno := (D.at_ _ d' hd').1
          exact l.closed d' (List.mem_of_getElem? hd') (by rw [hno]; exact hle) j hj'
      have hpair : ∀ x ∈ A, PairOK x d := by
        intro x hx
        have hxL : x ∈ A ++ d :: B := List.mem_append.2 (.inl hx)
        have hlt : x.no < d.no := by
          have hinc := l.inc
          rw [List.pairwise_append] at hinc
          exact hinc.2.2 x hx d (List.mem_cons_self ..)
        have hfree : x.no ∉ d.pre := fun hm => hpre _ hm x hxL rfl
        exact ⟨hlt, (D.at_ x.no x (draw_at D (l.sub x hxL))).2.1, hfree, (D.sw x (l.sub x hxL) d hds hlt).resolve_left hfree⟩
      have hb := bubble hL A st hpair he
      -- a step leaves the others' names free
      have inv : dStep E base d (fun s => open Classical in if (∀ x ∈ A ++ B, s.h[base + x.no]? = some .free) then evalDraw E base K (A ++ B) s else none) st = some res := by
        obtain ⟨v, c, k1, k2, k3⟩ := step_frame hL hb
        refine k3 _ st ⟨fun _ _ => rfl, fun _ _ _ => rfl⟩ (fun _ _ _ => rfl) ?_
        rw [if_pos]
        · exact k1
        · intro x hx
          have hxL : x ∈ A ++ d :: B := by
            rcases List.mem_append.1 hx with hx | hx
            · exact List.mem_append.2 (.inl hx)
            · exact List.mem_append.2 (.inr (List.mem_cons_of_mem _ hx))
          have hne : x.no ≠ d.no := by
            have hinc := l.inc
            rw [List.pairwise_append] at hinc
            rcases List.mem_append.1 hx with hx | hx
            · have := hinc.2.2 x hx d (List.mem_cons_self ..); omega
            · have := (List.pairwise_cons.1 hinc.2.1).1 x hx; omega
          have h0 := hf x hxL
          cases c with
          | none => exact h0
          | some p =>
            obtain ⟨m, ob⟩ := p
            show (st.h.set m ob)[base + x.no]? = some .free
            have hm : m ≠ base + x.no := by
              intro e
              rcases k2 m ob rfl with e2 | ⟨_, e2, _⟩
              · omega
              · rw [e, h0] at e2; simp [kindOf, meets] at e2
            rw [List.getElem?_set_ne hm]; exact h0
      refine step_go hE r hio q4 (lay := layAt (base + d.no) st.h) (fun ob => .inr ⟨hf d hdL, rfl⟩) inv (fun a' w' h => ?_)
      obtain ⟨β', st', h1, h2, h3⟩ := h
      simp only at h1
      split at h1
      · rename_i hf'
        refine draw_go hL hE D k (A ++ B) _ β' w' st' a' (by simp at hk ⊢; omega) (left_take D l hpre) hf' h2 h1 (fun a'' w'' h => ?_)
        obtain ⟨β'', st'', h4, h5, h6⟩ := h
        exact hQ _ _ ⟨β'', st'', h4, h5, h3.trans h6⟩
      · cases h1

theorem left_all {ops : Array Oper} {ds : List DOp} (D : DrawOK P N ops ds) : Left ops ds ds (Array.replicate ops.size false) := by
  refine ⟨by simp, fun d h => h, ?_, fun i => ?_, fun d hd hno => absurd rfl (hno d hd)⟩
  · rw [List.pairwise_iff_getElem]
    intro i j hi hj hlt
    have h1 := (D.at_ i _ (List.getElem?_eq_getElem hi)).1
    have h2 := (D.at_ j _ (List.getElem?_eq_getElem hj)).1
    omega
  · constructor
    · intro h
      have hlt : i < ops.size := by
        rw [Array.getD_eq_getD_getElem?] at h
        by_cases hlt : i < ops.size
        · exact hlt
        · rw [Array.getElem?_eq_none (by simpa using hlt)] at h; cases h
      have hi : i < ds.length := by rw [D.len]; exact hlt
      exact ⟨ds[i], List.getElem_mem hi, (D.at_ i _ (List.getElem?_eq_getElem hi)).1⟩
    · rintro ⟨d, hd, rfl⟩
      have := draw_at D hd
      have hlt : d.no < ops.size := by rw [← D.len]; exact (List.getElem?_eq_some_iff.1 this).1
      rw [Array.getD_eq_getD_getElem?, Array.getElem?_replicate, if_pos hlt]; rfl
end
end Go.Proofs.Ytkjegegjkeeemaa.Ev
