/- Memory: what each block of the abstract machine says of the model's, and what a change leaves. -/
import Derived.Test.YtkjegegjkeeemaaEvD
import Derived.Maps.AppendAt
set_option linter.all false
namespace Go.Proofs.Ytkjegegjkeeemaa.Ev
open Go

def lsOf : LS → LoopState
  | .ready => .ready
  | .busy => .busy
  | .done => .done
  | .over => .exhausted
def ajOf : AJ → Option Code
  | .none => none
  | .ret => some .ret
  | .exit id => some (.exit id)

/-- Each is a value of some kind. -/
def VLs (β : Bt) (w : World) (vs : List AV) : Prop := ∀ v ∈ vs, ∃ x, VR β w v x
theorem VLs.ext {β β' : Bt} {w w' : World} {vs : List AV} (h : VLs β w vs) (e : Ext β w β' w') : VLs β' w' vs := fun v hv => let ⟨x, hx⟩ := h v hv; ⟨x, VR.ext e _ _ hx⟩

def OR (P : Program) (β : Bt) (w : World) : AO → Own → Prop
  | .free, x => x = .free
  | .cells cs t, x => ∃ b cs', x = .obj b ∧ w.heap[b]? = some (.cells cs' t (0, 0)) ∧ VRs β w cs cs'.toList
  | .tok e len, x => ∃ cur s, x = .tok cur len s e ∧ match cur with
    | none => len = 0
    | some (b, cap) => ∃ cells, w.heap[b]? = some (.cells cells e (0, 0)) ∧ len ≤ cap ∧ cap ≤ maxLen ∧ cells.size = cap * s ∧ 0 < s
  | .map ks vs, x => ∃ b es c, x = .obj b ∧ w.heap[b]? = some (.map es c) ∧ VRs β w ks (es.toList.map (·.key)) ∧ VRs β w vs (es.toList.map (·.val))
  | .loop st pend dp lv vs ps asg body, x => ∃ b fn tmps ps' asg' body' dfr, x = .obj b ∧
      w.heap[b]? = some (.loop { state := lsOf st, pending := ajOf pend, fn, tmps, params := ps', assign := asg', body := body', defers := dfr }) ∧
      TR β w (sets (Tr.full .undef dp) lv vs) tmps ∧ VLs β w vs ∧ okCode.okPs tmps.size ps'.toList ps = true ∧ okCode P tmps.size asg asg' = true ∧ okCode P tmps.size body body' = true
  | .dfr taken, x => ∃ b, x = .obj b ∧ w.heap[b]? = some (.deferred (match taken with | true => none | false => some []))

structure HR (P : Program) (β : Bt) (w : World) (h : List AO) : Prop where
  len : h.length = β.own.length
  obj : ∀ (n : Nat) (o : AO) (x : Own), h[n]? = some o → β.own[n]? = some x → OR P β w o x
  inj : ∀ (n m : Nat) (x y : Own) (b : Nat), β.own[n]? = some x → β.own[m]? = some y → x.blk = some b → y.blk = some b → n = m
  lt : ∀ x ∈ β.all, ∀ b, x.blk = some b → b < w.heap.size
  sep : ∀ x ∈ β.out, ∀ y ∈ β.own, ∀ b, x.blk = some b → y.blk ≠ some b
theorem HR.lt' {P : Program} {β : Bt} {w : World} {h : List AO} (k : HR P β w h) (n : Nat) (x : Own) (b : Nat) (hx : β.own[n]? = some x) (hb : x.blk = some b) : b < w.heap.size :=
  k.lt x (mem_all.2 (.inr (List.mem_of_getElem? hx))) b hb

variable {P : Program} {β β' : Bt} {w w' : World} {h : List AO}

theorem OR.ext {o : AO} {x : Own} (e : Ext β w β' w') (hb : ∀ b, x.blk = some b → w'.heap[b]? = w.heap[b]?) (k : OR P β w o x) : OR P β' w' o x := by
  cases o with
  | free => exact k
  | cells cs t =>
    obtain ⟨b, cs', rfl, h1, h2⟩ := k
    exact ⟨b, cs', rfl, (hb b rfl).trans h1, VRs.ext e _ _ h2⟩
  | tok t len =>
    obtain ⟨cur, s, rfl, h1⟩ := k
    refine ⟨cur, s, rfl, ?_⟩
    cases cur with
    | none => exact h1
    | some p =>
      obtain ⟨b, cap⟩ := p
      obtain ⟨cells, h1, h2⟩ := h1
      exact ⟨cells, (hb b rfl).trans h1, h2⟩
  | map ks vs =>
    obtain ⟨b, es, c, rfl, h1, h2, h3⟩ := k
    exact ⟨b, es, c, rfl, (hb b rfl).trans h1, VRs.ext e _ _ h2, VRs.ext e _ _ h3⟩
  | loop st pend dp lv vs ps asg body =>
    obtain ⟨b, fn, tmps, ps', asg', body', dfr, rfl, h1, h2, h3, h4⟩ := k
    exact ⟨b, fn, tmps, ps', asg', body', dfr, rfl, (hb b rfl).trans h1, h2.ext e, h3.ext e, h4⟩
  | dfr taken =>
    obtain ⟨b, rfl, h1⟩ := k
    exact ⟨b, rfl, (hb b rfl).trans h1⟩

theorem HR.get (k : HR P β w h) {n : Nat} {o : AO} (hn : h[n]? = some o) : ∃ x, β.own[n]? = some x ∧ OR P β w o x := by
  have hlt : n < β.own.length := by rw [← k.len]; exact (List.getElem?_eq_some_iff.1 hn).1
  exact ⟨β.own[n], List.getElem?_eq_getElem hlt, k.obj n o _ hn (List.getElem?_eq_getElem hlt)⟩

/-! ### Where a block is laid -/
def LayTo (h : List AO) (m : Nat) (o : AO) (h2 : List AO) : Prop := (m = h.length ∧ h2 = h ++ [o]) ∨ (h[m]? = some .free ∧ h2 = h.set m o)
def LayOK (h : List AO) (lay : AO → Nat × List AO) : Prop := ∀ o, LayTo h (lay o).1 o (lay o).2
theorem layEnd_ok (h : List AO) : LayOK h (layEnd h) := fun _ => .inl ⟨rfl, rfl⟩

theorem heap_alloc_old (w : World) (o : Obj) {b : Nat} (hb : b < w.heap.size) : (w.alloc o).heap[b]? = w.heap[b]? := by
  show (w.heap.push o)[b]? = _
  rw [Array.getElem?_push, if_neg (Nat.ne_of_lt hb)]
theorem heap_alloc_at (w : World) (o : Obj) : (w.alloc o).heap[w.heap.size]? = some o := by
  show (w.heap.push o)[w.heap.size]? = _
  rw [Array.getElem?_push, if_pos rfl]
theorem size_alloc (w : World) (o : Obj) : (w.alloc o).heap.size = w.heap.size + 1 := Array.size_push ..

/-- The world has grown by one block at the end (and perhaps drawn an order). -/
structure Grew (w w' : World) (obj : Obj) : Prop where
  heap : w'.heap = w.heap.push obj
  os : w'.os = w.os
  tape : w'.tape = w.tape
  output : w'.output = w.output
theorem grew_alloc (w : World) (o : Obj) : Grew w (w.alloc o) o := ⟨rfl, rfl, rfl, rfl⟩
theorem Grew.old {w w' : World} {obj : Obj} (g : Grew w w' obj) {b : Nat} (hb : b < w.heap.size) : w'.heap[b]? = w.heap[b]? := by
  rw [g.heap, Array.getElem?_push, if_neg (Nat.ne_of_lt hb)]
theorem Grew.at_ {w w' : World} {obj : Obj} (g : Grew w w' obj) : w'.heap[w.heap.size]? = some obj := by
  rw [g.heap, Array.getElem?_push, if_pos rfl]
theorem Grew.size {w w' : World} {obj : Obj} (g : Grew w w' obj) : w'.heap.size = w.heap.size + 1 := by rw [g.heap, Array.size_push]

/-- An entry is laid, or changed, at one name: what is owned. -/
structure SetAt (β β' : Bt) (h h2 : List AO) (m : Nat) (o : AO) (x : Own) : Prop where
  out_eq : β'.out = β.out
  len : h2.length = β'.own.length
  obj : h2[m]? = some o
  own : β'.own[m]? = some x
  other : ∀ n : Nat, n ≠ m → β'.own[n]? = β.own[n]? ∧ h2[n]? = h[n]?
theorem SetAt.mem {h2 : List AO} {m : Nat} {o : AO} {x : Own} (s : SetAt β β' h h2 m o x) : ∀ y ∈ β'.own, y = x ∨ ∃ n : Nat, n ≠ m ∧ β.own[n]? = some y := by
  intro y hy
  obtain ⟨n, hn⟩ := List.mem_iff_getElem?.1 hy
  by_cases e : n = m
  · subst e; rw [s.own] at hn; exact .inl (by simpa using hn.symm)
  · rw [(s.other n e).1] at hn; exact .inr ⟨n, e, hn⟩
theorem LayTo.setAt (k : HR P β w h) {m : Nat} {o : AO} {h2 : List AO} (hl : LayTo h m o h2) (x : Own) : ∃ β', SetAt β β' h h2 m o x ∧ ∀ y, β.own[m]? = some y → y = .free := by
  rcases hl with ⟨rfl, rfl⟩ | ⟨hf, rfl⟩
  · refine ⟨⟨β.out, β.own ++ [x]⟩, ⟨rfl, by simp [k.len], by simp, by simp [k.len], fun n hn => ⟨?_, ?_⟩⟩, fun y hy => ?_⟩
    · rw [k.len] at hn
      rcases Nat.lt_or_ge n β.own.length with hlt | hge
      · simp [List.getElem?_append_left hlt]
      · rw [List.getElem?_eq_none (by simp; omega), List.getElem?_eq_none hge]
    · rcases Nat.lt_or_ge n h.length with hlt | hge
      · simp [List.getElem?_append_left hlt]
      · rw [List.getElem?_eq_none (by simp; omega), List.getElem?_eq_none hge]
    · rw [List.getElem?_eq_none (by rw [k.len]; exact Nat.le_refl _)] at hy; cases hy
  · obtain ⟨y, hy, hoy⟩ := k.get hf
    have hyf : y = .free := hoy
    subst hyf
    have hlt : m < β.own.length := (List.getElem?_eq_some_iff.1 hy).1
    have hlt' : m < h.length := by rw [k.len]; exact hlt
    refine ⟨⟨β.out, β.own.set m x⟩, ⟨rfl, by simp [k.len], by simp [hlt'], by simp [hlt], fun n hn => ⟨by simp [List.getElem?_set_ne (Ne.symm hn)], by simp [List.getElem?_set_ne (Ne.symm hn)]⟩⟩, fun z hz => ?_⟩
    rw [hy] at hz; cases hz; rfl

theorem Ext.setGrew {h2 : List AO} {m : Nat} {o : AO} {x : Own} {obj : Obj} (s : SetAt β β' h h2 m o x) (g : Grew w w' obj) (hx : x.blk = some w.heap.size) (hle : ∀ y, β.own[m]? = some y → y.le x) : Ext β w β' w' := by
  refine ⟨s.out_eq, fun n y hn => ?_, by rw [g.size]; omega, fun b hb ho => ⟨g.old hb, fun y hy => ?_⟩, fun b off v hc hs => ⟨?_, fun y hy => ?_⟩, g.os, g.tape, g.output⟩
  · by_cases e : n = m
    · subst e; exact ⟨x, s.own, hle y hn⟩
    · exact ⟨y, (s.other n e).1.trans hn, Own.le_refl y⟩
  · rcases s.mem y hy with rfl | ⟨n, _, hn⟩
    · rw [hx]; intro e; cases e; exact Nat.lt_irrefl _ hb
    · exact ho y (List.mem_of_getElem? hn)
  · have hlt : b < w.heap.size := cell_lt hc
    unfold World.cell? at hc ⊢
    simp only at hc ⊢
    rw [g.old hlt]; exact hc
  · have hlt : b < w.heap.size := cell_lt hc
    rcases mem_all.1 hy with hy | hy
    · rw [s.out_eq] at hy; exact hs y (mem_all.2 (.inl hy))
    · rcases s.mem y hy with rfl | ⟨n', _, hn'⟩
      · cases y with
        | free => trivial
        | obj b' => simp only [Own.blk, Option.some.injEq] at hx; intro e; omega
        | tok c l s' e' => cases c with
          | none => trivial
          | some p => obtain ⟨b', cap'⟩ := p; simp only [Own.blk, Option.some.injEq] at hx; intro e; omega
      · exact hs y (mem_all.2 (.inr (List.mem_of_getElem? hn')))

theorem HR.setGrew (k : HR P β w h) {h2 : List AO} {m : Nat} {o : AO} {x : Own} {obj : Obj} (s : SetAt β β' h h2 m o x) (g : Grew w w' obj) (hx : x.blk = some w.heap.size) (e : Ext β w β' w') (ho : OR P β' w' o x) : HR P β' w' h2 := by
  refine ⟨s.len, fun n o' y hn hy => ?_, fun n n' y z b hy hz by' bz => ?_, fun y hy b hb => ?_, fun y hy z hz b hb => ?_⟩
  · by_cases en : n = m
    · subst en
      rw [s.obj] at hn; rw [s.own] at hy; cases hn; cases hy
      exact ho
    · obtain ⟨k1, k2⟩ := s.other n en
      rw [k1] at hy; rw [k2] at hn
      exact OR.ext e (fun b hb => g.old (k.lt' n y b hy hb)) (k.obj n o' y hn hy)
  · by_cases en : n = m <;> by_cases en' : n' = m
    · rw [en, en']
    · subst en
      rw [s.own] at hy; cases hy
      rw [(s.other n' en').1] at hz
      have := k.lt' n' z b hz bz
      rw [hx] at by'; cases by'; omega
    · subst en'
      rw [s.own] at hz; cases hz
      rw [(s.other n en).1] at hy
      have := k.lt' n y b hy by'
      rw [hx] at bz; cases bz; omega
    · rw [(s.other n en).1] at hy; rw [(s.other n' en').1] at hz
      exact k.inj n n' y z b hy hz by' bz
  · rw [g.size]
    rcases mem_all.1 hy with hy | hy
    · rw [s.out_eq] at hy; have := k.lt y (mem_all.2 (.inl hy)) b hb; omega
    · rcases s.mem y hy with rfl | ⟨n, _, hn⟩
      · rw [hx] at hb; cases hb; omega
      · have := k.lt' n y b hn hb; omega
  · rw [s.out_eq] at hy
    rcases s.mem z hz with rfl | ⟨n, _, hn⟩
    · rw [hx]; intro e'; cases e'; exact Nat.lt_irrefl _ (k.lt y (mem_all.2 (.inl hy)) _ hb)
    · exact k.sep y hy z (List.mem_of_getElem? hn) b hb

theorem HR.lay (k : HR P β w h) {m : Nat} {o : AO} {h2 : List AO} (hl : LayTo h m o h2) {obj : Obj} (g : Grew w w' obj) (x : Own) (hx : x.blk = some w.heap.size)
    (ho : ∀ β', Ext β w β' w' → OR P β' w' o x) : ∃ β', HR P β' w' h2 ∧ Ext β w β' w' ∧ β'.own[m]? = some x := by
  obtain ⟨β', s, hf⟩ := LayTo.setAt k hl x
  have e : Ext β w β' w' := Ext.setGrew s g hx (fun y hy => by rw [hf y hy]; trivial)
  exact ⟨β', HR.setGrew k s g hx e (ho β' e), e, s.own⟩

/-- The world itself, or one that has drawn an order. -/
theorem Ext.same (β : Bt) {w w' : World} (hh : w'.heap = w.heap) (h1 : w'.os = w.os) (h2 : w'.tape = w.tape) (h3 : w'.output = w.output) : Ext β w β w' :=
  ⟨rfl, fun n x hx => ⟨x, hx, Own.le_refl x⟩, by rw [hh]; exact Nat.le_refl _, fun b _ ho => ⟨by rw [hh], ho⟩, fun b off v hc hs => ⟨by unfold World.cell? at hc ⊢; rw [hh]; exact hc, hs⟩, h1, h2, h3⟩
theorem Ext.refl (β : Bt) (w : World) : Ext β w β w := Ext.same β rfl rfl rfl rfl
theorem HR.same (k : HR P β w h) (hh : w'.heap = w.heap) (h1 : w'.os = w.os) (h2 : w'.tape = w.tape) (h3 : w'.output = w.output) : HR P β w' h :=
  ⟨k.len, fun n o x hn hx => OR.ext (Ext.same β hh h1 h2 h3) (fun b _ => by rw [hh]) (k.obj n o x hn hx), k.inj, fun x hx b hb => by rw [hh]; exact k.lt x hx b hb, k.sep⟩
theorem Ext.trans {β'' : Bt} {w'' : World} (e : Ext β w β' w') (f : Ext β' w' β'' w'') : Ext β w β'' w'' := by
  refine ⟨f.out_eq.trans e.out_eq, fun n x hx => ?_, Nat.le_trans e.size f.size, fun b hb ho => ?_, fun b off v hc hs => ?_, f.os.trans e.os, f.tape.trans e.tape, f.output.trans e.output⟩
  · obtain ⟨x', h1, h2⟩ := e.own n x hx
    obtain ⟨x'', h3, h4⟩ := f.own n x' h1
    exact ⟨x'', h3, Own.le_trans h2 h4⟩
  · obtain ⟨h1, h2⟩ := e.rest b hb ho
    obtain ⟨h3, h4⟩ := f.rest b (Nat.lt_of_lt_of_le hb e.size) h2
    exact ⟨h3.trans h1, h4⟩
  · obtain ⟨h1, h2⟩ := e.cell b off v hc hs
    exact f.cell b off v h1 h2

/-! ### A block that is owned whole is written -/
/-- The world but for one block. -/
structure But (w w' : World) (g : Nat) : Prop where
  size : w'.heap.size = w.heap.size
  other : ∀ b, b ≠ g → w'.heap[b]? = w.heap[b]?
  os : w'.os = w.os
  tape : w'.tape = w.tape
  output : w'.output = w.output
theorem Ext.but {n g : Nat} (hg : β.own[n]? = some (.obj g)) (hb : But w w' g) : Ext β w β w' := by
  refine ⟨rfl, fun n x hx => ⟨x, hx, Own.le_refl x⟩, by rw [hb.size]; exact Nat.le_refl _, fun b _ ho => ⟨hb.other b (fun e => ?_), ho⟩, fun b off v hc hs => ⟨?_, hs⟩, hb.os, hb.tape, hb.output⟩
  · subst e; exact ho _ (List.mem_of_getElem? hg) rfl
  · have hne : b ≠ g := fun e => hs _ (mem_all.2 (.inr (List.mem_of_getElem? hg))) e.symm
    unfold World.cell? at hc ⊢
    simp only at hc ⊢
    rw [hb.other b hne]; exact hc
theorem HR.but (k : HR P β w h) {n g : Nat} (hg : β.own[n]? = some (.obj g)) (hb : But w w' g) {o : AO} (ho : Ext β w β w' → OR P β w' o (.obj g)) : HR P β w' (h.set n o) ∧ Ext β w β w' := by
  have e : Ext β w β w' := Ext.but hg hb
  refine ⟨⟨by simp [k.len], fun m o' x hm hx => ?_, k.inj, fun x hx b hb' => by rw [hb.size]; exact k.lt x hx b hb', k.sep⟩, e⟩
  by_cases en : m = n
  · subst en
    have hlt : m < h.length := by rw [k.len]; exact (List.getElem?_eq_some_iff.1 hg).1
    rw [List.getElem?_set_self hlt] at hm; cases hm
    rw [hg] at hx; cases hx
    exact ho e
  · rw [List.getElem?_set_ne (Ne.symm en)] at hm
    refine OR.ext e (fun b hb' => hb.other b (fun e' => ?_)) (k.obj m o' x hm hx)
    subst e'
    exact en (k.inj m n x _ b hx hg hb' rfl)
end Go.Proofs.Ytkjegegjkeeemaa.Ev
