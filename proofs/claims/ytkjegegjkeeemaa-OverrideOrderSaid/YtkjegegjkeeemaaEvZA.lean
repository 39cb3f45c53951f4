/- Functions and calls, walked: the abstract machine's word holds. -/
import Derived.Test.YtkjegegjkeeemaaEvZ
set_option linter.all false
namespace Go.Proofs.Ytkjegegjkeeemaa.Ev
open Go

section
variable {P : Program} {N : Nat} {R : Type} {res : R}

/-! ### A function's start -/
theorem sets_params : ∀ (ps : List Pth) (vs : List AV) (i : Nat) (t : Tr), okParams N ps i = true → ps.length = vs.length →
    (∀ q, (slot q < i ∨ i + ps.length ≤ slot q) → (sets t ps vs).get q = t.get q) ∧ (∀ q (k : Nat) v, slot q = i + k → vs[k]? = some v → (sets t ps vs).get q = v ∨ (sets t ps vs).get q = .undef)
  | [], vs, i, t, _, hl => by
    have : vs = [] := List.eq_nil_of_length_eq_zero hl.symm
    subst this
    exact ⟨fun _ _ => rfl, fun q k v _ h => by simp at h⟩
  | p :: ps, [], i, t, _, hl => by cases hl
  | p :: ps, v :: vs, i, t, hok, hl => by
    simp only [okParams, Bool.and_eq_true] at hok
    obtain ⟨hp, _⟩ := okT_iff.1 hok.1
    obtain ⟨h1, h2⟩ := sets_params ps vs (i + 1) (t.set p v) hok.2 (by simpa using hl)
    refine ⟨fun q hq => ?_, fun q k u hq hk => ?_⟩
    · simp only [sets]
      rw [h1 q (by simp only [List.length_cons] at hq; omega)]
      refine Tr.set_other p t v q (fun e => ?_)
      subst e
      simp only [List.length_cons] at hq
      omega
    · simp only [sets]
      cases k with
      | zero =>
        have : q = p := slot_inj _ _ (by omega)
        subst this
        rw [h1 q (by omega)]
        simp only [List.getElem?_cons_zero, Option.some.injEq] at hk
        subst hk
        exact Tr.set_same q t v
      | succ k => exact h2 q k u (by omega) hk
theorem okParams_len : ∀ (ps : List Pth) (i : Nat), okParams N ps i = true → ps = [] ∨ i + ps.length ≤ N
  | [], _, _ => .inl rfl
  | p :: ps, i, h => by
    simp only [okParams, Bool.and_eq_true] at h
    obtain ⟨h1, h2⟩ := okT_iff.1 h.1
    rcases okParams_len ps (i + 1) h.2 with rfl | h3
    · right; simp; omega
    · right; simp; omega

theorem start_go {β : Bt} {w : World} {ps : List Pth} {args : List AV} {args' : Array Value} (hok : okParams N ps 0 = true) (hl : ps.length = args.length) (hv : VRs β w args args'.toList) {d : Nat} {h : List AO} (hk : HR P β w h) :
    Rel P N β w ⟨sets (Tr.full (.tup []) d) ps args, [], h⟩ { tmps := args' ++ Array.replicate (N - args'.size) undef, defers := [] } := by
  have hsz : args'.size = args.length := by rw [← hv.length]; simp
  have hN : args'.size ≤ N := by
    rcases okParams_len ps 0 hok with rfl | h
    · simp at hl; omega
    · omega
  obtain ⟨h1, h2⟩ := sets_params ps args 0 (Tr.full (.tup []) d) hok hl
  refine ⟨fun q hq => ?_, rfl, hk, by simp; omega⟩
  by_cases hlt : slot q < args.length
  · obtain ⟨x, hx, hvx⟩ := hv.get (slot q) _ (List.getElem?_eq_getElem hlt)
    have hx' : args'[slot q]? = some x := by simpa using hx
    have : (args' ++ Array.replicate (N - args'.size) undef).getD (slot q) undef = x := by
      rw [Array.getD_eq_getD_getElem?, Array.getElem?_append_left (by omega), hx']; rfl
    rw [this]
    rcases h2 q (slot q) _ (by omega) (List.getElem?_eq_getElem hlt) with e | e
    · rw [e]; exact hvx
    · rw [e]; exact VR_undef _ _ _
  · rw [h1 q (by omega)]
    have : (args' ++ Array.replicate (N - args'.size) undef).getD (slot q) undef = undef := by
      rw [Array.getD_eq_getD_getElem?, Array.getElem?_append_right (by omega), Array.getElem?_replicate]
      split <;> rfl
    rw [this]
    rcases Tr.get_full (.tup []) d q with e | e
    · rw [e]; exact VR_undefTup _ _
    · rw [e]; exact VR_undef _ _ _

/-! ### A function -/
structure FnFact (P : Program) (g : FuncId) : Prop where
  ex : ∃ fn, P.funcs[g]? = some fn ∧ fn.body.isNone = false ∧ (fn.name == "runtime.NumGoroutine") = false

theorem kRes_go {β0 β : Bt} {w0 w : World} {st : St} {fn : Func} {a : Act} {K : AV → List AO → Option R} {qs : List (Pth × Option (Bool × Nat))} (r : Rel P N β w st a) (e : Ext β0 w0 β w) (hok : okResults P N fn.results.toList qs = true)
    (he : kRes K st.h (results st qs) = some res) : ∃ v, (Go.results fn a.tmps).run P w = .ok v w ∧ CallTo P β0 w0 K res (.returned v) w := by
  cases hr : results st qs with
  | none => rw [hr] at he; cases he
  | some vs =>
    rw [hr] at he
    obtain ⟨xs, k1, k2⟩ := results_go r.t r.h r.n hok hr
    have hrun : ∀ v, (if h : xs.toArray.size = 1 then xs.toArray[0] else .tuple xs.toArray) = v → (Go.results fn a.tmps).run P w = .ok v w := by
      intro v hv
      unfold Go.results
      rw [Array.mapM_eq_mapM_toList, Sem.run_bind, Sem.run_map]
      erw [k1]
      simp only [Result.andThen_ok]
      rw [hv]; rfl
    match vs, k2, he with
    | [], k2, he =>
      simp only [VRs] at k2
      subst k2
      exact ⟨_, hrun _ rfl, .tup [], _, β, _, rfl, he, by simp only [VR]; exact ⟨_, rfl, by simp [VRs]⟩, r.h, e⟩
    | [v], k2, he =>
      simp only [VRs] at k2
      obtain ⟨x, xs', rfl, h1, rfl⟩ := k2
      exact ⟨x, hrun x rfl, v, _, β, _, rfl, he, h1, r.h, e⟩
    | v :: u :: us, k2, he =>
      have k2' := k2
      simp only [VRs] at k2
      obtain ⟨x, xs', rfl, h1, y, ys, rfl, h2, h3⟩ := k2
      refine ⟨_, hrun (.tuple (x :: y :: ys).toArray) ?_, .tup (v :: u :: us), _, β, _, rfl, he, by simp only [VR]; exact ⟨_, rfl, k2'⟩, r.h, e⟩
      rw [dif_neg]; simp

theorem kEnd_go {β0 β : Bt} {w0 w : World} {st : St} {fn : Func} {a : Act} {K : AV → List AO → Option R} {qs : List (Pth × Option (Bool × Nat))} (r : Rel P N β w st a) (e : Ext β0 w0 β w) (hok : okResults P N fn.results.toList qs = true) {ae : AE} (hne : ∀ id, ae ≠ .exit id)
    (he : kEnd qs K ae st = some res) {n : Nat} : LeavesInM Fence.wide n P fn a.tmps (CallTo P β0 w0 K res) a.defers .returning w := by
  have he : (match st.d with
    | [] => kRes K st.h (results st qs)
    | [.coll r] => match st.h[r]? with
      | some (.dfr false) => kRes K (st.h.set r (.dfr true)) (results ⟨st.t, [], st.h.set r (.dfr true)⟩ qs)
      | _ => none
    | _ => none) = some res := by
    cases ae with
    | exit id => exact absurd rfl (hne id)
    | norm => exact he
    | ret => exact he
  have hd := r.d
  split at he
  · rename_i hsd
    rw [hsd] at hd
    have hd : a.defers = [] := hd
    rw [hd]
    exact kRes_go r e hok he
  · rename_i c hsd
    rw [hsd] at hd
    obtain ⟨d, rest, b, h1, h2, h3, h4⟩ := hd
    have h4 : rest = [] := h4
    subst h4
    rw [h1]
    split at he
    · rename_i hc
      obtain ⟨b', e1, e2⟩ := r.h.obj _ _ _ hc h3
      cases e1
      have e2 : w.heap[b]? = some (.deferred (some [])) := e2
      have hbut := but_putObj w b (.deferred none)
      obtain ⟨k1, k2⟩ := HR.but r.h h3 hbut (o := .dfr true) (fun _ => ⟨b, rfl, putObj_at e2⟩)
      refine ⟨by simp, .inl ⟨b, _, h2, run_takeDeferred e2, ?_⟩⟩
      have rel : Rel P N β (w.putObj b (.deferred none)) ⟨st.t, [], st.h.set c (.dfr true)⟩ { a with defers := [] } := ⟨TR.ext r.t k2, rfl, k1, r.n⟩
      exact kRes_go (a := { a with defers := [] }) rel (e.trans k2) hok he
    · cases he
  · cases he

theorem fn_go (hm : P.follows .mixedOrders = true) {E : Env} (hL : CallLaw E.call) (hE : CallOK P E.call) (hT : ∀ f m, E.T.fn f = some m → okFn P f m = true) {β : Bt} {w : World} {g : FuncId} {args : List AV} {h : List AO} {K : AV → List AO → Option R} {args' : Array Value}
    (he : evalFn E g args h K = some res) (hk : HR P β w h) (hv : VRs β w args args'.toList) : FnFact P g ∧ Calls P g args' w (CallTo P β w K res) := by
  unfold evalFn at he
  split at he
  · cases he
  · rename_i m hmf
    split at he
    · rename_i hlen
      have hok := hT g m hmf
      unfold okFn at hok
      split at hok
      · rename_i fn hfn
        split at hok
        · rename_i c hc
          simp only [Bool.and_eq_true] at hok
          obtain ⟨⟨⟨⟨h1, h2⟩, h3⟩, _⟩, h5⟩ := hok
          refine ⟨⟨fn, hfn, by rw [hc]; rfl, by simpa using h5⟩, ?_⟩
          refine (callsIn_wide (n := 0)).1 (callsIn_of_wp_marks hfn hc trivial ?_)
          have r := start_go (d := m.depth) h2 (by simpa using hlen) hv hk
          have hw := code_go (E := { E with round := none }) hm hL hE (ro := none) (fun _ => rfl) (n := 0) m.body c _ β w _ _ h1 r he
          refine wpIn_mono hw fun e a' w' hp => ?_
          obtain ⟨ae, rfl, β', st', k1, k2, k3⟩ := hp
          cases ae with
          | norm => exact kEnd_go k2 k3 h3 (by intro id e; cases e) k1
          | ret => exact kEnd_go k2 k3 h3 (by intro id e; cases e) k1
          | exit id => cases k1
        · cases hok
      · cases hok
    · cases he

/-! ### A pure call -/
theorem still_all (β : Bt) {x : Own} : x ∈ β.still.all ↔ x ∈ β.all := by simp [Bt.still, Bt.all]
theorem safe_still {β : Bt} {b off : Nat} : safe β.still b off ↔ safe β b off :=
  ⟨fun h x hx => h x ((still_all β).2 hx), fun h x hx => h x ((still_all β).1 hx)⟩
theorem keeps_still (β : Bt) (w : World) : Keeps β w β.still w :=
  ⟨fun _ _ _ hc hs => ⟨hc, safe_still.2 hs⟩, fun _ _ ho => ⟨rfl, fun x hx => ho x ((still_all β).1 hx)⟩⟩
theorem keeps_unstill (β : Bt) (w : World) : Keeps β.still w β w :=
  ⟨fun _ _ _ hc hs => ⟨hc, safe_still.1 hs⟩, fun _ _ ho => ⟨rfl, fun x hx => ho x ((still_all β).2 hx)⟩⟩
theorem HR.still {β : Bt} {w : World} {h : List AO} (k : HR P β w h) : HR P β.still w [] :=
  ⟨rfl, fun n o x hn => by simp at hn, fun n m x y b hx => by simp [Bt.still] at hx, fun x hx => k.lt x ((still_all β).1 hx), fun x _ y hy => by simp [Bt.still] at hy⟩
theorem still_heap {β β' : Bt} {w w' : World} (e : Ext β.still w β' w') {b : Nat} (hb : b < w.heap.size) : w'.heap[b]? = w.heap[b]? := (e.rest b hb (fun x hx => by simp [Bt.still] at hx)).1
theorem ext_unstill {β β' : Bt} {w w' : World} (e : Ext β.still w β' w') : Ext β w β w' := by
  refine ⟨rfl, fun n x hx => ⟨x, hx, Own.le_refl x⟩, e.size, fun b hb ho => ⟨still_heap e hb, ho⟩, fun b off v hc hs => ⟨?_, hs⟩, e.os, e.tape, e.output⟩
  have hlt := cell_lt hc
  unfold World.cell? at hc ⊢
  simp only at hc ⊢ hlt
  rw [still_heap e hlt]; exact hc
theorem HR.unstill {β β' : Bt} {w w' : World} {h : List AO} (k : HR P β w h) (e : Ext β.still w β' w') : HR P β w' h :=
  ⟨k.len, fun n o x hn hx => OR.ext (ext_unstill e) (fun b hb => still_heap e (k.lt' n x b hx hb)) (k.obj n o x hn hx), k.inj, fun x hx b hb => Nat.lt_of_lt_of_le (k.lt x hx b hb) e.size, k.sep⟩
theorem ext_still {β β' : Bt} {w w' : World} (e : Ext β.still w β' w') : Ext β.still w β.still w' := by
  refine ⟨rfl, fun n x hx => ⟨x, hx, Own.le_refl x⟩, e.size, fun b hb ho => ⟨still_heap e hb, ho⟩, fun b off v hc hs => ⟨?_, hs⟩, e.os, e.tape, e.output⟩
  have hlt := cell_lt hc
  unfold World.cell? at hc ⊢
  simp only at hc ⊢ hlt
  rw [still_heap e hlt]; exact hc

/-- What a pure call comes to: a value that lies still; the old world as it was. -/
def PureTo (P : Program) (β : Bt) (w : World) (K : AV → Option R) (res : R) (e : Ending) (w' : World) : Prop :=
  ∃ v v', e = .returned v' ∧ K v = some res ∧ SR β.still w' v v' ∧ Ext β.still w β.still w'
def SumOK (P : Program) (T : Tab) : Prop :=
  ∀ g s, T.sum g = some s → ∀ (R : Type) (k : Nat) (as : List AV) (K : AV → Option R) (res : R), s.run k as K = some res →
    ∀ (β : Bt) (w : World) (args' : Array Value), SRs β.still w as args'.toList → HR P β.still w [] → FnFact P g ∧ Calls P g args' w (PureTo P β w K res)
structure TabOK (P : Program) (T : Tab) : Prop where
  fn : ∀ f m, T.fn f = some m → okFn P f m = true
  sum : SumOK P T
  law : SumLaw T

theorem pureFn_go (hm : P.follows .mixedOrders = true) {E : Env} (hL : CallLaw E.call) (hE : CallOK P E.call) (hT : TabOK P E.T) {β : Bt} {w : World} {g : FuncId} {as : List AV} {K : AV → Option R} {args' : Array Value}
    (he : evalFn E g as [] (fun v h' => match purify E.T.ty h' 20 v with | some v => K v | none => none) = some res) (hv : SRs β.still w as args'.toList) (hk : HR P β.still w []) : FnFact P g ∧ Calls P g args' w (PureTo P β w K res) := by
  obtain ⟨f1, f2⟩ := fn_go hm hL hE hT.fn he hk (SRs.vr _ _ hv)
  refine ⟨f1, Calls.mono f2 fun e w' h => ?_⟩
  obtain ⟨v, h', β', v', rfl, k1, k2, k3, k4⟩ := h
  simp only at k1
  split at k1
  · rename_i v2 hp
    have hs := purify_sound k3 20 v v' v2 k2 hp
    have ho : β'.outer = β.still := by
      show (⟨β'.out, []⟩ : Bt) = ⟨β.all, []⟩
      rw [k4.out_eq]; rfl
    rw [ho] at hs
    exact ⟨v2, v', rfl, k1, hs, ext_still k4⟩
  · cases k1

/-- What names no memory says the same in every world. -/
theorem plain_k {β β' : Bt} {w w' : World} : ∀ (k : Nat) {v : AV} {x : Value}, Nat.rec (motive := fun _ => AV → Bool) (fun _ => false) (fun _ ih v => plainStep ih v) k v = true → SR β w v x → SR β' w' v x
  | 0, _, _, h, _ => by cases h
  | k + 1, v, x, h, hs => by
    have hl : ∀ (cs : List AV) (l : List Value), allB (fun v => Nat.rec (motive := fun _ => AV → Bool) (fun _ => false) (fun _ ih v => plainStep ih v) k v) cs = true → SRs β w cs l → SRs β' w' cs l := by
      intro cs
      induction cs with
      | nil => intro l _ hh; simpa [SRs] using hh
      | cons c cs ih =>
        intro l ha hh
        simp only [SRs] at hh ⊢
        obtain ⟨y, ys, e, h1, h2⟩ := hh
        unfold allB at ha
        split at ha
        · rename_i hc
          exact ⟨y, ys, e, plain_k k hc h1, ih ys ha h2⟩
        · cases ha
    have h : plainStep (fun v => Nat.rec (motive := fun _ => AV → Bool) (fun _ => false) (fun _ ih v => plainStep ih v) k v) v = true := h
    unfold plainStep at h
    split at h
    · simpa [SR] using hs
    · simpa [SR] using hs
    · simpa [SR] using hs
    · simpa [SR] using hs
    · simpa [SR] using hs
    · simpa [SR] using hs
    · simpa [SR] using hs
    · simpa [SR] using hs
    · simp only [SR] at hs ⊢
      obtain ⟨cs', e, h2⟩ := hs
      exact ⟨cs', e, hl _ _ h h2⟩
    · simp only [SR] at hs ⊢
      obtain ⟨cs', e, h2⟩ := hs
      exact ⟨cs', e, hl _ _ h h2⟩
    · simp only [SR] at hs ⊢
      obtain ⟨x', e, h2⟩ := hs
      exact ⟨x', e, plain_k k h h2⟩
    · cases h
theorem plain_vr {β β' : Bt} {w w' : World} {v : AV} {x : Value} (h : plainV v = true) (hs : SR β w v x) : VR β' w' v x := SR.vr _ _ (plain_k 6 h hs)
theorem outer_heap {β β' : Bt} {w w' : World} (e : Ext β.outer.still w β' w') {b : Nat} (hb : b < w.heap.size) : w'.heap[b]? = w.heap[b]? := (e.rest b hb (fun x hx => by simp [Bt.still] at hx)).1
theorem ext_outer {β β' : Bt} {w w' : World} (e : Ext β.outer.still w β' w') : Ext β w β w' := by
  refine ⟨rfl, fun n x hx => ⟨x, hx, Own.le_refl x⟩, e.size, fun b hb ho => ⟨outer_heap e hb, ho⟩, fun b off v hc hs => ⟨?_, hs⟩, e.os, e.tape, e.output⟩
  have hlt := cell_lt hc
  unfold World.cell? at hc ⊢
  simp only at hc ⊢ hlt
  rw [outer_heap e hlt]; exact hc
theorem HR.outer {β β' : Bt} {w w' : World} {h : List AO} (k : HR P β w h) (e : Ext β.outer.still w β' w') : HR P β w' h :=
  ⟨k.len, fun n o x hn hx => OR.ext (ext_outer e) (fun b hb => outer_heap e (k.lt' n x b hx hb)) (k.obj n o x hn hx), k.inj, fun x hx b hb => Nat.lt_of_lt_of_le (k.lt x hx b hb) e.size, k.sep⟩

theorem callFn_go (hm : P.follows .mixedOrders = true) {E : Env} (hL : CallLaw E.call) (hE : CallOK P E.call) (hT : TabOK P E.T) {pure : Bool} {β : Bt} {w : World} {g : FuncId} {args : List AV} {h : List AO} {K : AV → List AO → Option R} {args' : Array Value}
    (he : callFn E pure g args h K = some res) (hk : HR P β w h) (hv : VRs β w args args'.toList) : FnFact P g ∧ Calls P g args' w (CallTo P β w K res) := by
  unfold callFn at he
  split at he
  · rename_i as hs
    have hsr : SRs β.still w as args'.toList := SRs.keeps (keeps_still β w) _ _ (mapO_sound (fun v x v' => strip_sound) hv hs)
    have fin : ∀ e w', PureTo P β w (fun v => K v h) res e w' → CallTo P β w K res e w' := by
      rintro e w' ⟨v, v', rfl, k1, k2, k3⟩
      exact ⟨v, h, β, v', rfl, k1, SR.vr _ _ (SR.keeps (keeps_unstill β w') _ _ k2), hk.unstill k3, ext_unstill k3⟩
    split at he
    · rename_i s hsum
      obtain ⟨f1, f2⟩ := hT.sum g s hsum R _ as _ res he β w args' hsr hk.still
      exact ⟨f1, Calls.mono f2 fin⟩
    · obtain ⟨f1, f2⟩ := pureFn_go hm hL hE hT (K := fun v => K v h) he hsr hk.still
      exact ⟨f1, Calls.mono f2 fin⟩
  · split at he
    · cases he
    · split at he
      · rename_i s hsum
        split at he
        · rename_i as hp
          have hsr : SRs β.outer w as args'.toList := mapO_sound (fun v x v' => purify_sound hk 20 v x v') hv hp
          have hall : β.outer.still = β.outer := by simp [Bt.still, Bt.all, Bt.outer]
          have hk0 : HR P β.outer.still w [] := by
            rw [hall]
            exact ⟨rfl, fun n o x hn => by simp at hn, fun n m x y b hx => by simp [Bt.outer] at hx, fun x hx => hk.lt x (mem_all.2 (.inl (by simpa [Bt.outer, Bt.all] using hx))), fun x _ y hy => by simp [Bt.outer] at hy⟩
          obtain ⟨f1, f2⟩ := hT.sum g s hsum R _ as _ res he β.outer w args' (by rw [hall]; exact hsr) hk0
          refine ⟨f1, Calls.mono f2 ?_⟩
          rintro e w' ⟨v, v', rfl, k1, k2, k3⟩
          simp only at k1
          split at k1
          · rename_i hpl
            exact ⟨v, h, β, v', rfl, k1, plain_vr hpl k2, hk.outer k3, ext_outer k3⟩
          · cases k1
        · exact fn_go hm hL hE hT.fn he hk hv
      · exact fn_go hm hL hE hT.fn he hk hv

/-! ### A round -/
theorem okPs_foldl {β : Bt} {w : World} : ∀ {ps' : List Tmp} {ps : List Pth} {args : List AV} {args' : List Value} {t : Tr} {tmps : Array Value}, okCode.okPs tmps.size ps' ps = true → VRs β w args args' → ps.length = args.length → TR β w t tmps →
    TR β w (sets t ps args) ((ps'.zip args').foldl (fun tmps (t, a) => tmps.setIfInBounds t a) tmps) ∧ ((ps'.zip args').foldl (fun tmps (t, a) => tmps.setIfInBounds t a) tmps).size = tmps.size
  | [], [], args, args', t, tmps, _, hv, hl, ht => by
    have : args = [] := List.eq_nil_of_length_eq_zero hl.symm
    subst this
    exact ⟨ht, rfl⟩
  | [], _ :: _, _, _, _, _, hok, _, _, _ => by cases hok
  | _ :: _, [], _, _, _, _, hok, _, _, _ => by cases hok
  | i :: ps', p :: ps, [], args', t, tmps, _, _, hl, _ => by cases hl
  | i :: ps', p :: ps, v :: args, args', t, tmps, hok, hv, hl, ht => by
    simp only [okCode.okPs, Bool.and_eq_true] at hok
    obtain ⟨h1, h2⟩ := okT_iff.1 hok.1
    subst h1
    simp only [VRs] at hv
    obtain ⟨x, xs, rfl, hx, hxs⟩ := hv
    have hsz : (tmps.setIfInBounds (slot p) x).size = tmps.size := by simp
    obtain ⟨k1, k2⟩ := okPs_foldl (tmps := tmps.setIfInBounds (slot p) x) (t := t.set p v) (by rw [hsz]; exact hok.2) hxs (by simpa using hl) (TR.set ht p hx)
    exact ⟨k1, k2.trans hsz⟩

theorem okPs_len : ∀ {xs : List Tmp} {ps : List Pth}, okCode.okPs N xs ps = true → xs.length = ps.length
  | [], [], _ => rfl
  | [], _ :: _, h => by cases h
  | _ :: _, [], h => by cases h
  | x :: xs, p :: ps, h => by
    simp only [okCode.okPs, Bool.and_eq_true] at h
    simp [okPs_len h.2]

theorem yld_go (hm : P.follows .mixedOrders = true) {E : Env} (hL : CallLaw E.call) (hE : CallOK P E.call) {β : Bt} {w : World} {l : Nat} {args : List AV} {h : List AO} {K : AV → List AO → Option R} {args' : Array Value} {f' : Value}
    (he : callYld E l args h K = some res) (hk : HR P β w h) (hf : VR β w (.yld l) f') (hv : VRs β w args args'.toList) : GoesTo P β w K res f' args' := by
  unfold callYld at he
  split at he
  · rename_i pend dp lv vs ps asg bd hl
    split at he
    · rename_i hlen
      simp only [VR] at hf
      obtain ⟨b, hb, rfl⟩ := hf
      obtain ⟨b', fn, tmps, ps', asg', body', dfr, e1, hheap, q1, q2, q3, q4, q5⟩ := hk.obj _ _ _ hl hb
      cases e1
      have hN : args'.size = ps'.size := by
        have h1 := hv.length
        have h2 : ps'.toList.length = ps.length := okPs_len q3
        simp only [Array.length_toList] at h1 h2
        rw [h1, h2]
        simpa using (Nat.beq_eq ▸ hlen : ps.length = args.length).symm
      refine .inr ⟨b, fn, _, asg', body', rfl, run_yield hheap hN, fun n => ?_⟩
      have hlen' : ps.length = args.length := by simpa using hlen
      obtain ⟨t1, t2⟩ := okPs_foldl q3 hv hlen' q1
      have hfold : (ps'.zip args').foldl (fun tmps (t, a) => tmps.setIfInBounds t a) tmps = (ps'.toList.zip args'.toList).foldl (fun tmps (t, a) => tmps.setIfInBounds t a) tmps := by
        rw [← Array.foldl_toList, Array.toList_zip]
      show RoundIn Fence.wide n P b fn ((ps'.zip args').foldl (fun tmps (t, a) => tmps.setIfInBounds t a) tmps) asg' body' w _
      rw [hfold]
      refine roundIn_of_wpIn trivial ?_
      have rel : Rel P tmps.size β w ⟨sets (sets (Tr.full .undef dp) lv vs) ps args, [], h⟩ { tmps := (ps'.toList.zip args'.toList).foldl (fun tmps (t, a) => tmps.setIfInBounds t a) tmps, defers := [] } := ⟨t1, rfl, hk, t2⟩
      have hw := code_go (E := { E with round := some l }) hm hL hE (ro := some b) (fun h => by cases h) (n := n) asg asg' _ β w _ _ q4 rel he
      refine wpIn_mono hw fun e a1 w1 hp => ?_
      obtain ⟨ae, rfl, β1, st1, k1, k2, k3⟩ := hp
      cases ae with
      | ret => cases k1
      | exit id => cases k1
      | norm =>
        have k1 : kAsg { E with round := some l } l bd K .norm st1 = some res := k1
        unfold kAsg at k1
        simp only at k1
        split at k1
        · rename_i pend1 dp1 lv1 vs1 ps1 asg1 bd1 hl1
          have hb1 := k3.obj hb
          obtain ⟨b', fn1, tm1, ps1', as1', bd1', df1, e1, hh1, z1, z2, z3⟩ := k2.h.obj _ _ _ hl1 hb1
          cases e1
          have hbut := but_putObj w1 b (.loop { state := .busy, pending := ajOf pend1, fn := fn1, tmps := tm1, params := ps1', assign := as1', body := bd1', defers := df1 })
          obtain ⟨x1, x2⟩ := HR.but k2.h hb1 hbut (o := .loop .busy pend1 dp1 lv1 vs1 ps1 asg1 bd1) (fun ex => ⟨b, fn1, tm1, ps1', as1', bd1', df1, rfl, putObj_at hh1, z1.ext ex, z2.ext ex, z3⟩)
          refine ⟨_, run_beginRound hh1 rfl, ?_⟩
          have rel2 : Rel P tmps.size β1 (w1.putObj b (.loop { state := .busy, pending := ajOf pend1, fn := fn1, tmps := tm1, params := ps1', assign := as1', body := bd1', defers := df1 })) ⟨st1.t, st1.d, st1.h.set l (.loop .busy pend1 dp1 lv1 vs1 ps1 asg1 bd1)⟩ a1 :=
            ⟨TR.ext k2.t x2, k2.d.ext x2, x1, k2.n⟩
          have hw2 := code_go (E := { E with round := some l }) hm hL hE (ro := some b) (fun h => by cases h) (n := n) bd body' _ β1 _ _ a1 q5 rel2 k1
          refine wpIn_mono hw2 fun e a2 w2 hp => ?_
          obtain ⟨ae, rfl, β2, st2, y1, y2, y3⟩ := hp
          unfold kRound at y1
          split at y1
          · split at y1
            · rename_i ls2 pend2 dp2 lv2 vs2 ps2 asg2 bd2 hl2
              have hb2 := y3.obj hb1
              obtain ⟨b', fn2, tm2, ps2', as2', bd2', df2, e1, hh2, c1, c2, c3⟩ := y2.h.obj _ _ _ hl2 hb2
              cases e1
              have eAll := (k3.trans x2).trans y3
              have close : ∀ (j : Option Code) (ls : LS) (aj : AJ) (v : Bool), (if j.isNone then LoopState.ready else LoopState.done) = lsOf ls → j = ajOf aj → j.isNone = v → K (.bool v) (st2.h.set l (.loop ls aj dp2 lv2 vs2 ps2 asg2 bd2)) = some res →
                  ∃ v w', (Instr.endRound b j).run P w2 = .ok v w' ∧ CallTo P β w K res (.returned v) w' := by
                intro j ls aj v e1 e2 e3 e4
                refine ⟨_, _, run_endRound j hh2, ?_⟩
                have hbut := but_putObj w2 b (.loop { state := if j.isNone then .ready else .done, pending := j, fn := fn2, tmps := tm2, params := ps2', assign := as2', body := bd2', defers := df2 })
                obtain ⟨x1, x2⟩ := HR.but y2.h hb2 hbut (o := .loop ls aj dp2 lv2 vs2 ps2 asg2 bd2) (fun ex => ⟨b, fn2, tm2, ps2', as2', bd2', df2, rfl, by rw [putObj_at hh2, ← e1, ← e2], c1.ext ex, c2.ext ex, c3⟩)
                refine ⟨.bool v, _, β2, _, rfl, e4, ?_, x1, eAll.trans x2⟩
                rw [e3]; simp [VR]
              cases ae with
              | norm => exact close none .ready .none true rfl rfl rfl y1
              | ret => exact close (some .ret) .done .ret false rfl rfl rfl y1
              | exit id => exact close (some (.exit id)) .done (.exit id) false rfl rfl rfl y1
            · cases y1
          · cases y1
        · cases k1
    · cases he
  · cases he

theorem callV_go (hm : P.follows .mixedOrders = true) {E : Env} (hL : CallLaw E.call) (hE : CallOK P E.call) (hT : TabOK P E.T) : CallOK P (fun {R} => callV (R := R) E) := by
  intro R pure f args h K res β w f' args' he hf hv hk
  unfold callV at he
  cases f with
  | fn g caps =>
    simp only [VR] at hf
    obtain ⟨cs', rfl, hc⟩ := hf
    obtain ⟨f1, f2⟩ := callFn_go hm hL hE hT he hk (args' := args' ++ cs') (by rw [Array.toList_append]; exact VRs.append hv hc)
    exact .inl ⟨g, cs', rfl, f1.ex, f2⟩
  | yld l =>
    simp only at he
    split at he
    · cases he
    · exact yld_go hm hL hE he hk hf hv
  | _ => cases he

theorem callK_go (hm : P.follows .mixedOrders = true) {T : Tab} (hT : TabOK P T) (L : Nat) : ∀ k, CallOK P (fun {R} => callK T L k (R := R))
  | 0 => fun _ _ _ _ _ _ _ _ _ _ _ he => by cases he
  | k + 1 => callV_go (E := envK T L (fun {R} => callK T L k (R := R))) hm (callK_law T hT.law L k) (callK_go hm hT L k) hT

/-- **What the abstract machine says holds.** -/
theorem run_go (hm : P.follows .mixedOrders = true) {T : Tab} (hT : TabOK P T) {L k : Nat} {f : FuncId} {args : List AV} {K : AV → Option R} (he : callK T L k true (.fn f []) args [] (fun v _ => K v) = some res) {β : Bt} {w : World} {args' : Array Value}
    (hv : SRs β.still w args args'.toList) (hk : HR P β.still w []) : FnFact P f ∧ Calls P f args' w (PureTo P β w K res) := by
  cases k with
  | zero => cases he
  | succ k =>
    have he : callFn (envK T L (fun {R} => callK T L k (R := R))) true f (args ++ []) [] (fun v _ => K v) = some res := he
    rw [List.append_nil] at he
    have hstill : β.still.still = β.still := by simp [Bt.still, Bt.all]
    unfold callFn at he
    split at he
    · rename_i as hs
      have hsr : SRs β.still w as args'.toList := by
        have := SRs.keeps (keeps_still β.still w) _ _ (mapO_sound (fun v x v' => strip_sound) (SRs.vr _ _ hv) hs)
        rw [hstill] at this; exact this
      split at he
      · rename_i s hsum
        exact hT.sum f s hsum R L as _ res he β w args' hsr hk
      · exact pureFn_go (E := envK T L (fun {R} => callK T L k (R := R))) hm (callK_law T hT.law L k) (callK_go hm hT L k) hT (K := K) he hsr hk
    · cases he
end
end Go.Proofs.Ytkjegegjkeeemaa.Ev
