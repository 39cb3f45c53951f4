/- A run in the style of continuations goes to one place, whatever comes behind it. -/
import Derived.Test.YtkjegegjkeeemaaEvA
set_option linter.all false
namespace Go.Proofs.Ytkjegegjkeeemaa.Ev
open Go

/-- F goes to x: behind whatever continuation. -/
def Goes {α : Type} (F : {R : Type} → (α → Option R) → Option R) : Prop :=
  ∀ (R : Type) (K : α → Option R) (res : R), F K = some res → ∃ x, K x = some res ∧ ∀ (R' : Type) (K' : α → Option R') (res' : R'), K' x = some res' → F K' = some res'

theorem goes_pure {α : Type} (x : α) : Goes (fun K => K x) := fun _ _ _ h => ⟨x, h, fun _ _ _ h' => h'⟩
theorem goes_none {α : Type} : Goes (α := α) (fun _ => none) := fun _ _ _ h => by cases h
theorem goes_cond {α : Type} {b : Bool} {F G : {R : Type} → (α → Option R) → Option R} (hF : Goes F) (hG : Goes G) : Goes (fun K => bif b then F K else G K) := by
  intro R K res h
  cases b with
  | true => obtain ⟨x, h1, h2⟩ := hF R K res h; exact ⟨x, h1, fun R' K' res' h' => h2 R' K' res' h'⟩
  | false => obtain ⟨x, h1, h2⟩ := hG R K res h; exact ⟨x, h1, fun R' K' res' h' => h2 R' K' res' h'⟩
theorem goes_bind {α β : Type} {F : {R : Type} → (α → Option R) → Option R} {G : {R : Type} → α → (β → Option R) → Option R} (hF : Goes F) (hG : ∀ x, Goes (fun K => G x K)) : Goes (fun K => F (fun x => G x K)) := by
  intro R K res h
  obtain ⟨x, h1, h2⟩ := hF R _ res h
  obtain ⟨y, k1, k2⟩ := hG x R K res h1
  exact ⟨y, k1, fun R' K' res' h' => h2 R' _ res' (k2 R' K' res' h')⟩
/-- With two parts. -/
theorem goes_opt {α β : Type} (o : Option α) {G : {R : Type} → α → (β → Option R) → Option R} (hG : ∀ x, Goes (fun K => G x K)) : Goes (fun {R} (K : β → Option R) => match o with | some x => G x K | none => none) := by
  cases o with
  | none => exact goes_none
  | some x => exact hG x

abbrev Goes2 {α β : Type} (F : {R : Type} → (α → β → Option R) → Option R) : Prop := Goes (fun {R} (K : α × β → Option R) => F (R := R) fun x y => K (x, y))
theorem Goes2.inv {α β : Type} {F : {R : Type} → (α → β → Option R) → Option R} (h : Goes2 F) {R : Type} {K : α → β → Option R} {res : R} (hK : F K = some res) :
    ∃ x y, K x y = some res ∧ ∀ (R' : Type) (K' : α → β → Option R') (res' : R'), K' x y = some res' → F K' = some res' := by
  obtain ⟨⟨x, y⟩, h1, h2⟩ := h R (fun p => K p.1 p.2) res hK
  exact ⟨x, y, h1, fun R' K' res' h' => h2 R' (fun p => K' p.1 p.2) res' h'⟩

/-! ### The operations -/
theorem goes_findKey {β : Type} (str : Bool) (key : AV) {G : {R : Type} → Option AV → (β → Option R) → Option R} (hG : ∀ x, Goes (fun K => G x K)) : ∀ (ks vs : List AV), Goes (fun {R} (K : β → Option R) => findKey (R := R) str key (fun x => G x K) ks vs)
  | [], [] => by
    unfold findKey
    cases str <;> cases key <;> first | exact goes_none | exact hG none
  | [], _ :: _ => by unfold findKey; exact goes_none
  | _ :: _, [] => by unfold findKey; exact goes_none
  | k :: ks, v :: vs => by
    have ih := goes_findKey str key hG ks vs
    unfold findKey
    cases str <;> cases key <;> cases k <;> first
      | exact goes_none
      | exact goes_cond (hG (some v)) ih
      | (rename_i j a k b
         show Goes (fun {R} (K : β → Option R) => match decide (j = k) with
           | true => bif eqI a b then G (some v) K else findKey false (.int j a) (fun x => G x K) ks vs
           | false => none)
         cases decide (j = k) with
         | true => exact goes_cond (hG (some v)) ih
         | false => exact goes_none)

theorem goes_appendK (e : TypeId) (agg : Bool) (s bytes : Nat) (h : List AO) (x : AV) (k : Nat) (gy : Nat → AV) (lay : AO → Nat × List AO) :
    Goes2 (fun {R} K => appendK (R := R) e agg s bytes h x k gy lay K) := by
  unfold appendK
  cases x with
  | nilSl t =>
    cases t with
    | none => exact goes_cond (goes_pure _) goes_none
    | some t =>
      show Goes _
      simp only
      cases h[t]? with
      | none => exact goes_none
      | some o =>
        cases o with
        | tok e' n =>
          cases n with
          | zero =>
            simp only
            cases Nat.beq e' e with
            | true => exact goes_cond (goes_pure _) goes_none
            | false => exact goes_none
          | succ n => exact goes_none
        | _ => exact goes_none
  | arr s' n get t =>
    cases t with
    | none => exact goes_none
    | some t =>
      show Goes _
      simp only
      cases Nat.beq s' s with
      | false => exact goes_none
      | true =>
        simp only
        cases h[t]? with
        | none => exact goes_none
        | some o =>
          cases o with
          | tok e' m => exact goes_cond (goes_pure _) goes_none
          | _ => exact goes_none
  | slc m o n cap =>
    show Goes _
    simp only
    cases h[m]? with
    | none => exact goes_none
    | some ob =>
      cases ob with
      | cells cs ty =>
        simp only
        cases mapO strip (chunks agg s (List.drop o cs) n) with
        | none => exact goes_none
        | some vs =>
          simp only
          cases (Nat.ble (o + n * s) cs.length && Nat.beq cap n && allB (fun v => Nat.beq v.cells.length s && allB isScalar v.cells && (agg || isScalar v)) vs) with
          | false => exact goes_none
          | true => exact goes_cond (goes_pure _) goes_none
      | _ => exact goes_none
  | _ => exact goes_none

/-- What is asked of the calls: a call goes to one place; a pure one leaves memory alone, whatever it is. -/
structure CallLaw (call : {R : Type} → Bool → AV → List AV → List AO → (AV → List AO → Option R) → Option R) : Prop where
  goes : ∀ pure f args h, Goes2 (fun {R} K => call (R := R) pure f args h K)
  still : ∀ (R : Type) f args h (K : AV → List AO → Option R) (res : R), call true f args h K = some res →
    ∃ v, K v h = some res ∧ ∀ (R' : Type) h' (K' : AV → List AO → Option R') (res' : R'), K' v h' = some res' → call true f args h' K' = some res'

theorem goes_evalMO (E : Env) (hE : CallLaw E.call) (pure : Bool) (ok : Nat → Bool) (o : MO) (t : Tr) (h : List AO) (lay : AO → Nat × List AO) :
    Goes2 (fun {R} K => evalMO (R := R) E pure ok o t h lay K) := by
  cases o with
  | mv x => exact goes_pure _
  | pick c a b =>
    show Goes _
    simp only [evalMO, ev_pick]
    cases opnd t c <;> first | exact goes_none | exact goes_cond (goes_pure _) (goes_pure _)
  | alloc ty z => exact goes_pure ((AV.ptr (lay (.cells z ty)).1 0), (lay (.cells z ty)).2)
  | box ty x =>
    show Goes _
    simp only [evalMO, ev_box]
    cases (opnd t x).cells.all isScalar with
    | true => exact goes_pure (_, (lay _).2)
    | false => exact goes_none
  | build z ps =>
    show Goes _
    simp only [evalMO, ev_build]
    cases fillA t z ps with
    | none => exact goes_none
    | some cs => exact goes_pure _
  | bslice e len z ps =>
    show Goes _
    simp only [evalMO, ev_bslice]
    cases fillA t z ps with
    | none => exact goes_none
    | some cs => exact goes_pure (_, (lay _).2)
  | ld agg s a =>
    show Goes _
    simp only [evalMO, ev_ld]
    split
    · split
      · exact goes_pure _
      · exact goes_none
    · exact goes_none
  | st s a x =>
    show Goes _
    simp only [evalMO, ev_st]
    split
    · split
      · exact goes_pure _
      · exact goes_none
    · exact goes_none
  | bin op x y =>
    show Goes _
    simp only [evalMO, ev_bin]
    split
    · exact goes_pure _
    · exact goes_none
  | eqb neg x y =>
    show Goes _
    simp only [evalMO, ev_eqb]
    split
    · split <;> exact goes_pure _
    · exact goes_none
  | eqs neg ks x y =>
    show Goes _
    simp only [evalMO, ev_eqs]
    split
    · split
      · split <;> exact goes_pure _
      · exact goes_none
    · exact goes_none
  | not x =>
    show Goes _
    simp only [evalMO, ev_not]
    split
    · exact goes_pure _
    · exact goes_none
  | neg x =>
    show Goes _
    simp only [evalMO, ev_neg]
    split
    · exact goes_pure _
    · exact goes_none
  | mkmap => exact goes_pure (_, (lay _).2)
  | ins str m k v =>
    show Goes _
    simp only [evalMO, ev_ins]
    split
    · split
      · split
        · split
          · refine goes_findKey str (opnd t k) (G := fun {R} (x : Option AV) (K : AV × List AO → Option R) => match x with
              | none => K (.tup [], _)
              | some _ => none) (fun x => ?_) _ _
            cases x with
            | none => exact goes_pure _
            | some _ => exact goes_none
          · exact goes_none
        · exact goes_none
      · exact goes_none
    · exact goes_none
  | look str z ok' m k =>
    show Goes _
    simp only [evalMO, ev_look]
    split
    · refine goes_findKey str (opnd t k) (G := fun {R} (x : Option AV) (K : AV × List AO → Option R) => match x with
        | some v => K (bif ok' then .tup [v, .bool true] else v, h)
        | none => K (bif ok' then .tup [z, .bool false] else z, h)) (fun x => ?_) _ _
      cases x <;> exact goes_pure _
    · exact goes_none
  | ext i x =>
    show Goes _
    simp only [evalMO, ev_ext]
    split
    · split
      · exact goes_pure _
      · exact goes_none
    · exact goes_none
  | fld off x =>
    show Goes _
    simp only [evalMO, ev_fld]
    split
    · exact goes_pure _
    · exact goes_pure _
    · exact goes_none
  | idx s x i =>
    show Goes _
    simp only [evalMO, ev_idx]
    split
    · split
      · split
        · refine goes_cond ?_ goes_none
          split
          · exact goes_pure _
          · exact goes_none
        · exact goes_none
      · exact goes_cond (goes_pure _) goes_none
      · exact goes_none
    · exact goes_none
  | mkfn f caps => exact goes_pure _
  | len x =>
    show Goes _
    simp only [evalMO, ev_len]
    split
    · exact goes_pure _
    · exact goes_pure _
    · exact goes_pure _
    · exact goes_none
  | slen x =>
    show Goes _
    simp only [evalMO, ev_slen]
    split
    · exact goes_pure _
    · exact goes_none
  | max x y =>
    show Goes _
    simp only [evalMO, ev_max]
    split
    · exact goes_pure _
    · exact goes_none
  | app e agg s bytes x y =>
    show Goes _
    simp only [evalMO, ev_app]
    split
    · split
      · refine goes_cond ?_ (goes_appendK _ _ _ _ _ _ _ _ _)
        split
        · exact goes_pure _
        · exact goes_pure _
        · split
          · exact goes_pure _
          · exact goes_none
        · exact goes_none
      · exact goes_none
    · exact goes_none
  | call f args => exact hE.goes _ _ _ _

/-! ### Steps, regions, code -/
theorem goes_step (E : Env) (hE : CallLaw E.call) (pure : Bool) (ok : Nat → Bool) (lay : AO → Nat × List AO) (o : MOp) (st : St) : Goes (fun {R} (K : St → Option R) => evalStep (R := R) E pure ok lay o K st) := by
  have hdo : ∀ t', Goes (fun {R} (K : St → Option R) => evalDo (R := R) E pure ok lay o K st t') := fun t' => by
    intro R K res he
    obtain ⟨v, h', h1, h2⟩ := Goes2.inv (goes_evalMO E hE pure ok o.op t' st.h lay) (K := fun v h => K ⟨putT t' o.dst v, st.d, h⟩) he
    exact ⟨_, h1, fun R' K' res' h' => h2 R' (fun v h => K' ⟨putT t' o.dst v, st.d, h⟩) res' h'⟩
  have hskip : ∀ t', Goes (fun {R} (K : St → Option R) => skipOp (R := R) o K st t') := fun t' => goes_pure _
  unfold evalStep
  cases o.guard with
  | none => exact hdo _
  | some g =>
    obtain ⟨g, want⟩ := g
    show Goes _
    simp only
    split
    · cases want with
      | true => exact goes_cond (hdo _) (hskip _)
      | false => exact goes_cond (hskip _) (hdo _)
    · exact hskip _
    · exact goes_none

abbrev GoesC (F : {R : Type} → (AE → St → Option R) → Option R) : Prop := Goes2 F

theorem goes_ops (E : Env) (hE : CallLaw E.call) : ∀ (os : List MOp) (st : St), GoesC (fun {R} K => evalOps (R := R) E K os st)
  | [], st => goes_pure _
  | o :: os, st => by
    intro R K res he
    obtain ⟨st1, h1, h2⟩ := goes_step E hE false (fun _ => true) (layEnd st.h) o st R _ res he
    obtain ⟨x, k1, k2⟩ := goes_ops E hE os st1 R K res h1
    exact ⟨x, k1, fun R' K' res' h' => h2 R' _ res' (k2 R' K' res' h')⟩
theorem goes_draw (E : Env) (hE : CallLaw E.call) (base : Nat) : ∀ (os : List DOp) (st : St), GoesC (fun {R} K => evalDraw (R := R) E base K os st)
  | [], st => goes_pure _
  | o :: os, st => by
    intro R K res he
    obtain ⟨st1, h1, h2⟩ := goes_step E hE true (fun m => Nat.blt m base || memN (m - base) o.pre) (fun x => (base + o.no, st.h.set (base + o.no) x)) o.op st R _ res he
    obtain ⟨x, k1, k2⟩ := goes_draw E hE base os st1 R K res h1
    exact ⟨x, k1, fun R' K' res' h' => h2 R' _ res' (k2 R' K' res' h')⟩

theorem goes_loop {body : {R : Type} → (AE → St → Option R) → St → Option R} (hb : ∀ st, GoesC (fun {R} K => body (R := R) K st)) (dp : Nat) (ks : List Pth) (h0 : Nat) :
    ∀ (j : Nat) (st : St), GoesC (fun {R} K => loopN (R := R) dp ks h0 body K j st)
  | 0, st => goes_none
  | j + 1, st => by
    intro R K res he
    obtain ⟨e, st1, h1, h2⟩ := Goes2.inv (hb st) (K := kLoop dp ks h0 (loopN dp ks h0 body (fun x y => K (x, y)) j) (fun x y => K (x, y))) he
    cases e with
    | norm =>
      obtain ⟨x, k1, k2⟩ := goes_loop hb dp ks h0 j (clean dp ks h0 st1) R K res h1
      exact ⟨x, k1, fun R' K' res' h' => h2 R' _ res' (k2 R' K' res' h')⟩
    | ret => exact ⟨(.ret, st1), h1, fun R' K' res' h' => h2 R' _ res' h'⟩
    | exit id => exact ⟨(.exit id, st1), h1, fun R' K' res' h' => h2 R' _ res' h'⟩

theorem goes_code (E : Env) (hE : CallLaw E.call) : ∀ (c : MC) (st : St), GoesC (fun {R} K => evalCode (R := R) E c K st)
  | .skip, st => goes_pure _
  | .region ops, st => goes_ops E hE ops st
  | .draw ops, st => goes_draw E hE _ ops _
  | .seq a b, st => by
    intro R K res he
    obtain ⟨e, st1, h1, h2⟩ := Goes2.inv (goes_code E hE a st) (K := kSeq (evalCode E b (fun x y => K (x, y))) (fun x y => K (x, y))) he
    cases e with
    | norm =>
      obtain ⟨x, k1, k2⟩ := goes_code E hE b st1 R K res h1
      exact ⟨x, k1, fun R' K' res' h' => h2 R' _ res' (k2 R' K' res' h')⟩
    | ret => exact ⟨(.ret, st1), h1, fun R' K' res' h' => h2 R' _ res' h'⟩
    | exit id => exact ⟨(.exit id, st1), h1, fun R' K' res' h' => h2 R' _ res' h'⟩
  | .cond c a b, st => by
    show Goes (fun {R} (K : AE × St → Option R) => evCond c (evalCode E a) (evalCode E b) (fun x y => K (x, y)) st)
    unfold evCond
    cases c with
    | t p =>
      show Goes _
      simp only
      split
      · exact goes_cond (goes_code E hE a _) (goes_code E hE b _)
      · exact goes_none
    | c v => exact goes_none
    | f g => exact goes_none
  | .block id a, st => by
    intro R K res he
    obtain ⟨e, st1, h1, h2⟩ := Goes2.inv (goes_code E hE a st) (K := kBlock id (fun x y => K (x, y))) he
    cases e with
    | norm => exact ⟨(.norm, st1), h1, fun R' K' res' h' => h2 R' _ res' h'⟩
    | ret => exact ⟨(.ret, st1), h1, fun R' K' res' h' => h2 R' _ res' h'⟩
    | exit i =>
      unfold kBlock at h1
      cases hb : Nat.beq i id with
      | true =>
        simp only [hb] at h1
        exact ⟨(.norm, st1), h1, fun R' K' res' h' => h2 R' _ res' (by simp only [kBlock, hb]; exact h')⟩
      | false =>
        simp only [hb] at h1
        exact ⟨(.exit i, st1), h1, fun R' K' res' h' => h2 R' _ res' (by simp only [kBlock, hb]; exact h')⟩
  | .loop dp ks a, st => goes_loop (fun st => goes_code E hE a st) dp ks _ _ _
  | .rangeF f dp out lv ps asg body, st => by
    show Goes (fun {R} (K : AE × St → Option R) => evRange E f dp out lv ps asg body (fun x y => K (x, y)) st)
    unfold evRange
    cases E.round with
    | some l => exact goes_none
    | none =>
      simp only
      split
      · rename_i g cs _
        intro R K res he
        obtain ⟨v, h', h1, h2⟩ := Goes2.inv (hE.goes false (.fn g cs) [.yld (st.h.length + 1)] (st.h ++ [.dfr false] ++ [.loop .ready .none dp lv (gets st.t.get lv) ps asg body])) (K := fun _ h => kRange ⟨sets (Tr.full .undef dp) out (gets st.t.get out), st.d, st.h⟩ (fun x y => K (x, y)) h) he
        have : Goes (fun {R} (K : AE × St → Option R) => kRange ⟨sets (Tr.full .undef dp) out (gets st.t.get out), st.d, st.h⟩ (fun x y => K (x, y)) h') := by
          unfold kRange
          split
          · exact goes_none
          · exact goes_pure _
          · exact goes_none
        obtain ⟨x, k1, k2⟩ := this R K res h1
        exact ⟨x, k1, fun R' K' res' h' => h2 R' _ res' (k2 R' K' res' h')⟩
      · exact goes_none
  | .exit id, st => goes_pure _
  | .ret, st => goes_pure _

/-! ### Calls -/
def SumLaw (T : Tab) : Prop := ∀ g s, T.sum g = some s → ∀ k as, Goes (fun {R} (K : AV → Option R) => s.run (R := R) k as K)

theorem goes_kRes (h : List AO) (o : Option (List AV)) : Goes2 (fun {R} K => kRes (R := R) K h o) := by
  unfold kRes
  cases o with
  | none => exact goes_none
  | some vs => cases vs with
    | nil => exact goes_pure _
    | cons v vs => cases vs with
      | nil => exact goes_pure _
      | cons u us => exact goes_pure _
theorem goes_kEnd (rs : List (Pth × Option (Bool × Nat))) (e : AE) (st : St) : Goes2 (fun {R} K => kEnd (R := R) rs K e st) := by
  unfold kEnd
  cases e with
  | exit id => exact goes_none
  | norm =>
    show Goes _
    simp only
    split
    · exact goes_kRes _ _
    · split
      · exact goes_kRes _ _
      · exact goes_none
    · exact goes_none
  | ret =>
    show Goes _
    simp only
    split
    · exact goes_kRes _ _
    · split
      · exact goes_kRes _ _
      · exact goes_none
    · exact goes_none

theorem goes_fn (E : Env) (hE : CallLaw E.call) (f : FuncId) (args : List AV) (h : List AO) : Goes2 (fun {R} K => evalFn (R := R) E f args h K) := by
  unfold evalFn
  cases E.T.fn f with
  | none => exact goes_none
  | some m =>
    show Goes _
    simp only
    cases Nat.beq m.params.length args.length with
    | false => exact goes_none
    | true =>
      intro R K res he
      obtain ⟨e, st1, h1, h2⟩ := Goes2.inv (goes_code { E with round := none } hE m.body _) (K := kEnd m.results (fun x y => K (x, y))) he
      obtain ⟨x, k1, k2⟩ := goes_kEnd m.results e st1 R K res h1
      exact ⟨x, k1, fun R' K' res' h' => h2 R' _ res' (k2 R' K' res' h')⟩

/-- A pure call goes to a value, whatever memory there is. -/
theorem callFn_still (E : Env) (hE : CallLaw E.call) (hS : SumLaw E.T) (g : FuncId) (args as : List AV) (hs : mapO strip args = some as) :
    ∀ (R : Type) pure h (K : AV → List AO → Option R) (res : R), callFn E pure g args h K = some res →
    ∃ v, K v h = some res ∧ ∀ (R' : Type) pure' h' (K' : AV → List AO → Option R') (res' : R'), K' v h' = some res' → callFn E pure' g args h' K' = some res' := by
  intro R pure h K res he
  simp only [callFn, hs] at he ⊢
  cases hsum : E.T.sum g with
  | some s =>
    rw [hsum] at he
    obtain ⟨v, h1, h2⟩ := hS g s hsum E.fuel as R _ res he
    exact ⟨v, h1, fun R' _ h' K' res' h'' => h2 R' (fun v => K' v h') res' h''⟩
  | none =>
    rw [hsum] at he
    obtain ⟨v, h1, k1, k2⟩ := Goes2.inv (goes_fn E hE g as []) he
    cases hp : purify E.T.ty h1 20 v with
    | none => rw [hp] at k1; cases k1
    | some v' =>
      rw [hp] at k1
      exact ⟨v', k1, fun R' _ h' K' res' h'' => k2 R' _ res' (by simp only [hp]; exact h'')⟩

theorem callV_law (E : Env) (hE : CallLaw E.call) (hS : SumLaw E.T) : CallLaw (fun {R} => callV (R := R) E) := by
  have fnl : ∀ pure g args h, Goes2 (fun {R} K => callFn (R := R) E pure g args h K) := by
    intro pure g args h
    cases hs : mapO strip args with
    | some as =>
      intro R K res he
      obtain ⟨v, h1, h2⟩ := callFn_still E hE hS g args as hs R pure h _ res he
      exact ⟨(v, h), h1, fun R' K' res' h' => h2 R' pure h _ res' h'⟩
    | none =>
      unfold callFn
      rw [hs]
      cases pure with
      | true => exact goes_none
      | false =>
        show Goes2 (fun {R} (K : AV → List AO → Option R) => match E.T.sum g with
          | some s => match mapO (purify E.T.ty h 20) args with
            | some as => s.run E.fuel as fun v => match plainV v with | true => K v h | false => none
            | none => evalFn E g args h K
          | none => evalFn E g args h K)
        cases hsum : E.T.sum g with
        | none => exact goes_fn E hE g args h
        | some s =>
          cases hp : mapO (purify E.T.ty h 20) args with
          | none => exact goes_fn E hE g args h
          | some as =>
            intro R K res he
            obtain ⟨v, h1, h2⟩ := hS g s hsum E.fuel as R _ res he
            cases hpl : plainV v with
            | false => rw [hpl] at h1; cases h1
            | true =>
              rw [hpl] at h1
              exact ⟨(v, h), h1, fun R' K' res' h' => h2 R' _ res' (by rw [hpl]; exact h')⟩
  refine ⟨fun pure f args h => ?_, fun R f args h K res he => ?_⟩
  · unfold callV
    cases f with
    | fn g caps => exact fnl pure g _ h
    | yld l =>
      cases pure with
      | true => exact goes_none
      | false =>
        show Goes (fun {R} (K : AV × List AO → Option R) => callYld E l args h (fun x y => K (x, y)))
        unfold callYld
        split
        · split
          · intro R K res he
            obtain ⟨e, st1, h1, h2⟩ := Goes2.inv (goes_code { E with round := some l } hE _ _) he
            have rest : ∀ bd, Goes (fun {R} (K : AV × List AO → Option R) => kAsg { E with round := some l } l bd (fun x y => K (x, y)) e st1) := by
              intro bd
              unfold kAsg
              cases e with
              | norm =>
                show Goes _
                simp only
                split
                · intro R K res he
                  obtain ⟨e2, st2, q1, q2⟩ := Goes2.inv (goes_code { E with round := some l } hE _ _) he
                  have : Goes (fun {R} (K : AV × List AO → Option R) => kRound l (fun x y => K (x, y)) e2 st2) := by
                    unfold kRound
                    split
                    · split
                      · split <;> exact goes_pure _
                      · exact goes_none
                    · exact goes_none
                  obtain ⟨x, k1, k2⟩ := this R K res q1
                  exact ⟨x, k1, fun R' K' res' h' => q2 R' _ res' (k2 R' K' res' h')⟩
                · exact goes_none
              | ret => exact goes_none
              | exit id => exact goes_none
            obtain ⟨x, k1, k2⟩ := rest _ R K res h1
            exact ⟨x, k1, fun R' K' res' h' => h2 R' _ res' (k2 R' K' res' h')⟩
          · exact goes_none
        · exact goes_none
    | _ => exact goes_none
  · unfold callV at he
    cases f with
    | fn g caps =>
      simp only at he
      cases hs : mapO strip (args ++ caps) with
      | some as =>
        obtain ⟨v, h1, h2⟩ := callFn_still E hE hS g _ as hs R true h K res he
        exact ⟨v, h1, fun R' h' K' res' h'' => h2 R' true h' K' res' h''⟩
      | none => simp only [callFn, hs] at he; cases he
    | yld l => cases he
    | _ => cases he

theorem callK_law (T : Tab) (hS : SumLaw T) (L : Nat) : ∀ k, CallLaw (fun {R} => callK T L k (R := R))
  | 0 => ⟨fun _ _ _ _ => goes_none, fun _ _ _ _ _ _ he => by cases he⟩
  | k + 1 => callV_law (envK T L (fun {R} => callK T L k (R := R))) (callK_law T hS L k) hS
end Go.Proofs.Ytkjegegjkeeemaa.Ev
