/- Two steps that may change places; a region whose order is open. -/
import Derived.Test.YtkjegegjkeeemaaEvV
set_option linter.all false
namespace Go.Proofs.Ytkjegegjkeeemaa.Ev
open Go

theorem Tr.set_comm {p q : Pth} (hpq : p ≠ q) (v u : AV) : ∀ (t : Tr), (t.set p v).set q u = (t.set q u).set p v := by
  intro t
  induction p generalizing q t with
  | nil =>
    cases q with
    | nil => exact absurd rfl hpq
    | cons b q => cases t <;> cases b <;> rfl
  | cons b p ih =>
    cases q with
    | nil => cases t <;> cases b <;> rfl
    | cons c q =>
      cases t with
      | nil => simp only [Tr.set_nil_tree]
      | node x l r =>
        have hne : b = c → p ≠ q := fun e h => hpq (by rw [e, h])
        cases b <;> cases c
        · show Tr.node x ((l.set p v).set q u) r = Tr.node x ((l.set q u).set p v) r
          rw [ih (hne rfl)]
        · rfl
        · rfl
        · show Tr.node x l ((r.set p v).set q u) = Tr.node x l ((r.set q u).set p v)
          rw [ih (hne rfl)]

section
variable {R : Type} {q : Nat} {ok : Nat → Bool} {K : St → Option R} {res : R} {st : St}

/-- What a step sees: what it reads, its guard. -/
def Same (m : MOp) (t t2 : Tr) : Prop := (∀ x ∈ m.op.reads, opnd t2 x = opnd t x) ∧ ∀ g w, m.guard = some (g, w) → t2.get g = t.get g

theorem step_frame {E : Env} (hE : CallLaw E.call) {m : MOp} (he : evalStep E true ok (layAt q st.h) m K st = some res) :
    ∃ v c, K ⟨putT st.t m.dst v, st.d, appC c st.h⟩ = some res ∧ ChangeOK q ok m.op.writes st.h c ∧
      ∀ (K' : St → Option R) (st2 : St), Same m st.t st2.t → Alike ok m.op.looks st.h st2.h → K' ⟨putT st2.t m.dst v, st2.d, appC c st2.h⟩ = some res → evalStep E true ok (layAt q st2.h) m K' st2 = some res := by
  have setSame : ∀ (t : Tr) (g : Pth) (v : AV), t.get g = v → t.set g v = t := fun t g v e => by rw [← e]; exact Tr.set_get g t
  have doIt : evalDo E true ok (layAt q st.h) m K st st.t = some res → ∃ v c, K ⟨putT st.t m.dst v, st.d, appC c st.h⟩ = some res ∧ ChangeOK q ok m.op.writes st.h c ∧
      ∀ (K' : St → Option R) (st2 : St), Same m st.t st2.t → Alike ok m.op.looks st.h st2.h → K' ⟨putT st2.t m.dst v, st2.d, appC c st2.h⟩ = some res → evalDo E true ok (layAt q st2.h) m K' st2 st2.t = some res := by
    intro he
    unfold evalDo at he
    obtain ⟨v, c, k1, k2, k3⟩ := mo_frame hE he
    refine ⟨v, c, k1, k2, fun K' st2 hs hA hk => ?_⟩
    unfold evalDo
    rw [mo_congr hs.1]
    exact k3 st2.h (fun v h => K' ⟨putT st2.t m.dst v, st2.d, h⟩) hA hk
  have skipIt : skipOp m K st st.t = some res → ∃ v c, K ⟨putT st.t m.dst v, st.d, appC c st.h⟩ = some res ∧ ChangeOK q ok m.op.writes st.h c ∧
      ∀ (K' : St → Option R) (st2 : St), K' ⟨putT st2.t m.dst v, st2.d, appC c st2.h⟩ = some res → skipOp m K' st2 st2.t = some res :=
    fun he => ⟨.tup [], none, he, (by intro n o e; cases e), fun K' st2 hk => hk⟩
  unfold evalStep at he
  cases hg : m.guard with
  | none =>
    rw [hg] at he
    obtain ⟨v, c, k1, k2, k3⟩ := doIt he
    refine ⟨v, c, k1, k2, fun K' st2 hs hA hk => ?_⟩
    unfold evalStep
    rw [hg]
    exact k3 K' st2 hs hA hk
  | some gw =>
    obtain ⟨g, want⟩ := gw
    rw [hg] at he
    simp only at he
    cases ht : st.t.get g with
    | bool b =>
      rw [ht] at he
      cases want <;> cases b
      · rw [setSame _ _ _ ht] at he
        obtain ⟨v, c, k1, k2, k3⟩ := doIt he
        refine ⟨v, c, k1, k2, fun K' st2 hs hA hk => ?_⟩
        have h2 := hs.2 g _ hg
        unfold evalStep
        simp only [hg, h2, ht]
        show evalDo E true ok (layAt q st2.h) m K' st2 (st2.t.set g (.bool false)) = some res
        rw [setSame _ _ _ (h2.trans ht)]
        exact k3 K' st2 hs hA hk
      · rw [setSame _ _ _ ht] at he
        obtain ⟨v, c, k1, k2, k3⟩ := skipIt he
        refine ⟨v, c, k1, k2, fun K' st2 hs hA hk => ?_⟩
        have h2 := hs.2 g _ hg
        unfold evalStep
        simp only [hg, h2, ht]
        show skipOp m K' st2 (st2.t.set g (.bool true)) = some res
        rw [setSame _ _ _ (h2.trans ht)]
        exact k3 K' st2 hk
      · rw [setSame _ _ _ ht] at he
        obtain ⟨v, c, k1, k2, k3⟩ := skipIt he
        refine ⟨v, c, k1, k2, fun K' st2 hs hA hk => ?_⟩
        have h2 := hs.2 g _ hg
        unfold evalStep
        simp only [hg, h2, ht]
        show skipOp m K' st2 (st2.t.set g (.bool false)) = some res
        rw [setSame _ _ _ (h2.trans ht)]
        exact k3 K' st2 hk
      · rw [setSame _ _ _ ht] at he
        obtain ⟨v, c, k1, k2, k3⟩ := doIt he
        refine ⟨v, c, k1, k2, fun K' st2 hs hA hk => ?_⟩
        have h2 := hs.2 g _ hg
        unfold evalStep
        simp only [hg, h2, ht]
        show evalDo E true ok (layAt q st2.h) m K' st2 (st2.t.set g (.bool true)) = some res
        rw [setSame _ _ _ (h2.trans ht)]
        exact k3 K' st2 hs hA hk
    | tup vs =>
      rw [ht] at he
      cases vs with
      | cons a as => cases he
      | nil =>
        obtain ⟨v, c, k1, k2, k3⟩ := skipIt he
        refine ⟨v, c, k1, k2, fun K' st2 hs hA hk => ?_⟩
        have h2 := hs.2 g _ hg
        unfold evalStep
        simp only [hg, h2, ht]
        exact k3 K' st2 hk
    | _ => rw [ht] at he; cases he
end

theorem meets_unit {a b c : Bool × Bool × Bool} {o : Option AO} (ha : a = kindOf o) (h1 : meets a b = true) (h2 : meets a c = true) : meets b c = true := by
  subst ha
  obtain ⟨b1, b2, b3⟩ := b
  obtain ⟨c1, c2, c3⟩ := c
  cases o with
  | none => cases h1
  | some o => cases o <;> simp_all [kindOf, meets]
theorem writes_looks (m : MO) {k : Bool × Bool × Bool} (h : meets k m.writes = true) : meets k m.looks = true := by
  obtain ⟨a, b, c⟩ := k
  cases m <;> simp_all [MO.writes, MO.looks, meets]

theorem get_putT {t : Tr} {d : Option Pth} {v : AV} {p : Pth} (h : ∀ q, d = some q → q ≠ p) : (putT t d v).get p = t.get p := by
  cases d with
  | none => rfl
  | some q => exact Tr.set_other q t v p (h q rfl)
theorem same_put {m : MOp} {t : Tr} {d : Option Pth} {v : AV} (h : seesD d m = false) : Same m t (putT t d v) := by
  cases d with
  | none => exact ⟨fun _ _ => rfl, fun _ _ _ => rfl⟩
  | some p =>
    simp only [seesD, MOp.sees, Bool.or_eq_false_iff] at h
    refine ⟨fun x hx => ?_, fun g w hg => ?_⟩
    · cases x with
      | t q =>
        have := List.any_eq_false.1 h.1 _ hx
        simp only [opdIs, decide_eq_true_eq] at this
        exact Tr.set_other p t v q this
      | c v => rfl
      | f id => rfl
    · have := h.2
      rw [hg] at this
      simp only [decide_eq_false_iff_not] at this
      exact Tr.set_other p t v g this
theorem same_put' {m : MOp} {t : Tr} {d : Option Pth} {v : AV} (h : seesD d m = false) : Same m (putT t d v) t := by
  obtain ⟨h1, h2⟩ := same_put (v := v) (t := t) h
  exact ⟨fun x hx => (h1 x hx).symm, fun g w hg => (h2 g w hg).symm⟩
theorem putT_comm {d d2 : Option Pth} (h : apartD d d2 = true) (t : Tr) (v u : AV) : putT (putT t d v) d2 u = putT (putT t d2 u) d v := by
  cases d <;> cases d2 <;> first | rfl | skip
  rename_i p q
  simp only [apartD, Bool.not_eq_true', decide_eq_false_iff_not] at h
  exact Tr.set_comm h v u t

section
variable {R : Type} {K : St → Option R} {res : R} {st : St}
/-- Two neighbours change places. -/
theorem swap_steps {E : Env} (hE : CallLaw E.call) {x y : MOp} {qx qy : Nat} {okx oky : Nat → Bool} (hsw : swap x y = true) (hq : qx ≠ qy) (hx : okx qy = false) (hy : oky qx = false)
    (he : evalStep E true okx (layAt qx st.h) x (fun s => evalStep E true oky (layAt qy s.h) y K s) st = some res) :
    evalStep E true oky (layAt qy st.h) y (fun s => evalStep E true okx (layAt qx s.h) x K s) st = some res := by
  simp only [swap, Bool.and_eq_true, Bool.not_eq_true'] at hsw
  obtain ⟨⟨⟨⟨hd, hs1⟩, hs2⟩, hm1⟩, hm2⟩ := hsw
  obtain ⟨v1, c1, a1, a2, a3⟩ := step_frame hE he
  obtain ⟨v2, c2, b1, b2, b3⟩ := step_frame hE a1
  simp only at b1 b2 b3
  -- what x has changed, y does not look at
  have F1 : ∀ (n : Nat) (o : AO), c1 = some (n, o) → oky n = true → meets (kindOf (some o)) y.op.looks = true → False := by
    intro n o hc hk hl
    rcases a2 n o hc with e | ⟨_, e2, e3⟩
    · rw [e, hy] at hk; cases hk
    · rw [← e3] at e2
      have := meets_unit rfl e2 hl
      rw [hm1] at this; cases this
  have kind1 : ∀ n : Nat, oky n = true → kindOf (appC c1 st.h)[n]? = kindOf st.h[n]? := by
    intro n hk
    cases c1 with
    | none => rfl
    | some p =>
      obtain ⟨n1, o1⟩ := p
      show kindOf (st.h.set n1 o1)[n]? = _
      rw [List.getElem?_set]
      split
      · rename_i e; subst e
        split
        · rcases a2 n1 o1 rfl with e | ⟨_, _, e3⟩
          · rw [e, hy] at hk; cases hk
          · exact e3
        · rename_i hlt
          rw [List.getElem?_eq_none (by omega)]
      · rfl
  have A1 : Alike oky y.op.looks (appC c1 st.h) st.h := by
    intro n hk hl
    cases c1 with
    | none => rfl
    | some p =>
      obtain ⟨n1, o1⟩ := p
      show st.h[n]? = (st.h.set n1 o1)[n]?
      rw [List.getElem?_set]
      split
      · rename_i e; subst e
        split
        · rename_i hlt
          refine (F1 n1 o1 rfl hk ?_).elim
          have : (appC (some (n1, o1)) st.h)[n1]? = some o1 := by
            show (st.h.set n1 o1)[n1]? = some o1
            rw [List.getElem?_set_self hlt]
          rw [this] at hl; exact hl
        · rename_i hlt
          rw [List.getElem?_eq_none (by omega)]
      · rfl
  have A2 : Alike okx x.op.looks st.h (appC c2 st.h) := by
    intro n hk hl
    cases c2 with
    | none => rfl
    | some p =>
      obtain ⟨n2, o2⟩ := p
      show (st.h.set n2 o2)[n]? = st.h[n]?
      rw [List.getElem?_set]
      split
      · rename_i e; subst e
        rcases b2 n2 o2 rfl with e | ⟨e1, e2, e3⟩
        · rw [e, hx] at hk; cases hk
        · rw [kind1 n2 e1] at e2
          have := meets_unit rfl e2 hl
          rw [hm2] at this; cases this
      · rfl
  refine b3 _ st (same_put' hs1) A1 ?_
  refine a3 _ _ (same_put hs2) A2 ?_
  simp only
  rw [← putT_comm hd]
  have hcomm : appC c1 (appC c2 st.h) = appC c2 (appC c1 st.h) := by
    cases c1 with
    | none => rfl
    | some p =>
      cases c2 with
      | none => rfl
      | some p2 =>
        obtain ⟨n1, o1⟩ := p
        obtain ⟨n2, o2⟩ := p2
        by_cases e : n1 = n2
        · subst e
          exfalso
          rcases b2 n1 o2 rfl with e | ⟨e1, e2, e3⟩
          · rcases a2 n1 o1 rfl with e' | ⟨e1', _, _⟩
            · exact hq (e'.symm.trans e)
            · rw [e, hx] at e1'; cases e1'
          · rcases a2 n1 o1 rfl with e' | ⟨e1', e2', e3'⟩
            · rw [e', hy] at e1; cases e1
            · rw [kind1 n1 e1] at e2
              have := meets_unit rfl e2' e2
              have := writes_looks y.op this
              rw [hm1] at this; cases this
        · show (st.h.set n2 o2).set n1 o1 = (st.h.set n1 o1).set n2 o2
          exact (List.set_comm o1 o2 e).symm
  rw [hcomm]
  exact b1
end
end Go.Proofs.Ytkjegegjkeeemaa.Ev
