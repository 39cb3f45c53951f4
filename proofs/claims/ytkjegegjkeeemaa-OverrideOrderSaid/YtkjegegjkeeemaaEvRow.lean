/- A law's row out of a run of the abstract machine. -/
import Derived.Test.YtkjegegjkeeemaaEvRd
import Derived.OpenShut
import Derived.ChangeOld
import Derived.Below
set_option linter.all false
namespace Go.Proofs.Ytkjegegjkeeemaa.Ev
open Go Go.RowKit Go.ChangeShapes Go.WideShapes Go.ChangeAt

/-- An argument, as its type says. -/
def shA (d : Bool × List Ct) (a : AV) : Prop := (d.1 = true → ∃ as, a = .agg as ∧ shCs d.2 as) ∧ (d.1 = false → shCs d.2 [a])
def shAs : List (Bool × List Ct) → List AV → Prop
  | [], as => as = []
  | d :: ds, as => ∃ a as', as = a :: as' ∧ shA d a ∧ shAs ds as'
def isAggD : Option TypeDesc → Bool
  | some (.struct _) => true
  | _ => false
noncomputable def descs (P : Program) (k : Nat) : List TypeId → Option (List (Bool × List Ct))
  | [] => some []
  | t :: ts => match desc P k t with
    | some d => match descs P k ts with
      | some ds => some (d :: ds)
      | none => none
    | none => none

section
variable {H : Type} {enc : TypeId × Value → H} {P : Program} {W : World}
theorem read_arg {k : Nat} {t : TypeId} {d : Bool × List Ct} {v : Value} {x : DataW H} {p : List MemPlace} {base : Nat} (hd : desc P k t = some d) (hv : Value.okWide P W .any base t v) (h : DataW.Trod enc P W 0 (fun _ => true) true t v x p) :
    ∃ a, shA d a ∧ SR βo W a v := by
  obtain ⟨m, h⟩ := h
  obtain ⟨agg, cts⟩ := d
  obtain ⟨as, h1, h2⟩ := read k m t agg cts _ _ hd h
  cases k with
  | zero => cases hd
  | succ k =>
    have hd' : descStep P (desc P k) t = some (agg, cts) := hd
    cases agg with
    | true =>
      unfold descStep at hd'
      split at hd'
      · cases hd'
      · cases hd'
      · cases hd'
      · split at hd'
        · split at hd' <;> cases hd'
        · cases hd'
      · rename_i fs hu
        simp only [Value.okWide, hu] at hv
        obtain ⟨cs, rfl, _⟩ := hv
        refine ⟨.agg as, ⟨fun _ => ⟨as, rfl, h1⟩, fun h => by cases h⟩, ?_⟩
        simp only [SR]
        exact ⟨cs, rfl, by simpa [Value.cells] using h2⟩
      · cases hd'
    | false =>
      have hone : v.cells = #[v] := by
        unfold descStep at hd'
        split at hd'
        · rename_i hu
          simp only [Value.okWide, hu, Cell.okWide, Cell.ok] at hv
          cases v <;> first | rfl | exact hv.elim
        · rename_i hu
          simp only [Value.okWide, hu, Cell.okWide, Cell.ok] at hv
          cases v <;> first | rfl | exact hv.elim
        · rename_i hu
          simp only [Value.okWide, hu, Cell.okWide, Cell.ok] at hv
          cases v <;> first | rfl | exact hv.elim
        · rename_i e hu
          simp only [Value.okWide, hu, Cell.okWide, Cell.ok] at hv
          cases v <;> first | rfl | exact hv.elim
        · split at hd'
          · split at hd' <;> cases hd'
          · cases hd'
        · cases hd'
      rw [hone] at h2
      have hlen : as.length = 1 := SRs.len h2
      obtain ⟨a, rfl⟩ := List.length_eq_one_iff.1 hlen
      refine ⟨a, ⟨fun h => by (cases h), fun _ => h1⟩, ?_⟩
      simp only [SRs] at h2
      obtain ⟨y, ys, e, h3, _⟩ := h2
      cases e
      exact h3

theorem read_args {k base : Nat} : ∀ {ts : List TypeId} {ds : List (Bool × List Ct)} {vs : List Value} {xs : List (DataW H)} {p : List MemPlace}, descs P k ts = some ds →
    (∀ (j : Nat) t v, ts[j]? = some t → vs[j]? = some v → Value.okWide P W .any base t v) → DataW.TrodAll enc P W 0 (fun _ => true) true ts vs xs p → ∃ as, shAs ds as ∧ SRs βo W as vs
  | [], ds, vs, xs, p, hd, _, h => by
    obtain ⟨rfl, rfl, rfl⟩ := trodAll_nil h
    cases hd
    exact ⟨[], rfl, by simp [SRs]⟩
  | t :: ts, ds, vs, xs, p, hd, hv, h => by
    unfold descs at hd
    split at hd
    · rename_i d h1
      split at hd
      · rename_i ds' h2
        cases hd
        obtain ⟨v, vs', x, xs', p1, q, rfl, rfl, rfl, h3, h4⟩ := trodAll_cons h
        obtain ⟨a, a1, a2⟩ := read_arg h1 (hv 0 t v rfl rfl) h3
        obtain ⟨as, b1, b2⟩ := read_args h2 (fun j t v ht hv' => hv (j + 1) t v ht hv') h4
        exact ⟨a :: as, ⟨a, as, rfl, a1, b1⟩, by simp only [SRs]; exact ⟨v, vs', rfl, a2, b2⟩⟩
      · cases hd
    · cases hd

theorem trodAll_len {base : Nat} {spare : Nat → Bool} {held : Bool} : ∀ {ts : List TypeId} {vs : List Value} {xs : List (DataW H)} {p : List MemPlace}, DataW.TrodAll enc P W base spare held ts vs xs p → xs.length = ts.length
  | [], vs, xs, p, h => by obtain ⟨rfl, rfl, rfl⟩ := trodAll_nil h; rfl
  | t :: ts, vs, xs, p, h => by
    obtain ⟨v, vs', x, xs', p1, q, rfl, rfl, rfl, h3, h4⟩ := trodAll_cons h
    simp [trodAll_len h4]
theorem trodAll_back {W' : World} (hl : laidOutB P = true) (hb : Below W.heap.size W W') : ∀ {ts : List TypeId} {vs : List Value} {xs : List (DataW H)} {p : List MemPlace}, ts.all (fun t => P.readableRec t && decide (t < P.types.size)) = true →
    DataW.TrodAll enc P W 0 (fun _ => true) true ts vs xs p → ∃ q, DataW.TrodAll enc P W' 0 (fun b => decide (b < W.heap.size)) true ts vs xs q
  | [], vs, xs, p, _, h => by obtain ⟨rfl, rfl, rfl⟩ := trodAll_nil h; exact ⟨[], rfl⟩
  | t :: ts, vs, xs, p, hr, h => by
    obtain ⟨v, vs', x, xs', p1, q, rfl, rfl, rfl, h3, h4⟩ := trodAll_cons h
    simp only [List.all_cons, Bool.and_eq_true, decide_eq_true_eq] at hr
    obtain ⟨q', h5⟩ := trodAll_back hl hb hr.2 h4
    have hlt : ∀ y ∈ p1, y.block < W.heap.size := by
      obtain ⟨m, hm⟩ := h3
      exact DataW.trod_lt m _ _ _ hm
    exact ⟨_, trodAll_cons_mk (Below.trod hl hr.1.1 hr.1.2 h3 hb hlt) h5⟩

theorem contract_of {T : Tab} (hm : P.follows .mixedOrders = true) (hT : TabOK P T) {g : FuncId} {fn : Func} {s : ChangeSpec} {ds : List (Bool × List Ct)} {k : Nat} {tb : TypeId} {fresh handsOn : Bool} (laid : laidOutB P = true)
    (hd : descs P k fn.params.toList = some ds) (hread : fn.params.toList.all (fun t => P.readableRec t && decide (t < P.types.size)) = true) (hres : fn.resultTypes = #[tb]) (hub : P.underlying tb = some .bool)
    (hvars : s.vars = []) (hs : ∀ xs : List (DataW H), xs.length = fn.params.size → (s.fn H xs).results = [.lit (.bool true)] ∧ (s.fn H xs).args = xs ∧ (s.fn H xs).vars = [])
    (hgo : ∀ as, shAs ds as → ∃ bs L j, (∀ vs, SRs βo W as vs → SRs βo W bs vs) ∧ callK T L j true (.fn g []) bs [] (fun v _ => some v) = some (.bool true))
    (base : Nat) (args : Array Value) (xs gs : List (DataW H)) (before : List MemPlace)
    (hval : ∀ (j : Nat) t v, fn.params[j]? = some t → args[j]? = some v → Value.okWide P W .any base t v)
    (hW : DataW.Whole enc P fn.params.toList s.vars false W args.toList xs gs before) :
    Calls P g args W fun e W' => ∃ v, e = .returned v ∧ s.post enc P fn false fresh handsOn false W args v W' := by
  have hW' := hW
  obtain ⟨p, q, hA, hV, rfl, _, _⟩ := hW
  rw [hvars] at hV
  obtain ⟨rfl, rfl⟩ := trodVars_none hV
  obtain ⟨as, h1, h2⟩ := read_args (base := base) hd (fun j t v ht hv => hval j t v (by simpa using ht) (by simpa using hv)) hA
  obtain ⟨bs, L, j, h4, h3⟩ := hgo as h1
  have h2 := h4 _ h2
  have hst : βo.still = βo := rfl
  obtain ⟨_, f2⟩ := run_go (β := βo) (w := W) (args' := args) hm hT h3 (by rw [hst]; exact h2) ⟨rfl, fun n o x hn => by simp at hn, fun n m x y b hx => by simp [Bt.still, Bt.all] at hx, fun x hx => by simp [Bt.still, Bt.all] at hx, fun x hx => by simp [Bt.still, Bt.all] at hx⟩
  refine Calls.mono f2 ?_
  rintro e W' ⟨v, v', rfl, k1, k2, k3⟩
  cases k1
  simp only [SR] at k2
  subst k2
  have bel : Below W.heap.size W W' := ⟨k3.os, k3.tape, k3.output, k3.size, fun b hb => (k3.rest b hb (fun x hx => by simp [Bt.still] at hx)).1⟩
  obtain ⟨e1, e2, e3⟩ := hs (xs ++ []) (by rw [List.append_nil, trodAll_len hA]; simp)
  obtain ⟨q2, hback⟩ := trodAll_back laid bel hread hA
  refine ⟨_, rfl, xs, [], _, [], q2, [], hW', ?_, ?_, ?_, bel.frame _, fun h => by cases h⟩
  · rw [e1, hres]
    exact trodAll_mk1 (shut_bool hub _)
  · rw [e2, List.append_nil]; exact hback
  · rw [e3, hvars]; rfl
end
end Go.Proofs.Ytkjegegjkeeemaa.Ev
