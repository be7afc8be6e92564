/- Regions that draw their order: heads and movers in turn. -/
import Derived.Test.YtblhbfniomlfkaaRegion
namespace Go.Proofs.Ytblhbfniomlfkaa
open Go.RowKit

section
variable {P : Program} {ops : Array Oper} {Q : Exit → Act → World → Prop} {md : Region.Mode} {S : World → Prop} {T : Nat → Bool}

/-- true: an operation that may be taken now, whatever else may come; false: the only one that may come. -/
def stepL (P : Program) (ops : Array Oper) (Q : Exit → Act → World → Prop) (S : World → Prop) (rest : List Oper) : List (Bool × Oper) → Act → World → Prop
  | [], a, w => wpList P ops Q rest a w
  | (true, o) :: r, a, w => ∃ v, YieldsIf P ops S o v a ∧ stepL P ops Q S rest r (a.put o.dst v) w
  | (false, o) :: r, a, w => wpList P ops (Exit.then (fun a' w' => S w' ∧ stepL P ops Q S rest r a' w') Q) [o] a w

def pickB (l : List Oper) : List (Bool × Nat) → List (Bool × Oper)
  | [] => []
  | (b, i) :: r => match l[i]? with
    | some o => (b, o) :: pickB l r
    | none => pickB l r

theorem stepL_nil {rest : List Oper} {a : Act} {w : World} (h : wpList P ops Q rest a w) : stepL P ops Q S rest [] a w := h
theorem stepL_head {rest : List Oper} {r : List (Bool × Oper)} {a : Act} {w : World} {o : Oper} {v : Value} (hg : o.guard = none) (hy : ∀ w, S w → (execOp a.eval o).run P w = .ok (.value v) w) (h : stepL P ops Q S rest r (a.put o.dst v) w) : stepL P ops Q S rest ((true, o) :: r) a w :=
  ⟨v, .inl ⟨by simp [Region.wanted, hg], hy⟩, h⟩
theorem stepL_move {rest : List Oper} {r : List (Bool × Oper)} {a : Act} {w : World} {o : Oper} (h : wpList P ops (Exit.then (fun a' w' => S w' ∧ stepL P ops Q S rest r a' w') Q) [o] a w) : stepL P ops Q S rest ((false, o) :: r) a w := h

def lexB (md : Region.Mode) (ops : Array Oper) (rs : List Nat) : List (Bool × Nat) → Array Bool → Bool
  | [], listed => seqT md ops rs listed
  | (true, i) :: r, listed => (Region.ready md ops listed).contains i && Region.free md ops listed i && lexB md ops rs r (listed.setIfInBounds i true)
  | (false, i) :: r, listed => decide (Region.ready md ops listed = [i]) && lexB md ops rs r (listed.setIfInBounds i true)

def stepsB (md : Region.Mode) (ops : Array Oper) (st : List (Bool × Nat)) (rs : List Nat) : Bool :=
  Region.noSelect ops && decide (ops.size = st.length + rs.length) && (st.all fun p => !p.1 || (!rs.contains p.2 && rs.all fun j => Region.waitsFor md ops j p.2)) && lexB md ops rs st (Array.replicate ops.size false)

theorem wpT_steps (rs : List Nat) (hrs : ∀ i ∈ rs, T i = true) (hsel : Region.noSelect ops = true) (hQ : ∀ c a d v w, Q (.panic c) (a.put d v) w → Q (.panic c) a w) :
    ∀ (st : List (Bool × Nat)) (listed : Array Bool) (a : Act) (w : World), (∀ p ∈ st, p.1 = true → T p.2 = false ∧ ∀ j oj, T j = true → ops[j]? = some oj → ∃ e ∈ oj.after, Region.binds md e = true ∧ e.on = p.2) →
    lexB md ops rs st listed = true → S w → stepL P ops Q S (pick ops.toList rs) (pickB ops.toList st) a w → wpT P md ops Q S T (st.length + rs.length) listed a w
  | [], listed, a, w, _, hB, _, h => by
    rw [List.length_nil, Nat.zero_add]
    exact wpT_rest (fun _ _ => trivial) rs listed a w hrs hB h
  | (true, i) :: r, listed, a, w, hh, hB, hS, h => by
    simp only [lexB, Bool.and_eq_true] at hB
    obtain ⟨⟨hr, hf⟩, hB'⟩ := hB
    have hi : i ∈ Region.ready md ops listed := by simpa using hr
    obtain ⟨_, o, ho, _⟩ := mem_ready.1 hi
    have ho' : ops.toList[i]? = some o := by simpa using ho
    simp only [pickB, ho', stepL] at h
    obtain ⟨v, hy, hK⟩ := h
    rw [List.length_cons, show r.length + 1 + rs.length = (r.length + rs.length) + 1 by omega]
    have hp := hh (true, i) (by simp) rfl
    exact wpT_first ho (Region.noSelect_spec hsel) (fun c a w => hQ c a o.dst v w) hp.2 _ listed a w (Region.free_spec ho hf) hi hp.1 hy hS
      (wpT_steps rs hrs hsel hQ r _ _ w (fun p hp => hh p (by simp [hp])) hB' hS hK)
  | (false, i) :: r, listed, a, w, hh, hB, _, h => by
    simp only [lexB, Bool.and_eq_true, decide_eq_true_eq] at hB
    have hi : i ∈ Region.ready md ops listed := by rw [hB.1]; simp
    obtain ⟨_, o, ho, _⟩ := mem_ready.1 hi
    have ho' : ops.toList[i]? = some o := by simpa using ho
    simp only [pickB, ho', stepL] at h
    rw [List.length_cons, show r.length + 1 + rs.length = (r.length + rs.length) + 1 by omega]
    refine ⟨fun h1 => (by rw [hB.1] at h1; cases h1), fun j hj => ?_⟩
    rw [hB.1] at hj
    obtain rfl : j = i := by simpa using hj
    exact wpOp_mono (fun a' w' h' => ⟨fun _ => h'.1, wpT_steps rs hrs hsel hQ r _ a' w' (fun p hp => hh p (by simp [hp])) hB.2 h'.1 h'.2⟩) (wpOp_of_list ho h)

theorem wp_region_steps {id : Nat} {a : Act} {w : World} {l : List Oper} (S : World → Prop) (st : List (Bool × Nat)) (rs : List Nat) (hm : P.follows .mixedOrders = true) (hB : stepsB .any l.toArray st rs = true)
    (hQ : ∀ c a d v w, Q (.panic c) (a.put d v) w → Q (.panic c) a w) (hS : S w.drew) (h : stepL P l.toArray Q S (pick l rs) (pickB l st) a w.drew) : (Code.region id l.toArray true).wp P Q a w := by
  simp only [stepsB, Bool.and_eq_true, decide_eq_true_eq] at hB
  obtain ⟨⟨⟨hsel, hsz⟩, hall⟩, hlex⟩ := hB
  refine wp_region_any hm (wpAny_of_T (S := S) (T := fun j => rs.contains j) _ _ _ _ ?_)
  rw [hsz]
  rw [hsz] at hlex
  refine wpT_steps rs (fun i hi => by simpa using hi) hsel hQ st _ a _ (fun p hp h1 => ?_) hlex hS h
  have h2 := List.all_eq_true.1 hall p hp
  simp only [h1, Bool.not_true, Bool.false_or, Bool.and_eq_true] at h2
  refine ⟨by simpa using h2.1, fun j oj hj hoj => ?_⟩
  have h3 := List.all_eq_true.1 h2.2 j (by simpa using hj)
  obtain ⟨o', ho', e, he, hb, hon⟩ := Region.waitsFor_spec h3
  have : o' = oj := Option.some.inj (ho'.symm.trans hoj)
  subst this
  exact ⟨e, he, hb, hon⟩
end
end Go.Proofs.Ytblhbfniomlfkaa
