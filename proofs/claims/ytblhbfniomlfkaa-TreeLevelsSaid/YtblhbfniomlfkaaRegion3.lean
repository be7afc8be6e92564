/- Regions that draw their order: a plan of heads and movers, with forks where two movers may come. -/
import Derived.Test.YtblhbfniomlfkaaRegion2
namespace Go.Proofs.Ytblhbfniomlfkaa
open Go.RowKit

inductive Plan where
  | stop
  | head (i : Nat) (p : Plan)
  | one (i : Nat) (p : Plan)
  | two (i : Nat) (p : Plan) (j : Nat) (q : Plan)

def Plan.size : Plan → Nat
  | .stop => 0
  | .head _ p => p.size + 1
  | .one _ p => p.size + 1
  | .two _ p _ _ => p.size + 1

section
variable {P : Program} {ops : Array Oper} {Q : Exit → Act → World → Prop} {md : Region.Mode} {S : World → Prop} {T : Nat → Bool}

/-- One that moves memory: S is to be shown behind it. -/
def mvP (P : Program) (ops : Array Oper) (Q : Exit → Act → World → Prop) (S : World → Prop) (l : List Oper) (i : Nat) (Z : Act → World → Prop) (a : Act) (w : World) : Prop :=
  match l[i]? with
  | some o => wpList P ops (Exit.then (fun a' w' => S w' ∧ Z a' w') Q) [o] a w
  | none => False

def stepP (P : Program) (ops : Array Oper) (Q : Exit → Act → World → Prop) (S : World → Prop) (l rest : List Oper) : Plan → Act → World → Prop
  | .stop, a, w => wpList P ops Q rest a w
  | .head i p, a, w => match l[i]? with
    | some o => ∃ v, YieldsIf P ops S o v a ∧ stepP P ops Q S l rest p (a.put o.dst v) w
    | none => False
  | .one i p, a, w => mvP P ops Q S l i (stepP P ops Q S l rest p) a w
  | .two i p j q, a, w => mvP P ops Q S l i (stepP P ops Q S l rest p) a w ∧ mvP P ops Q S l j (stepP P ops Q S l rest q) a w

theorem stepP_stop {l rest : List Oper} {a : Act} {w : World} (h : wpList P ops Q rest a w) : stepP P ops Q S l rest .stop a w := h
theorem stepP_head {l rest : List Oper} {p : Plan} {i : Nat} {o : Oper} {a : Act} {w : World} {v : Value} (hi : l[i]? = some o) (hg : o.guard = none) (hy : ∀ w, S w → (execOp a.eval o).run P w = .ok (.value v) w) (h : stepP P ops Q S l rest p (a.put o.dst v) w) : stepP P ops Q S l rest (.head i p) a w := by
  simp only [stepP, hi]
  exact ⟨v, .inl ⟨by simp [Region.wanted, hg], hy⟩, h⟩
theorem mvP_of {l : List Oper} {i : Nat} {o : Oper} {Z : Act → World → Prop} {a : Act} {w : World} (hi : l[i]? = some o) (h : wpList P ops (Exit.then (fun a' w' => S w' ∧ Z a' w') Q) [o] a w) : mvP P ops Q S l i Z a w := by
  simp only [mvP, hi]; exact h
theorem stepP_one {l rest : List Oper} {p : Plan} {i : Nat} {o : Oper} {a : Act} {w : World} (hi : l[i]? = some o) (h : wpList P ops (Exit.then (fun a' w' => S w' ∧ stepP P ops Q S l rest p a' w') Q) [o] a w) : stepP P ops Q S l rest (.one i p) a w := mvP_of hi h
theorem stepP_two {l rest : List Oper} {p q : Plan} {i j : Nat} {o o' : Oper} {a : Act} {w : World} (hi : l[i]? = some o) (hj : l[j]? = some o') (h : wpList P ops (Exit.then (fun a' w' => S w' ∧ stepP P ops Q S l rest p a' w') Q) [o] a w)
    (h' : wpList P ops (Exit.then (fun a' w' => S w' ∧ stepP P ops Q S l rest q a' w') Q) [o'] a w) : stepP P ops Q S l rest (.two i p j q) a w := ⟨mvP_of hi h, mvP_of hj h'⟩

def planB (md : Region.Mode) (ops : Array Oper) (rs : List Nat) : Plan → Array Bool → Bool
  | .stop, listed => seqT md ops rs listed
  | .head i p, listed => (!rs.contains i && rs.all fun j => Region.waitsFor md ops j i) && ((Region.ready md ops listed).contains i && Region.free md ops listed i) && planB md ops rs p (listed.setIfInBounds i true)
  | .one i p, listed => decide (Region.ready md ops listed = [i]) && planB md ops rs p (listed.setIfInBounds i true)
  | .two i p j q, listed => decide (Region.ready md ops listed = [i, j]) && decide (p.size = q.size) && planB md ops rs p (listed.setIfInBounds i true) && planB md ops rs q (listed.setIfInBounds j true)

theorem wpT_plan (rs : List Nat) (hsel : Region.noSelect ops = true) (hQ : ∀ c a d v w, Q (.panic c) (a.put d v) w → Q (.panic c) a w) :
    ∀ (p : Plan) (listed : Array Bool) (a : Act) (w : World), planB md ops rs p listed = true → S w → stepP P ops Q S ops.toList (pick ops.toList rs) p a w → wpT P md ops Q S (fun j => rs.contains j) (p.size + rs.length) listed a w
  | .stop, listed, a, w, hB, _, h => by
    simp only [Plan.size, Nat.zero_add]
    exact wpT_rest (fun _ _ => trivial) rs listed a w (fun i hi => by simpa using hi) hB h
  | .head i p, listed, a, w, hB, hS, h => by
    simp only [planB, Bool.and_eq_true] at hB
    obtain ⟨⟨⟨hn, hw⟩, hr, hf⟩, hB'⟩ := hB
    have hi : i ∈ Region.ready md ops listed := by simpa using hr
    obtain ⟨_, o, ho, _⟩ := mem_ready.1 hi
    have ho' : ops.toList[i]? = some o := by simpa using ho
    simp only [stepP, ho'] at h
    obtain ⟨v, hy, hK⟩ := h
    simp only [Plan.size]
    rw [show p.size + 1 + rs.length = (p.size + rs.length) + 1 by omega]
    refine wpT_first ho (Region.noSelect_spec hsel) (fun c a w => hQ c a o.dst v w) (fun j oj hj hoj => ?_) _ listed a w (Region.free_spec ho hf) hi (by simpa using hn) hy hS (wpT_plan rs hsel hQ p _ _ w hB' hS hK)
    have h3 := List.all_eq_true.1 hw j (by simpa using hj)
    obtain ⟨o', ho', e, he, hb, hon⟩ := Region.waitsFor_spec h3
    have : o' = oj := Option.some.inj (ho'.symm.trans hoj)
    subst this
    exact ⟨e, he, hb, hon⟩
  | .one i p, listed, a, w, hB, _, h => by
    simp only [planB, Bool.and_eq_true, decide_eq_true_eq] at hB
    have hi : i ∈ Region.ready md ops listed := by rw [hB.1]; simp
    obtain ⟨_, o, ho, _⟩ := mem_ready.1 hi
    have ho' : ops.toList[i]? = some o := by simpa using ho
    simp only [stepP, mvP, ho'] at h
    simp only [Plan.size]
    rw [show p.size + 1 + rs.length = (p.size + rs.length) + 1 by omega]
    refine ⟨fun h1 => (by rw [hB.1] at h1; cases h1), fun j hj => ?_⟩
    rw [hB.1] at hj
    obtain rfl : j = i := by simpa using hj
    exact wpOp_mono (fun a' w' h' => ⟨fun _ => h'.1, wpT_plan rs hsel hQ p _ a' w' hB.2 h'.1 h'.2⟩) (wpOp_of_list ho h)
  | .two i p k q, listed, a, w, hB, _, h => by
    simp only [planB, Bool.and_eq_true, decide_eq_true_eq] at hB
    obtain ⟨⟨⟨hr, hsz⟩, hp⟩, hq⟩ := hB
    have hi : i ∈ Region.ready md ops listed := by rw [hr]; simp
    have hk : k ∈ Region.ready md ops listed := by rw [hr]; simp
    obtain ⟨_, o, ho, _⟩ := mem_ready.1 hi
    obtain ⟨_, o2, ho2, _⟩ := mem_ready.1 hk
    have ho' : ops.toList[i]? = some o := by simpa using ho
    have ho2' : ops.toList[k]? = some o2 := by simpa using ho2
    simp only [stepP, mvP, ho', ho2'] at h
    have e1 := fun a' w' hS h' => wpT_plan rs hsel hQ p (listed.setIfInBounds i true) a' w' hp hS h'
    have e2 := fun a' w' hS h' => wpT_plan rs hsel hQ q (listed.setIfInBounds k true) a' w' hq hS h'
    rw [← hsz] at e2
    simp only [Plan.size]
    rw [show p.size + 1 + rs.length = (p.size + rs.length) + 1 by omega]
    refine ⟨fun h1 => (by rw [hr] at h1; cases h1), fun j hj => ?_⟩
    rw [hr] at hj
    have hj' : j = i ∨ j = k := by simpa using hj
    rcases hj' with rfl | rfl
    · exact wpOp_mono (fun a' w' h' => ⟨fun _ => h'.1, e1 a' w' h'.1 h'.2⟩) (wpOp_of_list ho h.1)
    · exact wpOp_mono (fun a' w' h' => ⟨fun _ => h'.1, e2 a' w' h'.1 h'.2⟩) (wpOp_of_list ho2 h.2)

theorem wp_region_plan {id : Nat} {a : Act} {w : World} {l : List Oper} (S : World → Prop) (p : Plan) (rs : List Nat) (hm : P.follows .mixedOrders = true) (hB : (Region.noSelect l.toArray && decide (l.length = p.size + rs.length) && planB .any l.toArray rs p (Array.replicate l.length false)) = true)
    (hQ : ∀ c a d v w, Q (.panic c) (a.put d v) w → Q (.panic c) a w) (hS : S w.drew) (h : stepP P l.toArray Q S l (pick l rs) p a w.drew) : (Code.region id l.toArray true).wp P Q a w := by
  simp only [Bool.and_eq_true, decide_eq_true_eq] at hB
  obtain ⟨⟨hsel, hsz⟩, hp⟩ := hB
  refine wp_region_any hm (wpAny_of_T (S := S) (T := fun j => rs.contains j) _ _ _ _ ?_)
  rw [show l.toArray.size = p.size + rs.length from by simpa using hsz]
  rw [hsz] at hp
  exact wpT_plan rs hsel hQ p _ a _ hp hS h
end
end Go.Proofs.Ytblhbfniomlfkaa
