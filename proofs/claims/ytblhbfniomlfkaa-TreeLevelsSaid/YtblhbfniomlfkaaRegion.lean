/- Regions that draw their order, in which calls or allocations stand beside loads: the loads (and all else that only computes) may be taken first, if what the others do to memory leaves what is loaded alone till all loads are done. -/
import Derived.Test.YtblhbfniomlfkaaMem
import Derived.OrdersHeld
import Derived.StillTail
namespace Go.Proofs.Ytblhbfniomlfkaa
open Go.RowKit

section
variable {P : Program} {ops : Array Oper} {Q : Exit → Act → World → Prop} {md : Region.Mode} {S : World → Prop} {T : Nat → Bool}

/-- Whatever order is picked from here on; S holds behind every operation that isn't one of T. -/
def wpT (P : Program) (md : Region.Mode) (ops : Array Oper) (Q : Exit → Act → World → Prop) (S : World → Prop) (T : Nat → Bool) : Nat → Array Bool → Act → World → Prop
  | 0, listed, a, w => Region.ready md ops listed = [] ∧ Q .normal a w
  | fuel + 1, listed, a, w =>
    (Region.ready md ops listed = [] → Q .normal a w) ∧
    ∀ i ∈ Region.ready md ops listed, wpOp P ops Q i (fun a' w' => (T i = false → S w') ∧ wpT P md ops Q S T fuel (listed.setIfInBounds i true) a' w') a w

theorem wpAny_of_T : ∀ (fuel : Nat) (listed : Array Bool) (a : Act) (w : World), wpT P md ops Q S T fuel listed a w → wpAny P md ops Q fuel listed a w
  | 0, _, _, _, h => h
  | fuel + 1, _, _, _, h => ⟨h.1, fun i hi => wpOp_mono (fun a' w' h' => wpAny_of_T fuel _ a' w' h'.2) (h.2 i hi)⟩

/-- One that may come up now may be taken first, if all of T wait for it. -/
theorem wpT_first {i : Nat} {oi : Oper} {v : Value} (hi : ops[i]? = some oi) (hsel : ∀ (j : Nat) (o : Oper) cs b, ops[j]? = some o → o.op ≠ .select cs b)
    (hQ : ∀ c a w, Q (.panic c) (a.put oi.dst v) w → Q (.panic c) a w) (hT : ∀ j oj, T j = true → ops[j]? = some oj → ∃ e ∈ oj.after, Region.binds md e = true ∧ e.on = i) :
    ∀ (fuel : Nat) (listed : Array Bool) (a : Act) (w : World),
      (∀ j oj, ops[j]? = some oj → j ≠ i → listed.getD j true = false → (∀ e ∈ oj.after, Region.binds md e = true → e.on ≠ i) → oi.apart ops oj = true) →
      i ∈ Region.ready md ops listed → T i = false → YieldsIf P ops S oi v a → S w →
      wpT P md ops Q S T fuel (listed.setIfInBounds i true) (a.put oi.dst v) w → wpT P md ops Q S T (fuel + 1) listed a w := by
  intro fuel
  have unlisted : ∀ (listed : Array Bool) (j : Nat), i ∈ Region.ready md ops listed → j ∈ Region.ready md ops listed → ∃ oj, ops[j]? = some oj ∧ ∀ e ∈ oj.after, Region.binds md e = true → e.on ≠ i := by
    intro listed j hr hj
    obtain ⟨_, oj, hoj, hall⟩ := mem_ready.1 hj
    refine ⟨oj, hoj, fun e he hb heq => ?_⟩
    have h1 := hall e he hb
    have h0 := (mem_ready.1 hr).1
    rw [heq] at h1
    rcases Nat.lt_or_ge i listed.size with h' | h'
    · simp [h'] at h0 h1; rw [h0] at h1; cases h1
    · simp [Array.getElem?_eq_none h'] at h1
  induction fuel with
  | zero =>
    intro listed a w _ hr _ hy hS H
    refine ⟨fun h => (by rw [h] at hr; cases hr), fun j hj => ?_⟩
    by_cases hji : j = i
    · subst hji; exact hy.wpOp hi hS ⟨fun _ => hS, H⟩
    · have := ready_mono hj hji
      rw [H.1] at this
      cases this
  | succ fuel ih =>
    intro listed a w hfree hr hTi hy hS H
    refine ⟨fun h => (by rw [h] at hr; cases hr), fun j hj => ?_⟩
    by_cases hji : j = i
    · subst hji; exact hy.wpOp hi hS ⟨fun _ => hS, H⟩
    · have h1 := H.2 j (ready_mono hj hji)
      obtain ⟨oj, hoj, hnot⟩ := unlisted listed j hr hj
      have hjun := (mem_ready.1 hj).1
      have hTj : T j = false := by
        cases h : T j with
        | false => rfl
        | true =>
          obtain ⟨e, he, hb, hon⟩ := hT j oj h hoj
          exact absurd hon (hnot e he hb)
      have h2 := wpOp_putIf hoj (hfree j oj hoj hji hjun hnot) (fun cs b => hsel i oi cs b hi) (fun cs b => hsel j oj cs b hoj) hQ hy h1
      have hfree' : ∀ k ok, ops[k]? = some ok → k ≠ i → (listed.setIfInBounds j true).getD k true = false →
          (∀ e ∈ ok.after, Region.binds md e = true → e.on ≠ i) → oi.apart ops ok = true := fun k ok hk hki hun hno => by
        refine hfree k ok hk hki ?_ hno
        by_cases hjk : j = k
        · subst hjk; exact hjun
        · rw [getD_set_ne true hjk] at hun; exact hun
      refine wpOp_mono (fun a' w' h3 => ⟨h3.2.1, ih (listed.setIfInBounds j true) a' w' hfree' (ready_mono hr (Ne.symm hji)) hTi h3.1 (h3.2.1 hTj) ?_⟩) h2
      rw [Array.setIfInBounds_comm _ _ hji]
      exact h3.2.2

/-- The operations that are taken first, one by one: each yields its value in every world that meets S. -/
def headT (P : Program) (ops : Array Oper) (S : World → Prop) (Z : Act → Prop) : List Oper → Act → Prop
  | [], a => Z a
  | o :: r, a => ∃ v, YieldsIf P ops S o v a ∧ headT P ops S Z r (a.put o.dst v)

theorem headT_nil {Z : Act → Prop} {a : Act} (h : Z a) : headT P ops S Z [] a := h
theorem headT_cons {Z : Act → Prop} {a : Act} {o : Oper} {r : List Oper} {v : Value} (hg : o.guard = none) (hy : ∀ w, S w → (execOp a.eval o).run P w = .ok (.value v) w) (h : headT P ops S Z r (a.put o.dst v)) : headT P ops S Z (o :: r) a :=
  ⟨v, .inl ⟨by simp [Region.wanted, hg], hy⟩, h⟩

/-- Those that move memory, S to be shown behind each; then the rest. -/
def moveL (P : Program) (ops : Array Oper) (Q : Exit → Act → World → Prop) (S : World → Prop) (rest : List Oper) : List Oper → Act → World → Prop
  | [], a, w => wpList P ops Q rest a w
  | o :: r, a, w => wpList P ops (Exit.then (fun a' w' => S w' ∧ moveL P ops Q S rest r a' w') Q) [o] a w

theorem moveL_nil {rest : List Oper} {a : Act} {w : World} (h : wpList P ops Q rest a w) : moveL P ops Q S rest [] a w := h
theorem moveL_cons {rest r : List Oper} {o : Oper} {a : Act} {w : World} (h : wpList P ops (Exit.then (fun a' w' => S w' ∧ moveL P ops Q S rest r a' w') Q) [o] a w) : moveL P ops Q S rest (o :: r) a w := h

theorem Oper.wp_of_then {o : Oper} {a : Act} {w : World} {K K' : Act → World → Prop} (h : o.wp P a w K (Exit.then K' Q)) : o.wp P a w K Q := by
  unfold Oper.wp at *
  generalize (execOp a.eval o).run P w = r at *
  cases r with
  | ok n w' =>
    cases n <;> simp only [Oper.upon] at h ⊢ <;> first | exact h | exact Calls.mono h (fun e w'' he => by cases e <;> exact he)
  | halt x w' => cases x <;> simp only [Oper.upon] at h ⊢ <;> exact h

theorem wpOp_of_list {i : Nat} {o : Oper} {a : Act} {w : World} {K : Act → World → Prop} (hi : ops[i]? = some o) (h : wpList P ops (Exit.then K Q) [o] a w) : wpOp P ops Q i K a w := by
  unfold wpOp
  simp only [hi]
  unfold wpList at h
  split
  · rename_i hw
    rw [if_pos hw] at h
    exact h.imp (fun h => Oper.wp_of_then h) id
  · rename_i hw
    rw [if_neg hw] at h
    exact h

/-- Which operations a list of numbers names. -/
def pick (l : List Oper) : List Nat → List Oper
  | [] => []
  | i :: r => match l[i]? with
    | some o => o :: pick l r
    | none => pick l r

def seqT (md : Region.Mode) (ops : Array Oper) : List Nat → Array Bool → Bool
  | [], listed => (Region.ready md ops listed).isEmpty
  | i :: r, listed => decide (Region.ready md ops listed = [i]) && seqT md ops r (listed.setIfInBounds i true)

def lexT (md : Region.Mode) (ops : Array Oper) (tl : List Nat) : List Nat → Array Bool → Bool
  | [], listed => seqT md ops tl listed
  | i :: r, listed => (Region.ready md ops listed).contains i && Region.free md ops listed i && lexT md ops tl r (listed.setIfInBounds i true)

/-- Is a region of the kind: hd may be taken first; mv, then rs are what is left, in this order; all of rs wait for all of hd. -/
def moverB (md : Region.Mode) (ops : Array Oper) (hd mv rs : List Nat) : Bool :=
  Region.noSelect ops && decide (ops.size = hd.length + (mv.length + rs.length)) && (rs.all fun j => hd.all fun i => Region.waitsFor md ops j i) && (hd.all fun i => !rs.contains i) && lexT md ops (mv ++ rs) hd (Array.replicate ops.size false)

theorem wpT_rest (hT : ∀ i, T i = true → True) : ∀ (rs : List Nat) (listed : Array Bool) (a : Act) (w : World), (∀ i ∈ rs, T i = true) → seqT md ops rs listed = true → wpList P ops Q (pick ops.toList rs) a w → wpT P md ops Q S T rs.length listed a w
  | [], listed, a, w, _, hB, h => ⟨by simpa [seqT] using hB, h⟩
  | i :: r, listed, a, w, hr, hB, h => by
    simp only [seqT, Bool.and_eq_true, decide_eq_true_eq] at hB
    have hi : i ∈ Region.ready md ops listed := by rw [hB.1]; simp
    obtain ⟨_, o, ho, _⟩ := mem_ready.1 hi
    have ho' : ops.toList[i]? = some o := by simpa using ho
    simp only [pick, ho'] at h
    refine ⟨fun h1 => (by rw [hB.1] at h1; cases h1), fun j hj => ?_⟩
    rw [hB.1] at hj
    obtain rfl : j = i := by simpa using hj
    have hw : wpOp P ops Q j (wpList P ops Q (pick ops.toList r)) a w := by unfold wpOp; simp only [ho]; exact h
    exact wpOp_mono (fun a' w' h' => ⟨(fun h0 => by rw [hr j (by simp)] at h0; cases h0), wpT_rest hT r _ a' w' (fun k hk => hr k (by simp [hk])) hB.2 h'⟩) hw

theorem wpT_moves (rs : List Nat) (hrs : ∀ i ∈ rs, T i = true) : ∀ (mv : List Nat) (listed : Array Bool) (a : Act) (w : World), seqT md ops (mv ++ rs) listed = true →
    moveL P ops Q S (pick ops.toList rs) (pick ops.toList mv) a w → wpT P md ops Q S T (mv.length + rs.length) listed a w
  | [], listed, a, w, hB, h => by
    rw [List.length_nil, Nat.zero_add]
    exact wpT_rest (fun _ _ => trivial) rs listed a w hrs hB h
  | i :: r, listed, a, w, hB, h => by
    rw [List.cons_append] at hB
    simp only [seqT, Bool.and_eq_true, decide_eq_true_eq] at hB
    have hi : i ∈ Region.ready md ops listed := by rw [hB.1]; simp
    obtain ⟨_, o, ho, _⟩ := mem_ready.1 hi
    have ho' : ops.toList[i]? = some o := by simpa using ho
    simp only [pick, ho', moveL] at h
    rw [List.length_cons, show r.length + 1 + rs.length = (r.length + rs.length) + 1 by omega]
    refine ⟨fun h1 => (by rw [hB.1] at h1; cases h1), fun j hj => ?_⟩
    rw [hB.1] at hj
    obtain rfl : j = i := by simpa using hj
    exact wpOp_mono (fun a' w' h' => ⟨fun _ => h'.1, wpT_moves rs hrs r _ a' w' hB.2 h'.2⟩) (wpOp_of_list ho h)

theorem wpT_head (tl : List Nat) {Z : Act → World → Prop} (hsel : Region.noSelect ops = true) (hQ : ∀ c a d v w, Q (.panic c) (a.put d v) w → Q (.panic c) a w)
    (hZ : ∀ listed a w, seqT md ops tl listed = true → Z a w → wpT P md ops Q S T tl.length listed a w) :
    ∀ (hd : List Nat) (listed : Array Bool) (a : Act) (w : World), (∀ i ∈ hd, T i = false ∧ ∀ j oj, T j = true → ops[j]? = some oj → ∃ e ∈ oj.after, Region.binds md e = true ∧ e.on = i) →
    lexT md ops tl hd listed = true → S w → headT P ops S (fun a' => Z a' w) (pick ops.toList hd) a → wpT P md ops Q S T (hd.length + tl.length) listed a w
  | [], listed, a, w, _, hB, _, h => by
    rw [List.length_nil, Nat.zero_add]
    exact hZ listed a w hB h
  | i :: r, listed, a, w, hh, hB, hS, h => by
    simp only [lexT, Bool.and_eq_true] at hB
    obtain ⟨⟨hr, hf⟩, hB'⟩ := hB
    have hi : i ∈ Region.ready md ops listed := by simpa using hr
    obtain ⟨_, o, ho, _⟩ := mem_ready.1 hi
    have ho' : ops.toList[i]? = some o := by simpa using ho
    simp only [pick, ho', headT] at h
    obtain ⟨v, hy, hK⟩ := h
    rw [List.length_cons, show r.length + 1 + tl.length = (r.length + tl.length) + 1 by omega]
    exact wpT_first ho (Region.noSelect_spec hsel) (fun c a w => hQ c a o.dst v w) (hh i (by simp)).2 _ listed a w (Region.free_spec ho hf) hi (hh i (by simp)).1 hy hS
      (wpT_head tl hsel hQ hZ r _ _ w (fun k hk => hh k (by simp [hk])) hB' hS hK)

theorem wp_region_mover {id : Nat} {a : Act} {w : World} {l : List Oper} (S : World → Prop) (hd mv rs : List Nat) (hm : P.follows .mixedOrders = true) (hB : moverB .any l.toArray hd mv rs = true)
    (hQ : ∀ c a d v w, Q (.panic c) (a.put d v) w → Q (.panic c) a w) (hS : S w.drew)
    (h : headT P l.toArray S (fun a' => moveL P l.toArray Q S (pick l rs) (pick l mv) a' w.drew) (pick l hd) a) : (Code.region id l.toArray true).wp P Q a w := by
  simp only [moverB, Bool.and_eq_true, decide_eq_true_eq] at hB
  obtain ⟨⟨⟨⟨hsel, hsz⟩, hw⟩, hne⟩, hlex⟩ := hB
  refine wp_region_any hm (wpAny_of_T (S := S) (T := fun j => rs.contains j) _ _ _ _ ?_)
  rw [hsz, ← List.length_append]
  rw [hsz, ← List.length_append] at hlex
  refine wpT_head (mv ++ rs) (Z := fun a' w' => moveL P l.toArray Q S (pick l rs) (pick l mv) a' w') hsel hQ (fun listed a w hs hz => ?_) hd _ a _ (fun i hi => ⟨?_, fun j oj hj hoj => ?_⟩) hlex hS h
  · rw [List.length_append]
    exact wpT_moves rs (fun i hi => by simpa using hi) mv listed a w hs hz
  · have := List.all_eq_true.1 hne i hi
    simpa using this
  · have h1 := List.all_eq_true.1 (List.all_eq_true.1 hw j (by simpa using hj)) i hi
    obtain ⟨o', ho', e, he, hb, hon⟩ := Region.waitsFor_spec h1
    have : o' = oj := Option.some.inj (ho'.symm.trans hoj)
    subst this
    exact ⟨e, he, hb, hon⟩
end
end Go.Proofs.Ytblhbfniomlfkaa
