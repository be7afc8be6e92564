/- The arena as a graph: what is well formed, what is reached. Plain. -/
import Derived.Test.YtblhbfniomlfkaaMap
namespace Go.Proofs.Ytblhbfniomlfkaa

theorem nodup_sub {α : Type} [DecidableEq α] : ∀ (a b : List α), a.Nodup → (∀ x, x ∈ a → x ∈ b) → a.length ≤ b.length
  | [], _, _, _ => Nat.zero_le _
  | x :: a, b, ha, h => by
    obtain ⟨hx, ha⟩ := List.nodup_cons.1 ha
    have hxb := h x (by simp)
    have := nodup_sub a (b.erase x) ha (fun y hy => (List.mem_erase_of_ne (fun e => by subst e; exact hx hy)).2 (h y (by simp [hy])))
    rw [List.length_erase_of_mem hxb] at this
    have : 0 < b.length := List.length_pos_of_mem hxb
    simp only [List.length_cons]
    omega

def kidN (ns : List Nd) (i j : Nat) : Nat := four (ns.getD i default).k0 (ns.getD i default).k1 (ns.getD i default).k2 (ns.getD i default).k3 j

/-- Nodes that lie as they should. -/
structure Wf (ns : List Nd) : Prop where
  pos : 0 < ns.length
  zero : ns.getD 0 default = leaf0
  two : ∀ i, i < ns.length → 2 ≤ lvN ns i ∧ lvN ns i ≤ 44
  leaf : ∀ i, i < ns.length → lvN ns i = 2 → (∀ j, kidN ns i j = 0) ∧ cntN ns i = popc (ns.getD i default).bits
  join : ∀ i, i < ns.length → 2 < lvN ns i → (ns.getD i default).bits = 0 ∧ (∀ j, kidN ns i j < i ∧ lvN ns (kidN ns i j) + 1 = lvN ns i) ∧ cntN ns i = sumTo ns (kidN ns i) 4

/-- From a one comes to b. -/
inductive Rch (ns : List Nd) : Nat → Nat → Prop
  | refl (a : Nat) : Rch ns a a
  | step {a b j : Nat} : 2 < lvN ns a → Rch ns (kidN ns a j) b → Rch ns a b

theorem Wf.kid {ns : List Nd} (h : Wf ns) {i : Nat} (hi : i < ns.length) (hl : 2 < lvN ns i) (j : Nat) : kidN ns i j < i := ((h.join i hi hl).2.1 j).1
theorem four_lt {a b c d j : Nat} : four a b c d j = four a b c d (min j 3) := by
  unfold four
  rcases Nat.lt_or_ge j 3 with h | h
  · rw [Nat.min_eq_left (by omega)]
  · rw [Nat.min_eq_right h]; split <;> (try omega); split <;> (try omega); split <;> (try omega); rfl
theorem kid_min (ns : List Nd) (i j : Nat) : kidN ns i j = kidN ns i (min j 3) := four_lt

/-- The list holds only nodes, each once. -/
def SOk (ns : List Nd) (S : List Nat) : Prop := S.Nodup ∧ ∀ k, k ∈ S → k < ns.length
theorem SOk.length {ns : List Nd} {S : List Nat} (h : SOk ns S) : S.length ≤ ns.length := by
  have := nodup_sub S (List.range ns.length) h.1 (fun x hx => List.mem_range.2 (h.2 x hx))
  simpa using this

/-- What has been seen behind the first j kids of a, from S on. -/
structure MarkRel (ns : List Nd) (a : Nat) (S S' : List Nat) (j : Nat) : Prop where
  ok : SOk ns S'
  sub : ∀ k, k ∈ S → k ∈ S'
  self : a ∈ S'
  kid : ∀ i, i < j → kidN ns a i ∈ S'
  new : ∀ k, k ∈ S' → k ∈ S ∨ k = a ∨ (Rch ns a k ∧ (2 < lvN ns k → ∀ i, i < 4 → kidN ns k i ∈ S'))

/-- What mark makes of the list. -/
structure MarkEnd (ns : List Nd) (a : Nat) (S S' : List Nat) : Prop where
  ok : SOk ns S'
  sub : ∀ k, k ∈ S → k ∈ S'
  self : a ∈ S'
  new : ∀ k, k ∈ S' → k ∈ S ∨ (Rch ns a k ∧ (2 < lvN ns k → ∀ i, i < 4 → kidN ns k i ∈ S'))

theorem MarkEnd.seen {ns : List Nd} {a : Nat} {S : List Nat} (h : SOk ns S) (ha : a ∈ S) : MarkEnd ns a S S := ⟨h, fun _ h => h, ha, fun _ h => .inl h⟩
theorem MarkRel.start {ns : List Nd} {a : Nat} {S : List Nat} (h : SOk ns S) (ha : a ∉ S) (hN : a < ns.length) : MarkRel ns a S (a :: S) 0 :=
  ⟨⟨List.nodup_cons.2 ⟨ha, h.1⟩, fun k hk => by rcases List.mem_cons.1 hk with rfl | hk; exact hN; exact h.2 k hk⟩, fun k hk => by simp [hk], by simp, fun i hi => by omega, fun k hk => by
    rcases List.mem_cons.1 hk with rfl | hk
    · exact .inr (.inl rfl)
    · exact .inl hk⟩
theorem MarkRel.next {ns : List Nd} {a j : Nat} {S S1 S2 : List Nat} (h : MarkRel ns a S S1 j) (hl : 2 < lvN ns a) (k : MarkEnd ns (kidN ns a j) S1 S2) : MarkRel ns a S S2 (j + 1) :=
  ⟨k.ok, fun x hx => k.sub x (h.sub x hx), k.sub a h.self, fun i hi => by
    by_cases e : i = j
    · subst e; exact k.self
    · exact k.sub _ (h.kid i (by omega)), fun x hx => by
    rcases k.new x hx with h1 | ⟨h1, h2⟩
    · rcases h.new x h1 with h3 | h3 | ⟨h3, h4⟩
      · exact .inl h3
      · exact .inr (.inl h3)
      · exact .inr (.inr ⟨h3, fun hl i hi => k.sub _ (h4 hl i hi)⟩)
    · exact .inr (.inr ⟨.step hl h1, h2⟩)⟩
theorem MarkRel.done {ns : List Nd} {a : Nat} {S S' : List Nat} (h : MarkRel ns a S S' 4) : MarkEnd ns a S S' :=
  ⟨h.ok, h.sub, h.self, fun k hk => by
    rcases h.new k hk with h1 | rfl | h1
    · exact .inl h1
    · exact .inr ⟨.refl _, fun _ i hi => h.kid i hi⟩
    · exact .inr h1⟩
theorem MarkRel.leaf {ns : List Nd} {a : Nat} {S S' : List Nat} (h : MarkRel ns a S S' 0) (hl : ¬ 2 < lvN ns a) : MarkEnd ns a S S' :=
  ⟨h.ok, h.sub, h.self, fun k hk => by
    rcases h.new k hk with h1 | rfl | h1
    · exact .inl h1
    · exact .inr ⟨.refl _, fun h => absurd h hl⟩
    · exact .inr h1⟩

/-- Behind several marks. -/
structure Seen (ns : List Nd) (rs : List Nat) (S : List Nat) : Prop where
  ok : SOk ns S
  root : ∀ r, r ∈ rs → r ∈ S
  new : ∀ k, k ∈ S → (∃ r, r ∈ rs ∧ Rch ns r k) ∧ (2 < lvN ns k → ∀ i, i < 4 → kidN ns k i ∈ S)
theorem Seen.nil (ns : List Nd) : Seen ns [] [] := ⟨⟨List.nodup_nil, fun _ h => by simp at h⟩, fun _ h => by simp at h, fun _ h => by simp at h⟩
theorem Seen.next {ns : List Nd} {rs S S' : List Nat} {a : Nat} (h : Seen ns rs S) (k : MarkEnd ns a S S') : Seen ns (rs ++ [a]) S' :=
  ⟨k.ok, fun r hr => by
    rcases List.mem_append.1 hr with hr | hr
    · exact k.sub r (h.root r hr)
    · simp only [List.mem_singleton] at hr; subst hr; exact k.self, fun x hx => by
    rcases k.new x hx with h1 | ⟨h1, h2⟩
    · obtain ⟨⟨r, hr, h3⟩, h4⟩ := h.new x h1
      exact ⟨⟨r, by simp [hr], h3⟩, fun hl i hi => k.sub _ (h4 hl i hi)⟩
    · exact ⟨⟨a, by simp, h1⟩, h2⟩⟩
theorem Seen.iff {ns : List Nd} {rs S : List Nat} (h : Seen ns rs S) (k : Nat) : k ∈ S ↔ ∃ r, r ∈ rs ∧ Rch ns r k := by
  refine ⟨fun hk => (h.new k hk).1, ?_⟩
  rintro ⟨r, hr, h1⟩
  have hrS := h.root r hr
  clear hr
  induction h1 with
  | refl a => exact hrS
  | step hl _ ih => exact ih (by rw [kid_min]; exact (h.new _ hrS).2 hl _ (by omega))

/-- Two ways of seeing count alike. -/
theorem Seen.count {ns : List Nd} {rs S : List Nat} (h : Seen ns rs S) {T : List Nat} (hT : T.Nodup) (hm : ∀ k, k ∈ T ↔ ∃ r, r ∈ rs ∧ Rch ns r k) : S.length = T.length := by
  have h1 := nodup_sub S T h.ok.1 (fun x hx => (hm x).2 ((h.iff x).1 hx))
  have h2 := nodup_sub T S hT (fun x hx => (h.iff x).2 ((hm x).1 hx))
  omega

def ones (S : List Nat) : List (Nat × Nat) := S.map fun k => (k, 1)
theorem ones_length (S : List Nat) : (ones S).length = S.length := by simp [ones]
theorem ones_hasK (S : List Nat) (k : Nat) : hasK (ones S) k = decide (k ∈ S) := by
  induction S with
  | nil => rfl
  | cons x S ih =>
    by_cases e : k = x
    · subst e; simp [ones, hasK]
    · rw [show ones (x :: S) = (x, 1) :: ones S from rfl, hasK_other _ _ _ e, ih]; simp [e]
theorem ones_look (S : List Nat) (k : Nat) : look (ones S) k = if k ∈ S then 1 else 0 := by
  induction S with
  | nil => rfl
  | cons x S ih =>
    by_cases e : k = x
    · subst e; simp [ones, look]
    · rw [show ones (x :: S) = (x, 1) :: ones S from rfl, look_other _ _ _ e, ih]; simp [e]
end Go.Proofs.Ytblhbfniomlfkaa
