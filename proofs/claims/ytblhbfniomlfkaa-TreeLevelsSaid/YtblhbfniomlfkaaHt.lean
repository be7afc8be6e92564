/- Plain lemmas on a table of slots with linear probing: what a probe that ends at a free or a fitting slot says. No Go in sight. -/
namespace Go.Proofs.Ytblhbfniomlfkaa

/-- A node of the arena, in numbers. -/
structure Nd where
  lv : Nat
  bits : Nat
  k0 : Nat
  k1 : Nat
  k2 : Nat
  k3 : Nat
  cnt : Nat
  deriving DecidableEq, Inhabited

/-- By what a node is found. -/
structure Key where
  lv : Nat
  bits : Nat
  k0 : Nat
  k1 : Nat
  k2 : Nat
  k3 : Nat
  deriving DecidableEq, Inhabited

def Nd.key (n : Nd) : Key := ⟨n.lv, n.bits, n.k0, n.k1, n.k2, n.k3⟩
def Key.nd (k : Key) (c : Nat) : Nd := ⟨k.lv, k.bits, k.k0, k.k1, k.k2, k.k3, c⟩
theorem Key.nd_key (k : Key) (c : Nat) : (k.nd c).key = k := rfl

/-- Where a probe from slot h on has ended: behind d steps. -/
def Probe (h : Nat) (ss : List Nat) (ns : List Nd) (k : Key) (d : Nat) : Prop :=
  d < ss.length ∧ ∀ e, e < d → ss.getD ((h + e) % ss.length) 0 ≠ 0 ∧ (ns.getD (ss.getD ((h + e) % ss.length) 0 - 1) default).key ≠ k

/-- The first j nodes lie in the table. -/
structure Ht (h : Key → Nat) (ss : List Nat) (ns : List Nd) (j : Nat) : Prop where
  room : j < ss.length
  le : j ≤ ns.length
  entry : ∀ x, ss.getD x 0 ≤ j
  there : ∀ i, i < j → ∃ d, d < ss.length ∧ ss.getD ((h (ns.getD i default).key + d) % ss.length) 0 = i + 1 ∧ ∀ e, e < d → ss.getD ((h (ns.getD i default).key + e) % ss.length) 0 ≠ 0
  count : (ss.filter (fun x => decide (x ≠ 0))).length = j

theorem filter_all {ss : List Nat} (h : ∀ x, x < ss.length → ss.getD x 0 ≠ 0) : (ss.filter (fun x => decide (x ≠ 0))).length = ss.length := by
  congr 1
  apply List.filter_eq_self.2
  intro a ha
  obtain ⟨i, hi, rfl⟩ := List.getElem_of_mem ha
  have := h i hi
  simpa [List.getD_eq_getElem?_getD, hi] using this

theorem Ht.free {h : Key → Nat} {ss : List Nat} {ns : List Nd} {j : Nat} (H : Ht h ss ns j) : ∃ x, x < ss.length ∧ ss.getD x 0 = 0 := by
  refine Classical.byContradiction fun hn => ?_
  have : ∀ x, x < ss.length → ss.getD x 0 ≠ 0 := fun x hx h0 => hn ⟨x, hx, h0⟩
  have := filter_all this
  have := H.count
  have := H.room
  omega

/-- From every slot a free one is met. -/
theorem Ht.free_from {h : Key → Nat} {ss : List Nat} {ns : List Nd} {j : Nat} (H : Ht h ss ns j) (b : Nat) : ∃ d, d < ss.length ∧ ss.getD ((b + d) % ss.length) 0 = 0 := by
  obtain ⟨x, hx, h0⟩ := H.free
  have hm : 0 < ss.length := by omega
  have hb : b % ss.length < ss.length := Nat.mod_lt _ hm
  have e : (b + (x + (ss.length - b % ss.length)) % ss.length) % ss.length = x := by
    rw [Nat.add_mod_mod]
    have h1 : b + (x + (ss.length - b % ss.length)) = x + ss.length * (b / ss.length + 1) := by
      have := Nat.div_add_mod b ss.length
      have h2 : ss.length * (b / ss.length + 1) = ss.length * (b / ss.length) + ss.length := by rw [Nat.mul_add, Nat.mul_one]
      omega
    rw [h1, Nat.add_mul_mod_self_left, Nat.mod_eq_of_lt hx]
  exact ⟨(x + (ss.length - b % ss.length)) % ss.length, Nat.mod_lt _ hm, by rw [e]; exact h0⟩

theorem Ht.no {h : Key → Nat} {ss : List Nat} {ns : List Nd} {j : Nat} (H : Ht h ss ns j) {k : Key} {d : Nat} (P : Probe (h k) ss ns k d) (h0 : ss.getD ((h k + d) % ss.length) 0 = 0) :
    ∀ i, i < j → (ns.getD i default).key ≠ k := by
  intro i hi hk
  obtain ⟨di, hdi, hat, hall⟩ := H.there i hi
  rw [hk] at hat hall
  rcases Nat.lt_trichotomy d di with hlt | heq | hgt
  · exact hall d hlt h0
  · subst heq; omega
  · have := (P.2 di hgt).2
    rw [hat] at this
    simp only [Nat.add_sub_cancel] at this
    exact this hk

theorem getD_set_self {ss : List Nat} {x v : Nat} (hx : x < ss.length) : (ss.set x v).getD x 0 = v := by
  simp [List.getD_eq_getElem?_getD, hx]
theorem getD_set_other {ss : List Nat} {x y v : Nat} (hne : x ≠ y) : (ss.set x v).getD y 0 = ss.getD y 0 := by
  simp [List.getD_eq_getElem?_getD, hne]

theorem filter_set {ss : List Nat} {x v : Nat} (hx : x < ss.length) (h0 : ss.getD x 0 = 0) (hv : v ≠ 0) :
    ((ss.set x v).filter (fun x => decide (x ≠ 0))).length = (ss.filter (fun x => decide (x ≠ 0))).length + 1 := by
  induction ss generalizing x with
  | nil => simp at hx
  | cons a l ih =>
    cases x with
    | zero =>
      have ha : a = 0 := by simpa using h0
      subst ha
      simp [hv]
    | succ x =>
      have := ih (x := x) (by simpa using hx) (by simpa using h0)
      simp only [List.set_cons_succ, List.filter_cons]
      split <;> simp_all

theorem Ht.put {h : Key → Nat} {ss : List Nat} {ns : List Nd} {j : Nat} (H : Ht h ss ns j) (hj : j < ns.length) (hroom : j + 1 < ss.length) {d : Nat}
    (P : Probe (h (ns.getD j default).key) ss ns (ns.getD j default).key d) (h0 : ss.getD ((h (ns.getD j default).key + d) % ss.length) 0 = 0) :
    Ht h (ss.set ((h (ns.getD j default).key + d) % ss.length) (j + 1)) ns (j + 1) := by
  have hm : 0 < ss.length := by omega
  have hx := Nat.mod_lt (h (ns.getD j default).key + d) hm
  refine ⟨by simpa using hroom, hj, ?_, ?_, ?_⟩
  · intro y
    by_cases hy : (h (ns.getD j default).key + d) % ss.length = y
    · subst hy; rw [getD_set_self hx]; omega
    · rw [getD_set_other hy]; have := H.entry y; omega
  · intro i hi
    rw [List.length_set]
    by_cases hij : i = j
    · subst hij
      refine ⟨d, P.1, getD_set_self hx, fun e he => ?_⟩
      by_cases hy : (h (ns.getD i default).key + d) % ss.length = (h (ns.getD i default).key + e) % ss.length
      · rw [← hy, getD_set_self hx]; omega
      · rw [getD_set_other hy]; exact (P.2 e he).1
    · obtain ⟨di, hdi, hat, hall⟩ := H.there i (by omega)
      refine ⟨di, hdi, ?_, fun e he => ?_⟩
      · by_cases hy : (h (ns.getD j default).key + d) % ss.length = (h (ns.getD i default).key + di) % ss.length
        · rw [hy] at h0; omega
        · rw [getD_set_other hy]; exact hat
      · by_cases hy : (h (ns.getD j default).key + d) % ss.length = (h (ns.getD i default).key + e) % ss.length
        · rw [← hy, getD_set_self hx]; omega
        · rw [getD_set_other hy]; exact hall e he
  · rw [filter_set hx h0 (by omega), H.count]

theorem Ht.start (h : Key → Nat) (m : Nat) (ns : List Nd) (hm : 0 < m) : Ht h (List.replicate m 0) ns 0 := by
  refine ⟨by simpa using hm, by omega, ?_, fun i hi => by omega, ?_⟩
  · intro x
    by_cases hx : x < m <;> simp [List.getD_eq_getElem?_getD, hx]
  · simp

theorem getD_append_left {ns : List Nd} {n : Nd} {i : Nat} (h : i < ns.length) : (ns ++ [n]).getD i default = ns.getD i default := by
  simp [List.getD_eq_getElem?_getD, List.getElem?_append_left h]

/-- A node more behind the list: the table is one of the first j all the same. -/
theorem Ht.append {h : Key → Nat} {ss : List Nat} {ns : List Nd} {j : Nat} (H : Ht h ss ns j) (n : Nd) : Ht h ss (ns ++ [n]) j := by
  refine ⟨H.room, by have := H.le; simp; omega, H.entry, fun i hi => ?_, H.count⟩
  rw [getD_append_left (by have := H.le; omega)]
  exact H.there i hi

theorem Probe.append {b : Nat} {ss : List Nat} {ns : List Nd} {k : Key} {d : Nat} (P : Probe b ss ns k d) (hle : ∀ x, ss.getD x 0 ≤ ns.length) (n : Nd) : Probe b ss (ns ++ [n]) k d := by
  refine ⟨P.1, fun e he => ⟨(P.2 e he).1, ?_⟩⟩
  have h1 := P.2 e he
  have h2 := hle ((b + e) % ss.length)
  rw [getD_append_left (by omega)]
  exact h1.2

/-- One step further. -/
theorem Probe.next {b : Nat} {ss : List Nat} {ns : List Nd} {k : Key} {d : Nat} (P : Probe b ss ns k d) (hf : ∃ d, d < ss.length ∧ ss.getD ((b + d) % ss.length) 0 = 0)
    (h0 : ss.getD ((b + d) % ss.length) 0 ≠ 0) (hk : (ns.getD (ss.getD ((b + d) % ss.length) 0 - 1) default).key ≠ k) : Probe b ss ns k (d + 1) := by
  have hall : ∀ e, e < d + 1 → ss.getD ((b + e) % ss.length) 0 ≠ 0 ∧ (ns.getD (ss.getD ((b + e) % ss.length) 0 - 1) default).key ≠ k := by
    intro e he
    by_cases h : e = d
    · subst h; exact ⟨h0, hk⟩
    · exact P.2 e (by omega)
  obtain ⟨f, hf1, hf2⟩ := hf
  refine ⟨?_, hall⟩
  rcases Nat.lt_or_ge f (d + 1) with h | h
  · exact absurd hf2 (hall f h).1
  · omega

end Go.Proofs.Ytblhbfniomlfkaa
