/- What move keeps: pairs of like nodes in two arenas. Plain. -/
import Derived.Test.YtblhbfniomlfkaaGraph
namespace Go.Proofs.Ytblhbfniomlfkaa

def bitsN (ns : List Nd) (i : Nat) : Nat := (ns.getD i default).bits
def Dis (ns : List Nd) : Prop := ∀ i j, i < j → j < ns.length → (ns.getD i default).key ≠ (ns.getD j default).key

theorem Dis.inj {ns : List Nd} (h : Dis ns) {i j : Nat} (hi : i < ns.length) (hj : j < ns.length) (e : (ns.getD i default).key = (ns.getD j default).key) : i = j := by
  rcases Nat.lt_trichotomy i j with h1 | h1 | h1
  · exact absurd e (h i j h1 hj)
  · exact h1
  · exact absurd e.symm (h j i h1 hi)

theorem key_of {ns ms : List Nd} {i j : Nat} (hl : lvN ns i = lvN ms j) (hb : bitsN ns i = bitsN ms j) (hk : ∀ n, kidN ns i n = kidN ms j n) : (ns.getD i default).key = (ms.getD j default).key := by
  have h0 := hk 0
  have h1 := hk 1
  have h2 := hk 2
  have h3 := hk 3
  simp only [kidN, four0, four1, four2, four3] at h0 h1 h2 h3
  simp only [lvN, bitsN] at hl hb
  simp only [Nd.key, hl, hb, h0, h1, h2, h3]

theorem getD_push_old {ns : List Nd} {n : Nd} {i : Nat} (h : i < ns.length) : (ns ++ [n]).getD i default = ns.getD i default := by
  simp [List.getElem?_append_left h]
theorem getD_push_new {ns : List Nd} {n : Nd} : (ns ++ [n]).getD ns.length default = n := by simp

theorem sumTo_congr {ns ms : List Nd} {f g : Nat → Nat} : ∀ {j : Nat}, (∀ i, i < j → cntN ns (f i) = cntN ms (g i)) → sumTo ns f j = sumTo ms g j
  | 0, _ => rfl
  | j + 1, h => by
    simp only [sumTo]
    rw [sumTo_congr (j := j) (fun i hi => h i (by omega)), h j (by omega)]

theorem lv_push {ns : List Nd} {n : Nd} {i : Nat} (h : i < ns.length) : lvN (ns ++ [n]) i = lvN ns i := by simp only [lvN, getD_push_old h]
theorem cnt_push {ns : List Nd} {n : Nd} {i : Nat} (h : i < ns.length) : cntN (ns ++ [n]) i = cntN ns i := by simp only [cntN, getD_push_old h]
theorem kid_push {ns : List Nd} {n : Nd} {i : Nat} (h : i < ns.length) (j : Nat) : kidN (ns ++ [n]) i j = kidN ns i j := by simp only [kidN, getD_push_old h]
theorem bits_push {ns : List Nd} {n : Nd} {i : Nat} (h : i < ns.length) : bitsN (ns ++ [n]) i = bitsN ns i := by simp only [bitsN, getD_push_old h]

theorem Wf.push {ns : List Nd} (h : Wf ns) {n : Nd} (h2 : 2 ≤ n.lv ∧ n.lv ≤ 44) (hl : n.lv = 2 → n.k0 = 0 ∧ n.k1 = 0 ∧ n.k2 = 0 ∧ n.k3 = 0 ∧ n.cnt = popc n.bits)
    (hj : 2 < n.lv → n.bits = 0 ∧ (∀ j, four n.k0 n.k1 n.k2 n.k3 j < ns.length ∧ lvN ns (four n.k0 n.k1 n.k2 n.k3 j) + 1 = n.lv) ∧ n.cnt = sumTo ns (four n.k0 n.k1 n.k2 n.k3) 4) : Wf (ns ++ [n]) := by
  have hlen : (ns ++ [n]).length = ns.length + 1 := by simp
  refine ⟨by omega, by rw [getD_push_old h.pos]; exact h.zero, ?_, ?_, ?_⟩
  · intro i hi
    by_cases e : i < ns.length
    · rw [lv_push e]; exact h.two i e
    · obtain rfl : i = ns.length := by omega
      simp only [lvN, getD_push_new]; exact h2
  · intro i hi hlv
    by_cases e : i < ns.length
    · rw [lv_push e] at hlv
      rw [cnt_push e, getD_push_old e]
      exact ⟨fun j => by rw [kid_push e]; exact (h.leaf i e hlv).1 j, (h.leaf i e hlv).2⟩
    · obtain rfl : i = ns.length := by omega
      simp only [lvN, getD_push_new] at hlv
      obtain ⟨a0, a1, a2, a3, a4⟩ := hl hlv
      simp only [kidN, cntN, getD_push_new]
      refine ⟨fun j => ?_, a4⟩
      rw [a0, a1, a2, a3]
      unfold four
      split <;> try rfl
      split <;> try rfl
      split <;> rfl
  · intro i hi hlv
    by_cases e : i < ns.length
    · rw [lv_push e] at hlv
      rw [cnt_push e, getD_push_old e, lv_push e]
      obtain ⟨b0, b1, b2⟩ := h.join i e hlv
      refine ⟨b0, fun j => ?_, ?_⟩
      · rw [kid_push e, lv_push (by have := (b1 j).1; omega)]; exact b1 j
      · rw [b2]
        exact sumTo_congr (fun j _ => by rw [kid_push e, cnt_push (by have := (b1 j).1; omega)])
    · obtain rfl : i = ns.length := by omega
      simp only [lvN, getD_push_new] at hlv
      obtain ⟨b0, b1, b2⟩ := hj hlv
      have hk : ∀ j, kidN (ns ++ [n]) ns.length j = four n.k0 n.k1 n.k2 n.k3 j := fun j => by simp only [kidN, getD_push_new]
      refine ⟨by rw [getD_push_new]; exact b0, fun j => ?_, ?_⟩
      · rw [hk, lv_push (b1 j).1]
        refine ⟨(b1 j).1, ?_⟩
        rw [(b1 j).2]
        simp only [lvN, getD_push_new]
      · simp only [cntN, getD_push_new]
        rw [b2]
        exact sumTo_congr (fun j _ => by rw [hk, cnt_push (b1 j).1])

theorem Wf.push_leaf {ns : List Nd} (h : Wf ns) (f : Nat) : Wf (ns ++ [(leafKey f).nd (popc f)]) :=
  h.push ⟨by simp [Key.nd, leafKey], by simp [Key.nd, leafKey]⟩ (fun _ => ⟨rfl, rfl, rfl, rfl, rfl⟩) (fun h => by simp [Key.nd, leafKey] at h)
theorem Wf.push_join {ns : List Nd} (h : Wf ns) {k0 k1 k2 k3 : Nat} (hok : ∀ j, kidOk ns k0 (four k0 k1 k2 k3 j)) (hd : lvN ns k0 ≤ 43) : Wf (ns ++ [(joinKey ns k0 k1 k2 k3).nd (sumTo ns (four k0 k1 k2 k3) 4)]) := by
  have h2 := (h.two k0 (hok 0).1).1
  refine h.push ⟨by simp [Key.nd, joinKey]; omega, by simp [Key.nd, joinKey]; omega⟩ (fun e => by simp [Key.nd, joinKey] at e; omega) (fun _ => ⟨rfl, fun j => ⟨(hok j).1, ?_⟩, rfl⟩)
  simp only [Key.nd, joinKey]
  rw [(hok j).2]

/-- What a found or made node is. -/
structure Laid (ms : List Nd) (k : Key) (out : Nat) (ms' : List Nd) : Prop where
  lt : out < ms'.length
  key : (ms'.getD out default).key = k
  len : ms'.length ≤ ms.length + 1
  le : ms.length ≤ ms'.length
  old : ∀ i, i < ms.length → ms'.getD i default = ms.getD i default
  fresh : ∀ i, i < ms'.length → i < ms.length ∨ i = out

theorem laid_of {ms : List Nd} {most : Int} {k : Key} {c : Nat} (hm : (ms.length : Int) < most) : (findR ms most k c).2.1 = 0 ∧ Laid ms k (findR ms most k c).1 (findR ms most k c).2.2 ∧ ((findR ms most k c).2.2 = ms ∨ (findR ms most k c).2.2 = ms ++ [k.nd c]) := by
  unfold findR
  cases h : idx ms k with
  | some i =>
    obtain ⟨h1, h2⟩ := idx_spec h
    exact ⟨rfl, ⟨h1, h2, Nat.le_succ _, Nat.le_refl _, fun _ _ => rfl, fun i hi => .inl hi⟩, .inl rfl⟩
  | none =>
    simp only
    rw [if_neg (by omega)]
    exact ⟨rfl, ⟨by simp, by simp [Key.nd_key], by simp, by simp, fun i hi => getD_push_old hi, fun i hi => by simp at hi; omega⟩, .inr rfl⟩

/-- The pairs say which node has become which. -/
structure MvOk (ns ms : List Nd) (M : List (Nat × Nat)) : Prop where
  wf : Wf ms
  dom : (M.map (·.1)).Nodup
  lt : ∀ x y, (x, y) ∈ M → x < ns.length ∧ y < ms.length
  like : ∀ x y, (x, y) ∈ M → lvN ms y = lvN ns x ∧ bitsN ms y = bitsN ns x ∧ cntN ms y = cntN ns x
  kid : ∀ x y, (x, y) ∈ M → 2 < lvN ns x → ∀ j, (kidN ns x j, kidN ms y j) ∈ M
  img : ∀ y, y < ms.length → y = 0 ∨ ∃ x, (x, y) ∈ M

theorem MvOk.length {ns ms : List Nd} {M : List (Nat × Nat)} (h : MvOk ns ms M) : M.length ≤ ns.length ∧ ms.length ≤ M.length + 1 := by
  constructor
  · have := nodup_sub (M.map (·.1)) (List.range ns.length) h.dom (fun x hx => by
      obtain ⟨⟨a, b⟩, hp, rfl⟩ := List.mem_map.1 hx
      exact List.mem_range.2 (h.lt a b hp).1)
    simpa using this
  · have := nodup_sub (List.range ms.length) (0 :: M.map (·.2)) List.nodup_range (fun y hy => by
      rcases h.img y (List.mem_range.1 hy) with rfl | ⟨x, hx⟩
      · simp
      · exact List.mem_cons_of_mem _ (List.mem_map.2 ⟨(x, y), hx, rfl⟩))
    simpa using this

theorem mem_lookup {M : List (Nat × Nat)} (hd : (M.map (·.1)).Nodup) {x y : Nat} (h : (x, y) ∈ M) : M.lookup x = some y := by
  induction M with
  | nil => simp at h
  | cons p M ih =>
    obtain ⟨a, b⟩ := p
    simp only [List.map_cons, List.nodup_cons] at hd
    rcases List.mem_cons.1 h with e | e
    · cases e; simp
    · have : x ≠ a := fun e' => hd.1 (by rw [← e']; exact List.mem_map.2 ⟨(x, y), e, rfl⟩)
      have hb : (x == a) = false := by simpa using this
      rw [List.lookup_cons, hb]
      exact ih hd.2 e
theorem lookup_mem {M : List (Nat × Nat)} {x y : Nat} (h : M.lookup x = some y) : (x, y) ∈ M := by
  induction M with
  | nil => simp at h
  | cons p M ih =>
    obtain ⟨a, b⟩ := p
    rw [List.lookup_cons] at h
    split at h
    · rename_i he
      have := beq_iff_eq.1 he
      subst this
      cases h
      simp
    · exact List.mem_cons_of_mem _ (ih h)
theorem hasK_mem {M : List (Nat × Nat)} {x : Nat} (h : hasK M x = true) : (x, look M x) ∈ M := by
  unfold hasK at h
  obtain ⟨y, hy⟩ := Option.isSome_iff_exists.1 h
  have := lookup_mem hy
  simpa [look, hy] using this
theorem hasK_not {M : List (Nat × Nat)} {x : Nat} (h : hasK M x = false) : x ∉ M.map (·.1) := by
  intro hx
  obtain ⟨⟨a, b⟩, hp, rfl⟩ := List.mem_map.1 hx
  have : hasK M a = true := by
    clear h hx
    induction M with
    | nil => simp at hp
    | cons p M ih =>
      obtain ⟨c, d⟩ := p
      by_cases e : a = c
      · subst e; exact hasK_same _ _ _
      · rw [hasK_other _ _ _ e]
        rcases List.mem_cons.1 hp with e' | e'
        · cases e'; exact absurd rfl e
        · exact ih e'
  simp_all

/-- The pair of a node that has just been made. -/
theorem MvOk.put {ns ms ms' : List Nd} {M : List (Nat × Nat)} {k : Key} {a out : Nat} (h : MvOk ns ms M) (hns : Wf ns) (hms : Wf ms') (hL : Laid ms k out ms') (ha : a < ns.length) (hnew : a ∉ M.map (·.1))
    (hlv : k.lv = lvN ns a) (hb : k.bits = bitsN ns a) (hk : 2 < lvN ns a → ∀ j, (kidN ns a j, four k.k0 k.k1 k.k2 k.k3 j) ∈ M) : MvOk ns ms' ((a, out) :: M) := by
  have hkey := hL.key
  have e1 : lvN ms' out = lvN ns a := by rw [← hlv, ← hkey]; rfl
  have e2 : bitsN ms' out = bitsN ns a := by rw [← hb, ← hkey]; rfl
  have e3 : ∀ j, kidN ms' out j = four k.k0 k.k1 k.k2 k.k3 j := fun j => by rw [← hkey]; rfl
  have ol : ∀ y, y < ms.length → lvN ms' y = lvN ms y ∧ bitsN ms' y = bitsN ms y ∧ cntN ms' y = cntN ms y ∧ ∀ j, kidN ms' y j = kidN ms y j := fun y hy => by
    simp only [lvN, bitsN, cntN, kidN, hL.old y hy, implies_true, and_self]
  have e4 : cntN ms' out = cntN ns a := by
    have h2 := (hns.two a ha).1
    by_cases e : lvN ns a = 2
    · have q1 := (hms.leaf out hL.lt (e1.trans e)).2
      have q2 := (hns.leaf a ha e).2
      rw [q1, q2]
      exact congrArg popc e2
    · have hd : 2 < lvN ns a := by omega
      have q1 := (hms.join out hL.lt (by rw [e1]; exact hd)).2.2
      have q2 := (hns.join a ha hd).2.2
      rw [q1, q2]
      refine sumTo_congr (fun j _ => ?_)
      have hm := hk hd j
      have hy := (h.lt _ _ hm).2
      rw [e3, (ol _ hy).2.2.1]
      exact (h.like _ _ hm).2.2
  refine ⟨hms, ?_, ?_, ?_, ?_, ?_⟩
  · simp only [List.map_cons, List.nodup_cons]; exact ⟨hnew, h.dom⟩
  · intro x y hxy
    rcases List.mem_cons.1 hxy with e | e
    · cases e; exact ⟨ha, hL.lt⟩
    · exact ⟨(h.lt x y e).1, Nat.lt_of_lt_of_le (h.lt x y e).2 hL.le⟩
  · intro x y hxy
    rcases List.mem_cons.1 hxy with e | e
    · cases e; exact ⟨e1, e2, e4⟩
    · have := ol y (h.lt x y e).2
      rw [this.1, this.2.1, this.2.2.1]
      exact h.like x y e
  · intro x y hxy hl j
    rcases List.mem_cons.1 hxy with e | e
    · cases e; rw [e3]; exact List.mem_cons_of_mem _ (hk hl j)
    · rw [(ol y (h.lt x y e).2).2.2.2]
      exact List.mem_cons_of_mem _ (h.kid x y e hl j)
  · intro y hy
    rcases hL.fresh y hy with e | e
    · rcases h.img y e with e' | ⟨x, e'⟩
      · exact .inl e'
      · exact .inr ⟨x, List.mem_cons_of_mem _ e'⟩
    · exact .inr ⟨a, by rw [e]; simp⟩

theorem MvOk.inj {ns ms : List Nd} {M : List (Nat × Nat)} (h : MvOk ns ms M) (hns : Wf ns) (hd : Dis ns) : ∀ {x : Nat} {x' y : Nat}, (x, y) ∈ M → (x', y) ∈ M → x = x' := by
  intro x
  induction x using Nat.strongRecOn with
  | ind x ih => ?_
  intro x' y h1 h2
  have l1 := (h.lt _ _ h1).1
  have l2 := (h.lt _ _ h2).1
  obtain ⟨a1, a2, _⟩ := h.like _ _ h1
  obtain ⟨b1, b2, _⟩ := h.like _ _ h2
  have el : lvN ns x = lvN ns x' := by rw [← a1, ← b1]
  have eb : bitsN ns x = bitsN ns x' := by rw [← a2, ← b2]
  have t := (hns.two x l1).1
  refine hd.inj l1 l2 (key_of el eb fun j => ?_)
  by_cases e : lvN ns x = 2
  · rw [(hns.leaf x l1 e).1, (hns.leaf x' l2 (el ▸ e)).1]
  · exact ih _ (hns.kid l1 (by omega) j) (h.kid x y h1 (by omega) j) (h.kid x' y h2 (by omega) j)

theorem lf0 {ns : List Nd} (h : Wf ns) : lvN ns 0 = 2 ∧ bitsN ns 0 = 0 ∧ ∀ j, kidN ns 0 j = 0 := by
  have e : lvN ns 0 = 2 := by simp only [lvN, h.zero]; rfl
  exact ⟨e, by simp only [bitsN, h.zero]; rfl, (h.leaf 0 h.pos e).1⟩
theorem is0 {ns : List Nd} (h : Wf ns) (hd : Dis ns) {i : Nat} (hi : i < ns.length) (hl : lvN ns i = 2) (hb : bitsN ns i = 0) : i = 0 := by
  obtain ⟨z1, z2, z3⟩ := lf0 h
  exact hd.inj hi h.pos (key_of (hl.trans z1.symm) (hb.trans z2.symm) (fun j => ((h.leaf i hi hl).1 j).trans (z3 j).symm))

theorem MvOk.count {ns ms : List Nd} {M : List (Nat × Nat)} (h : MvOk ns ms M) (hns : Wf ns) (hd : Dis ns) (hd' : Dis ms) : ms.length = M.length + (if 0 ∈ M.map (·.1) then 0 else 1) := by
  have hsnd : (M.map (·.2)).Nodup := by
    have hdom := h.dom
    have hinj := fun x x' y h1 h2 => h.inj hns hd (x := x) (x' := x') (y := y) h1 h2
    clear h
    induction M with
    | nil => simp
    | cons p M ih =>
      obtain ⟨a, b⟩ := p
      simp only [List.map_cons, List.nodup_cons] at hdom ⊢
      refine ⟨fun hb => ?_, ih hdom.2 (fun x x' y h1 h2 => hinj x x' y (List.mem_cons_of_mem _ h1) (List.mem_cons_of_mem _ h2))⟩
      obtain ⟨⟨a', b'⟩, hp, e⟩ := List.mem_map.1 hb
      simp only at e
      subst e
      have := hinj a a' b' (by simp) (List.mem_cons_of_mem _ hp)
      subst this
      exact hdom.1 (List.mem_map.2 ⟨_, hp, rfl⟩)
  have hlt : ∀ y, y ∈ M.map (·.2) → y < ms.length := fun y hy => by
    obtain ⟨⟨a, b⟩, hp, rfl⟩ := List.mem_map.1 hy
    exact (h.lt a b hp).2
  have hmem : ∀ x y, (x, y) ∈ M → y ∈ M.map (·.2) := fun x y hp => List.mem_map.2 ⟨_, hp, rfl⟩
  have hz : ∀ x y, (x, y) ∈ M → (x = 0 ↔ y = 0) := fun x y hp => by
    obtain ⟨a1, a2, _⟩ := h.like x y hp
    obtain ⟨l1, l2⟩ := h.lt x y hp
    constructor
    · rintro rfl
      obtain ⟨z1, z2, _⟩ := lf0 hns
      exact is0 h.wf hd' l2 (a1.trans z1) (a2.trans z2)
    · rintro rfl
      obtain ⟨z1, z2, _⟩ := lf0 h.wf
      exact is0 hns hd l1 (a1.symm.trans z1) (a2.symm.trans z2)
  have up := nodup_sub (M.map (·.2)) (List.range ms.length) hsnd (fun y hy => List.mem_range.2 (hlt y hy))
  simp only [List.length_map, List.length_range] at up
  split
  · rename_i h0
    have : ms.length ≤ M.length := by
      have := nodup_sub (List.range ms.length) (M.map (·.2)) List.nodup_range (fun y hy => by
        rcases h.img y (List.mem_range.1 hy) with rfl | ⟨x, hx⟩
        · obtain ⟨⟨a, b⟩, hp, e⟩ := List.mem_map.1 h0
          simp only at e
          subst e
          have := (hz 0 b hp).1 rfl
          subst this
          exact hmem _ _ hp
        · exact hmem x y hx)
      simpa using this
    omega
  · rename_i h0
    have hn0 : 0 ∉ M.map (·.2) := fun hy => by
      obtain ⟨⟨a, b⟩, hp, e⟩ := List.mem_map.1 hy
      simp only at e
      subst e
      have := (hz a 0 hp).2 rfl
      subst this
      exact h0 (List.mem_map.2 ⟨_, hp, rfl⟩)
    have := nodup_sub (0 :: M.map (·.2)) (List.range ms.length) (List.nodup_cons.2 ⟨hn0, hsnd⟩) (fun y hy => by
      rcases List.mem_cons.1 hy with rfl | hy
      · exact List.mem_range.2 h.wf.pos
      · exact List.mem_range.2 (hlt y hy))
    simp only [List.length_cons, List.length_map, List.length_range] at this
    have := h.length.2
    omega
end Go.Proofs.Ytblhbfniomlfkaa
