/- tree.Build: the root of a set. -/
import Derived.Test.YtblhbfniomlfkaaBuildS
namespace Go.Proofs.Ytblhbfniomlfkaa
open Go.RowKit

theorem build_any : ∀ l, 2 ≤ l → l ≤ 44 → BuildSays l := by
  intro l
  induction l with
  | zero => intro h; omega
  | succ l ih =>
    intro h2 h44 mb n ks f A a b v pts w hA hI hW hE hM hP hB hr hN hpl
    by_cases h0 : pts.length = 0
    · have e : pts = [] := List.eq_nil_of_length_eq_zero h0
      subst e
      have hb : bud (l + 1) ([] : List Pt).length = 45 := by simp [bud]
      rw [hb] at hr hN
      refine (build_none (l + 1) h2 h44 mb ks f A a b v w hA hI hW hE hP hB (by omega) hN)
    · by_cases h1 : l = 1
      · subst h1
        match pts, h0 with
        | p :: r, _ =>
          have hb : 1 ≤ bud (1 + 1) (p :: r).length := by unfold bud; rw [if_neg (by simp)]; simp; omega
          refine (build_leaf mb n ks f A a b v p r w hA hI hW hE hM hP hB (by omega) (by omega)).mono ?_
          rintro e w' ⟨nd, A', he, hEv, hBo, h32⟩
          exact ⟨nd, A', he, hEv.le hb, hBo, h32⟩
      · exact build_step l (by omega) (by omega) (ih (by omega) (by omega)) mb n ks f A a b v pts w hA hI hW hE hM hP hB (by omega) hr hN hpl

/-- The level of a set's root. -/
def levOf (l : List Cl) : Nat := match l with
  | [] => 3
  | h :: r => least (fun n => inBox n (bxOf h (h :: r)).a (bxOf h (h :: r)).b (bxOf h (h :: r)).c (bxOf h (h :: r)).d) 3
theorem levOf_bd (l : List Cl) : 3 ≤ levOf l ∧ levOf l ≤ 44 := by
  unfold levOf
  split
  · omega
  · exact least_le _ 3 (by omega)
theorem least_spec (f : Int → Bool) (n : Nat) (h : n ≤ 44) : f (least f n) = true ∨ least f n = 44 := by
  induction hk : 44 - n generalizing n with
  | zero => right; unfold least; rw [dif_neg (by omega)]; omega
  | succ k ih =>
    unfold least
    rw [dif_pos (by omega)]
    by_cases hf : f n = true
    · rw [if_pos hf]; exact .inl hf
    · rw [if_neg hf]; exact ih (n + 1) (by omega) (by omega)

theorem insB_iff (l a b : Int) : insB l a b = true ↔ insP l a b := decide_eq_true_iff
/-- All lie in the greatest square. -/
def All44 (l : List Cl) : Prop := ∀ c, c ∈ l → insP 44 c.a c.b
theorem bx_mem (h : Cl) (r : List Cl) : (∃ c, c ∈ h :: r ∧ (bxOf h (h :: r)).a = c.a) ∧ (∃ c, c ∈ h :: r ∧ (bxOf h (h :: r)).b = c.b) ∧ (∃ c, c ∈ h :: r ∧ (bxOf h (h :: r)).c = c.a) ∧ (∃ c, c ∈ h :: r ∧ (bxOf h (h :: r)).d = c.b) := by
  have key : ∀ (l : List Cl), (∀ c, c ∈ l → c ∈ h :: r) → (∃ c, c ∈ h :: r ∧ (bxOf h l).a = c.a) ∧ (∃ c, c ∈ h :: r ∧ (bxOf h l).b = c.b) ∧ (∃ c, c ∈ h :: r ∧ (bxOf h l).c = c.a) ∧ (∃ c, c ∈ h :: r ∧ (bxOf h l).d = c.b) := by
    intro l
    induction l using snoc_ind with
    | h0 => intro _; exact ⟨⟨h, by simp, rfl⟩, ⟨h, by simp, rfl⟩, ⟨h, by simp, rfl⟩, ⟨h, by simp, rfl⟩⟩
    | h1 l x ih =>
      intro hs
      obtain ⟨⟨c1, h1, e1⟩, ⟨c2, h2, e2⟩, ⟨c3, h3, e3⟩, c4, h4, e4⟩ := ih (fun c hc => hs c (by simp [hc]))
      have hx := hs x (by simp)
      rw [bxOf_snoc]
      simp only [Bx.add]
      refine ⟨?_, ?_, ?_, ?_⟩
      · rcases (by omega : min (bxOf h l).a x.a = (bxOf h l).a ∨ min (bxOf h l).a x.a = x.a) with e | e
        · exact ⟨c1, h1, e.trans e1⟩
        · exact ⟨x, hx, e⟩
      · rcases (by omega : min (bxOf h l).b x.b = (bxOf h l).b ∨ min (bxOf h l).b x.b = x.b) with e | e
        · exact ⟨c2, h2, e.trans e2⟩
        · exact ⟨x, hx, e⟩
      · rcases (by omega : max (bxOf h l).c x.a = (bxOf h l).c ∨ max (bxOf h l).c x.a = x.a) with e | e
        · exact ⟨c3, h3, e.trans e3⟩
        · exact ⟨x, hx, e⟩
      · rcases (by omega : max (bxOf h l).d x.b = (bxOf h l).d ∨ max (bxOf h l).d x.b = x.b) with e | e
        · exact ⟨c4, h4, e.trans e4⟩
        · exact ⟨x, hx, e⟩
  exact key (h :: r) (fun _ h => h)
/-- The root's square has the box. -/
theorem lev_box (h : Cl) (r : List Cl) (ha : All44 (h :: r)) : inBox (levOf (h :: r)) (bxOf h (h :: r)).a (bxOf h (h :: r)).b (bxOf h (h :: r)).c (bxOf h (h :: r)).d = true := by
  have hs := least_spec (fun n => inBox n (bxOf h (h :: r)).a (bxOf h (h :: r)).b (bxOf h (h :: r)).c (bxOf h (h :: r)).d) 3 (by omega)
  rcases hs with e | e
  · exact e
  · have e' : levOf (h :: r) = 44 := e
    rw [e']
    obtain ⟨⟨c1, h1, e1⟩, ⟨c2, h2, e2⟩, ⟨c3, h3, e3⟩, c4, h4, e4⟩ := bx_mem h r
    have p1 := ha c1 h1
    have p2 := ha c2 h2
    have p3 := ha c3 h3
    have p4 := ha c4 h4
    unfold insP at p1 p2 p3 p4
    unfold inBox
    rw [e1, e2, e3, e4, Bool.and_eq_true, insB_iff, insB_iff]
    unfold insP
    exact ⟨⟨p1.1, p1.2.1, p2.2.2⟩, p3.1, p3.2.1, p4.2.2⟩
theorem lev_all (l : List Cl) (ha : All44 l) : ∀ c, c ∈ l → insP (levOf l) c.a c.b := by
  intro c hc
  match l, ha, hc with
  | h :: r, ha, hc =>
    have hb := lev_box h r ha
    have hl := bxOf_le h (h :: r) c hc
    unfold inBox at hb
    rw [Bool.and_eq_true, insB_iff, insB_iff] at hb
    unfold insP at hb ⊢
    omega

/-- What Build answers. -/
structure Root (A : Ars) (l : List Cl) (w : World) (root : Nat) (A' : Ars) (w' : World) : Prop where
  evo : Evo A w (45 + l.length * 5848) A' w'
  lt : root < A'.ns.length
  lv : lvN A'.ns root = levOf l
  den : ∀ u v, u < 2 ^ (levOf l - 2) → v < 2 ^ (levOf l - 2) → den A'.ns (levOf l - 2) root u v = leafOf l (-(halfN (levOf l) : Int) + 4 * u, -(halfN (levOf l) : Int) + 4 * v)
  lt32 : root < 4294967296
def BuildTop (A : Ars) (l : List Cl) (w : World) (e : Ending) (w' : World) : Prop := ∃ root A', e = .returned (.tuple #[.int .u32 (root : Nat), .nilIface]) ∧ Root A l w root A' w'

theorem half_four {l : Nat} (h3 : 3 ≤ l) (h44 : l ≤ 44) : (halfN l : Int) % 4 = 0 ∧ (2 ^ l : Nat) = 2 * halfN l ∧ halfN l = 2 ^ (l - 1) := by
  have e := halfN_mid (l := (l : Int)) (by omega) (by omega)
  rw [show ((l : Int).toNat) = l from by omega] at e
  refine ⟨?_, ?_, e⟩
  · rw [e, show l - 1 = l - 3 + 2 from by omega, Nat.pow_add]; omega
  · rw [e]
    conv => lhs; rw [show l = l - 1 + 1 from by omega, Nat.pow_succ]
    omega

/-- The keys lie in the root's square. -/
theorem keys_in {l : List Cl} {ks pts : List Pt} (ha : All44 l) (hk : ∀ p, p ∈ ks ↔ ∃ c, c ∈ l ∧ c.low = p) (hp : ∀ p, p ∈ pts ↔ p ∈ ks) : BIn ks (levOf l) (-(halfN (levOf l) : Int)) (-(halfN (levOf l) : Int)) pts := by
  obtain ⟨h3, h44⟩ := levOf_bd l
  obtain ⟨q1, q2, _⟩ := half_four h3 h44
  have hall := lev_all l ha
  have hle := halfN_le (levOf l)
  refine ⟨fun p => ⟨fun h => ?_, fun h => (hp p).2 h.1⟩, ⟨by omega, by omega⟩, fun p hpk => ?_, ⟨by omega, by omega⟩, ⟨by rw [q2]; omega, by rw [q2]; omega⟩⟩
  · have hpk := (hp p).1 h
    obtain ⟨c, hc, rfl⟩ := (hk p).1 hpk
    have := hall c hc
    unfold insP at this
    refine ⟨hpk, ?_⟩
    unfold Sq Cl.low low4
    rw [q2]
    generalize halfN (levOf l) = n at *
    simp only
    omega
  · obtain ⟨c, hc, rfl⟩ := (hk p).1 hpk
    unfold Cl.low low4
    simp only
    omega
theorem keys_len {l : List Cl} {ks : List Pt} (hn : ks.Nodup) (hk : ∀ p, p ∈ ks ↔ ∃ c, c ∈ l ∧ c.low = p) : ks.length ≤ l.length := by
  have := nodup_sub ks (l.map Cl.low) hn (fun x hx => by
    obtain ⟨c, hc, e⟩ := (hk x).1 hx
    exact List.mem_map.2 ⟨c, hc, e⟩)
  simpa using this
end Go.Proofs.Ytblhbfniomlfkaa
