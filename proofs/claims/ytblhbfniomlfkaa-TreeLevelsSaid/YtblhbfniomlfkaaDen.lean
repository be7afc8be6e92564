/- What a node says of its square, leaf by leaf; arenas that grow. -/
import Derived.Test.YtblhbfniomlfkaaMoved
import Derived.Test.YtblhbfniomlfkaaMove
import Derived.Test.YtblhbfniomlfkaaCopy
namespace Go.Proofs.Ytblhbfniomlfkaa
open Go.RowKit

/-- The leaf at (u, v) below node i of level k + 2. -/
def den (ns : List Nd) : Nat → Nat → Nat → Nat → Nat
  | 0, i, _, _ => bitsN ns i
  | k + 1, i, u, v => den ns k (kidN ns i (u / 2 ^ k % 2 + 2 * (v / 2 ^ k % 2))) u v

/-- The later list has the former's nodes as they were. -/
structure Pre (ns ms : List Nd) : Prop where
  le : ns.length ≤ ms.length
  eq : ∀ i, i < ns.length → ms.getD i default = ns.getD i default
theorem Pre.refl (ns : List Nd) : Pre ns ns := ⟨Nat.le_refl _, fun _ _ => rfl⟩
theorem Pre.trans {a b c : List Nd} (h : Pre a b) (k : Pre b c) : Pre a c := ⟨Nat.le_trans h.le k.le, fun i hi => (k.eq i (Nat.lt_of_lt_of_le hi h.le)).trans (h.eq i hi)⟩
theorem Pre.push (ns : List Nd) (n : Nd) : Pre ns (ns ++ [n]) := ⟨by simp, fun i hi => getD_push_old hi⟩
theorem Pre.of_find (ns : List Nd) (most : Int) (k : Key) (c : Nat) : Pre ns (findR ns most k c).2.2 := by
  unfold findR
  split
  · exact Pre.refl _
  · split
    · exact Pre.refl _
    · exact Pre.push _ _
theorem Pre.lv {ns ms : List Nd} (h : Pre ns ms) {i : Nat} (hi : i < ns.length) : lvN ms i = lvN ns i := by simp only [lvN, h.eq i hi]
theorem Pre.bits {ns ms : List Nd} (h : Pre ns ms) {i : Nat} (hi : i < ns.length) : bitsN ms i = bitsN ns i := by simp only [bitsN, h.eq i hi]
theorem Pre.cnt {ns ms : List Nd} (h : Pre ns ms) {i : Nat} (hi : i < ns.length) : cntN ms i = cntN ns i := by simp only [cntN, h.eq i hi]
theorem Pre.kid {ns ms : List Nd} (h : Pre ns ms) {i : Nat} (hi : i < ns.length) (j : Nat) : kidN ms i j = kidN ns i j := by simp only [kidN, h.eq i hi]
theorem Pre.den {ns ms : List Nd} (h : Pre ns ms) (hW : Wf ns) : ∀ (k i u v : Nat), i < ns.length → lvN ns i = k + 2 → den ms k i u v = den ns k i u v
  | 0, i, u, v, hi, _ => h.bits hi
  | k + 1, i, u, v, hi, hl => by
    simp only [Go.Proofs.Ytblhbfniomlfkaa.den]
    rw [h.kid hi]
    obtain ⟨h1, h2⟩ := (hW.join i hi (by omega)).2.1 (u / 2 ^ k % 2 + 2 * (v / 2 ^ k % 2))
    exact Pre.den h hW k _ u v (by omega) (by omega)

/-- Nodes that say the same are the same. -/
theorem den_inj {ns : List Nd} (hW : Wf ns) (hd : Dis ns) : ∀ (k i j : Nat), i < ns.length → j < ns.length → lvN ns i = k + 2 → lvN ns j = k + 2 → (∀ u v, u < 2 ^ k → v < 2 ^ k → den ns k i u v = den ns k j u v) → i = j
  | 0, i, j, hi, hj, li, lj, h => by
    have hb : bitsN ns i = bitsN ns j := h 0 0 (by simp) (by simp)
    exact hd.inj hi hj (key_of (by rw [li, lj]) hb fun n => by rw [(hW.leaf i hi li).1, (hW.leaf j hj lj).1])
  | k + 1, i, j, hi, hj, li, lj, h => by
    have hp : 0 < 2 ^ k := Nat.pow_pos (by omega)
    have key : ∀ a b, a < 2 → b < 2 → kidN ns i (a + 2 * b) = kidN ns j (a + 2 * b) := fun a b ha hb => by
      obtain ⟨h1, h2⟩ := (hW.join i hi (by omega)).2.1 (a + 2 * b)
      obtain ⟨h3, h4⟩ := (hW.join j hj (by omega)).2.1 (a + 2 * b)
      refine den_inj hW hd k _ _ (by omega) (by omega) (by omega) (by omega) fun u v hu hv => ?_
      have e : ∀ x c, x < 2 ^ k → c < 2 → (c * 2 ^ k + x) / 2 ^ k % 2 = c := fun x c hx hc => by
        rw [Nat.mul_comm, Nat.mul_add_div hp, Nat.div_eq_of_lt hx]; omega
      have lt : ∀ x c, x < 2 ^ k → c < 2 → c * 2 ^ k + x < 2 ^ (k + 1) := fun x c hx hc => by
        rw [Nat.pow_succ]
        have : c * 2 ^ k ≤ 1 * 2 ^ k := Nat.mul_le_mul_right _ (by omega)
        omega
      have hh := h (a * 2 ^ k + u) (b * 2 ^ k + v) (lt u a hu ha) (lt v b hv hb)
      simp only [Go.Proofs.Ytblhbfniomlfkaa.den, e u a hu ha, e v b hv hb] at hh
      have red : ∀ (m q x y c d : Nat), den ns m q (c * 2 ^ k + x) (d * 2 ^ k + y) = den ns m q x y ∨ k < m := fun m => by
        induction m with
        | zero => intro q x y c d; exact .inl rfl
        | succ m ih =>
          intro q x y c d
          by_cases hm : k < m + 1
          · exact .inr hm
          · left
            have hk : k = m + 1 + (k - m - 1) := by omega
            have s : ∀ c x, (c * 2 ^ k + x) / 2 ^ m % 2 = x / 2 ^ m % 2 := fun c x => by
              have e2 : c * 2 ^ k = 2 ^ m * (2 * (c * 2 ^ (k - m - 1))) := by
                conv => lhs; rw [hk, Nat.pow_add, Nat.pow_succ]
                rw [Nat.mul_assoc (2 ^ m), Nat.mul_left_comm c (2 ^ m), Nat.mul_left_comm c 2]
              rw [e2, Nat.mul_add_div (Nat.pow_pos (by omega))]
              omega
            simp only [Go.Proofs.Ytblhbfniomlfkaa.den, s]
            exact (ih _ x y c d).resolve_right (by omega)
      have r1 := (red k (kidN ns i (a + 2 * b)) u v a b).resolve_right (by omega)
      have r2 := (red k (kidN ns j (a + 2 * b)) u v a b).resolve_right (by omega)
      rw [r1, r2] at hh
      exact hh
    have k0 := key 0 0 (by omega) (by omega)
    have k1 := key 1 0 (by omega) (by omega)
    have k2 := key 0 1 (by omega) (by omega)
    have k3 := key 1 1 (by omega) (by omega)
    refine hd.inj hi hj (key_of (by rw [li, lj]) ?_ fun n => ?_)
    · simp only [bitsN]
      rw [(hW.join i hi (by omega)).1, (hW.join j hj (by omega)).1]
    · rw [kid_min, kid_min ns j]
      have : min n 3 = 0 ∨ min n 3 = 1 ∨ min n 3 = 2 ∨ min n 3 = 3 := by omega
      rcases this with e | e | e | e
      · rw [e]; exact k0
      · rw [e]; exact k1
      · rw [e]; exact k2
      · rw [e]; exact k3

/-- The empties that the arena keeps. -/
structure Em (A : Ars) : Prop where
  lo : 3 ≤ A.es.length
  hi : A.es.length ≤ 45
  ok : ∀ l, 2 ≤ l → l < A.es.length → A.es.getD l 0 < A.ns.length ∧ lvN A.ns (A.es.getD l 0) = l ∧ ∀ u v, den A.ns (l - 2) (A.es.getD l 0) u v = 0

/-- An arena that has grown by at most d nodes. -/
structure Evo (A : Ars) (w : World) (d : Nat) (A' : Ars) (w' : World) : Prop where
  at_ : A'.At w'
  inv : A'.Inv
  wf : Wf A'.ns
  em : Em A'
  pre : Pre A.ns A'.ns
  len : A'.ns.length ≤ A.ns.length + d
  p : A'.p = A.p
  most : A'.most = A.most
  only : Only A.foot w w'
  foot : ∀ k, A'.foot k → A.foot k ∨ w.heap.size ≤ k

theorem Evo.refl {A : Ars} {w w' : World} (h : A.At w) (hI : A.Inv) (hW : Wf A.ns) (hE : Em A) (ho : Only (fun _ => False) w w') : Evo A w 0 A w' :=
  ⟨h.keep ho (fun _ _ h => h), hI, hW, hE, Pre.refl _, Nat.le_refl _, rfl, rfl, ho.mono (fun _ _ h => h.elim), fun _ h => .inl h⟩
theorem Evo.trans {A B C : Ars} {w w1 w2 : World} {d e : Nat} (h : Evo A w d B w1) (k : Evo B w1 e C w2) : Evo A w (d + e) C w2 :=
  ⟨k.at_, k.inv, k.wf, k.em, h.pre.trans k.pre, by have := h.len; have := k.len; omega, k.p.trans h.p, k.most.trans h.most, h.only.trans k.only (fun i hi hf => (h.foot i hf).resolve_right (by omega)), fun i hi => by
    rcases k.foot i hi with h1 | h1
    · exact h.foot i h1
    · exact .inr (Nat.le_trans h.only.size h1)⟩
theorem Evo.le {A B : Ars} {w w1 : World} {d e : Nat} (h : Evo A w d B w1) (hde : d ≤ e) : Evo A w e B w1 := ⟨h.at_, h.inv, h.wf, h.em, h.pre, by have := h.len; omega, h.p, h.most, h.only, h.foot⟩
theorem Evo.later {A B : Ars} {w w1 w2 : World} {d : Nat} (h : Evo A w d B w1) (ho : Only (fun _ => False) w1 w2) : Evo A w d B w2 :=
  ⟨h.at_.keep ho (fun _ _ h => h), h.inv, h.wf, h.em, h.pre, h.len, h.p, h.most, h.only.trans ho (fun _ _ h => h.elim), h.foot⟩
theorem Evo.sooner {A B : Ars} {w0 w w1 : World} {d : Nat} (ho : Only (fun _ => False) w0 w) (h : Evo A w d B w1) : Evo A w0 d B w1 :=
  ⟨h.at_, h.inv, h.wf, h.em, h.pre, h.len, h.p, h.most, (ho.mono (fun _ _ h => h.elim)).trans h.only (fun _ _ h => h), fun k hk => (h.foot k hk).imp id (fun h => Nat.le_trans ho.size h)⟩

theorem Em.pre {A B : Ars} (h : Em A) (hW : Wf A.ns) (hp : Pre A.ns B.ns) (he : B.es = A.es) : Em B := by
  refine ⟨by rw [he]; exact h.lo, by rw [he]; exact h.hi, fun l h2 hl => ?_⟩
  rw [he] at hl ⊢
  obtain ⟨h1, h3, h4⟩ := h.ok l h2 hl
  exact ⟨Nat.lt_of_lt_of_le h1 hp.le, (hp.lv h1).trans h3, fun u v => (hp.den hW (l - 2) _ u v h1 (by omega)).trans (h4 u v)⟩

/-- Behind a find of a leaf. -/
theorem Evo.leaf {A : Ars} {w w' : World} {f : Nat} {e : Ending} (hE : Em A) (hW : Wf A.ns) (hm : (A.ns.length : Int) < A.most) (hn : A.ns.length < 1073741824) (h : FindPost A w (leafKey f) (popc f) e w') :
    ∃ out D, e = .returned (.tuple #[.int .u32 (out : Nat), .nilIface]) ∧ Evo A w 1 D w' ∧ out < D.ns.length ∧ lvN D.ns out = 2 ∧ bitsN D.ns out = f ∧ out < 4294967296 ∧ D.es = A.es ∧ D.ve = A.ve := by
  obtain ⟨out, D, he, hSt, hL, hor, ho⟩ := found_end h hm hn
  have hp : Pre A.ns D.ns := ⟨hL.le, hL.old⟩
  have hWD : Wf D.ns := by
    rcases hor with e | e
    · rw [e]; exact hW
    · rw [e]; exact hW.push_leaf f
  have hk := hL.key
  refine ⟨out, D, he, ⟨hSt.at_, hSt.inv, hWD, hE.pre hW hp hSt.es, hp, hL.len, hSt.p, hSt.most, hSt.only, hSt.foot⟩, hL.lt, ?_, ?_, ho, hSt.es, hSt.ve⟩
  · have : (D.ns.getD out default).key.lv = 2 := by rw [hk]; rfl
    exact this
  · have : (D.ns.getD out default).key.bits = f := by rw [hk]; rfl
    exact this

/-- Behind a join. -/
theorem Evo.join {A : Ars} {w w' : World} {k0 k1 k2 k3 : Nat} {e : Ending} (hE : Em A) (hW : Wf A.ns) (hm : (A.ns.length : Int) < A.most) (hn : A.ns.length < 1073741824) (hok : ∀ j, kidOk A.ns k0 (four k0 k1 k2 k3 j)) (hd : lvN A.ns k0 ≤ 43) (h : JoinPost A w k0 k1 k2 k3 e w') :
    ∃ out D, e = .returned (.tuple #[.int .u32 (out : Nat), .nilIface]) ∧ Evo A w 1 D w' ∧ out < D.ns.length ∧ lvN D.ns out = lvN A.ns k0 + 1 ∧ (∀ j, kidN D.ns out j = four k0 k1 k2 k3 j) ∧ out < 4294967296 ∧ D.es = A.es ∧ D.ve = A.ve := by
  unfold JoinPost at h
  rw [if_pos ⟨hok 0, hok 1, hok 2, hok 3⟩, if_neg (by omega)] at h
  obtain ⟨out, D, he, hSt, hL, hor, ho⟩ := found_end h hm hn
  have hp : Pre A.ns D.ns := ⟨hL.le, hL.old⟩
  have hWD : Wf D.ns := by
    rcases hor with e | e
    · rw [e]; exact hW
    · rw [e]; exact hW.push_join hok hd
  have hk := hL.key
  refine ⟨out, D, he, ⟨hSt.at_, hSt.inv, hWD, hE.pre hW hp hSt.es, hp, hL.len, hSt.p, hSt.most, hSt.only, hSt.foot⟩, hL.lt, ?_, fun j => ?_, ho, hSt.es, hSt.ve⟩
  · have : (D.ns.getD out default).key.lv = lvN A.ns k0 + 1 := by rw [hk]; rfl
    exact this
  · have e : ∀ n : Nd, n.key = joinKey A.ns k0 k1 k2 k3 → four n.k0 n.k1 n.k2 n.k3 j = four k0 k1 k2 k3 j := fun n hn => by
      unfold Nd.key joinKey at hn
      injection hn with _ _ h0 h1 h2 h3
      rw [h0, h1, h2, h3]
    exact e _ hk
end Go.Proofs.Ytblhbfniomlfkaa
