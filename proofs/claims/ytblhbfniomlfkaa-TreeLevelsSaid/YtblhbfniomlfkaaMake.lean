/- honeycomblaw13.Make. -/
import Derived.Test.YtblhbfniomlfkaaGetT
import Derived.Test.YtblhbfniomlfkaaOwn
namespace Go.Proofs.Ytblhbfniomlfkaa
open Go.RowKit

theorem em0 {A : Ars} (hn : A.ns = [leaf0]) (he : A.es = [0, 0, 0]) : Em A := by
  refine ⟨by rw [he]; decide, by rw [he]; decide, fun l h2 hl => ?_⟩
  rw [he] at hl ⊢
  have : l = 2 := by simp at hl; omega
  subst this
  rw [hn]
  exact ⟨by decide, rfl, fun _ _ => rfl⟩

/-- An arena made anew, with the document's tree of a list. -/
structure Tree13 (l : List Cl) (w : World) (root : Nat) (A : Ars) (w' : World) : Prop where
  at_ : A.At w'
  inv : A.Inv
  wf : Wf A.ns
  em : Em A
  len : A.ns.length ≤ 46 + l.length * 5848
  most : A.most = 1048576
  only : Only (fun _ => False) w w'
  foot : ∀ k, A.foot k → w.heap.size ≤ k
  lt : root < A.ns.length
  lv : lvN A.ns root = levOf l
  den : ∀ u v, u < 2 ^ (levOf l - 2) → v < 2 ^ (levOf l - 2) → den A.ns (levOf l - 2) root u v = leafOf l (-(halfN (levOf l) : Int) + 4 * u, -(halfN (levOf l) : Int) + 4 * v)
theorem Tree13.later {l : List Cl} {w : World} {root : Nat} {A : Ars} {w1 w2 : World} (h : Tree13 l w root A w1) (ho : Only (fun _ => False) w1 w2) : Tree13 l w root A w2 :=
  ⟨h.at_.keep ho (fun _ _ h => h), h.inv, h.wf, h.em, h.len, h.most, h.only.trans ho (fun _ _ h => h), h.foot, h.lt, h.lv, h.den⟩

def MakeTop (l : List Cl) (w : World) (e : Ending) (w' : World) : Prop := ∃ root A, e = .returned (.tuple #[.pointer (some ⟨A.p, 0, none⟩), .int .u32 (root : Nat), .bool true]) ∧ Tree13 l w root A w'

set_option maxRecDepth 100000 in
set_option maxHeartbeats 2000000 in
theorem Make_any (v : Value) (l : List Cl) (w : World) (hR : ClAt w 55 v l) (hfit : ∀ c, c ∈ l → c.Fit) (h44 : All44 l) (hl : l.length ≤ 40) : Calls Try.prog 33 #[v] w (MakeTop l w) := by
  have hnew := New_big 1048576 w (by omega) (by omega)
  have how := fun W (h : ClAt W 55 v l) => Own4_any v l W h
  rw [List.take_of_length_le hl] at how
  obtain ⟨ad, cap, hv, _⟩ := own_slice hR
  subst hv
  have HNEW := Lib.hid hnew
  have HOW := Lib.hid how
  have HR := Lib.hid hR
  have HF := Lib.hid hfit
  have H44 := Lib.hid h44
  clear hnew how hR hfit h44
  go_enter Try.func33, Try.ntmps33
  go_wp2_with fail
  refine (HNEW.out).mono ?_
  rintro e w1 ⟨A, hN, rfl⟩
  have hR1 := own_only HR.out hN.only (fun _ _ h => h)
  have HN := Lib.hid hN
  have HR1 := Lib.hid hR1
  clear hN hR1
  go_wp2_with fail
  refine (HOW.out _ HR1.out).mono ?_
  rintro e w2 ⟨g, c, rfl, hO⟩
  have hb := Build_any A (.slice (some ⟨g, 0, none⟩) l.length c) l w2 (HN.out.at_.keep hO.only (fun _ _ h => h)) HN.out.inv (HN.out.ns ▸ wf0) (em0 HN.out.ns HN.out.es) hO.row HF.out H44.out (by omega) (by rw [HN.out.ns, HN.out.most]; simp; omega) (by rw [HN.out.ns]; simp; omega)
  have HO := Lib.hid hO
  have HB := Lib.hid hb
  clear hO hb
  go_wp2_with fail
  refine (HB.out).mono ?_
  rintro e w3 ⟨root, A', rfl, hT⟩
  have hm : Tree13 l w root A' w3 := by
    have hE := hT.evo
    have h1 := HN.out.only.trans HO.out.only (fun _ _ h => h)
    have hf : ∀ k, A.foot k → w.heap.size ≤ k := HN.out.foot
    refine ⟨hE.at_, hE.inv, hE.wf, hE.em, ?_, by rw [hE.most, HN.out.most], h1.trans hE.only (fun i hi h => by have := hf i h; omega), fun k hk => ?_, hT.lt, hT.lv, hT.den⟩
    · have := hE.len
      rw [HN.out.ns] at this
      simp at this
      omega
    · rcases hE.foot k hk with h | h
      · exact hf k h
      · exact Nat.le_trans h1.size h
  have hp : A.p = A'.p := hT.evo.p.symm
  rw [hp]
  have HM := Lib.hid hm
  clear hT hm hp HO HB HN HR1
  go_wp2_with fail
  go_quiet (fail)
  go_wp2_with fail
  exact bodyPost_ret (v := .tuple #[.pointer (some ⟨A'.p, 0, none⟩), .int .u32 root, .bool true]) (by simp [results, go_sem]) rfl ⟨root, A', rfl, HM.out.later ((Only.refl _ _).drewN _)⟩
end Go.Proofs.Ytblhbfniomlfkaa
