/- Empty: the node of a level without cells. -/
import Derived.Test.YtblhbfniomlfkaaDen
import Derived.Test.YtblhbfniomlfkaaPush
import Derived.Deep.DeepCutAuto
namespace Go.Proofs.Ytblhbfniomlfkaa
open Go.RowKit

theorem Ars.Inv.emptied {A : Ars} (h : A.Inv) (v : Value) (es : List Nat) : (A.emptied v es).Inv := ⟨h.ht, h.load, h.size, h.big, h.dis, h.fit, h.cnt⟩

/-- How many empties there are, read off the world. -/
def veLen (w : World) (p : Nat) : Nat := match w.cell? ⟨p, 2, none⟩ with
  | some (.slice _ n _) => n
  | _ => 0
theorem veLen_of {w : World} {p n c : Nat} {a : Option Addr} (h : w.cell? ⟨p, 2, none⟩ = some (.slice a n c)) : veLen w p = n := by unfold veLen; rw [h]

theorem four_same (x j : Nat) : four x x x x j = x := by unfold four; split <;> (try rfl); split <;> (try rfl); split <;> rfl

/-- Behind a round: one more. -/
theorem Evo.grow {A B D : Ars} {w w1 w2 W W4 : World} {d x out g cp : Nat} {o : Obj} (h : Evo A w d B w1) (hx : B.es.getD (B.es.length - 1) 0 = x) (hl : B.es.length ≤ 44) (k : Evo B w1 1 D w2) (ho : out < D.ns.length) (hlv : lvN D.ns out = lvN B.ns x + 1) (hk : ∀ j, kidN D.ns out j = four x x x x j)
    (hW : W = w2.alloc o) (hg : W.grownBy W4 D.ve.ownBlock) (hr : W4.ownsRow 0 32 1 (.slice (some ⟨g, 0, none⟩) (B.es.length + 1) cp) (B.es ++ [out]).length (nums .u32 (B.es ++ [out]))) (hat : D.ve.ownBlock = some g ∨ W.heap.size ≤ g) :
    Evo A w (d + 1) (D.emptied (.slice (some ⟨g, 0, none⟩) (B.es.length + 1) cp) (B.es ++ [out])) (W4.setCell ⟨D.p, 2, none⟩ (.slice (some ⟨g, 0, none⟩) (B.es.length + 1) cp)) := by
  have hlen : (B.es ++ [out]).length = B.es.length + 1 := by simp
  have hDW : D.At W := by rw [hW]; exact k.at_.alloc o
  have hE := h.em
  obtain ⟨hx1, hx2, hx3⟩ := hE.ok (B.es.length - 1) (by have := hE.lo; omega) (by have := hE.lo; omega)
  rw [hx] at hx1 hx2 hx3
  have hlo := hE.lo
  have hAt := hDW.setEmpty (es := B.es ++ [out]) (g := g) (cap := cp) hg (by rw [hlen] at hr ⊢; exact hr) hat
  rw [hlen] at hAt
  have o1 : Only D.foot w2 W4 := (((Only.refl (fun _ => False) w2).alloc o).mono (fun _ _ h => h.elim)).trans (hW ▸ (Only.refl _ W).grown hg (fun k e _ => e) : Only (fun k => D.ve.ownBlock = some k) (w2.alloc o) W4) (fun _ _ h => .inr (.inr (.inr h)))
  have o2 := o1.trans (Only.set1 W4 D.p 2 (.slice (some ⟨g, 0, none⟩) (B.es.length + 1) cp)) (fun _ _ e => .inl e)
  have hj := h.trans k
  refine ⟨hAt, k.inv.emptied _ _, k.wf, ?_, hj.pre, hj.len, hj.p, hj.most, hj.only.trans o2 (fun i hi hf => (hj.foot i hf).resolve_right (by omega)), fun i hi => ?_⟩
  · refine ⟨by show 3 ≤ (B.es ++ [out]).length; omega, by show (B.es ++ [out]).length ≤ 45; omega, fun l h2 hll => ?_⟩
    have hll' : l < (B.es ++ [out]).length := hll
    rw [hlen] at hll'
    show (B.es ++ [out]).getD l 0 < D.ns.length ∧ lvN D.ns ((B.es ++ [out]).getD l 0) = l ∧ ∀ u v, den D.ns (l - 2) ((B.es ++ [out]).getD l 0) u v = 0
    by_cases e : l = B.es.length
    · subst e
      have eo : (B.es ++ [out]).getD B.es.length 0 = out := by simp
      rw [eo]
      refine ⟨ho, by omega, fun u v => ?_⟩
      obtain ⟨m, hm⟩ : ∃ m, B.es.length - 2 = m + 1 := ⟨B.es.length - 3, by omega⟩
      rw [hm]
      simp only [den]
      rw [hk, four_same, k.pre.den h.wf m x u v hx1 (by omega)]
      have := hx3 u v
      rwa [show B.es.length - 1 - 2 = m from by omega] at this
    · have eo : (B.es ++ [out]).getD l 0 = B.es.getD l 0 := by
        rw [List.getD_eq_getElem?_getD, List.getElem?_append_left (by omega), ← List.getD_eq_getElem?_getD]
      rw [eo]
      obtain ⟨y1, y2, y3⟩ := hE.ok l h2 (by omega)
      exact ⟨Nat.lt_of_lt_of_le y1 k.pre.le, (k.pre.lv y1).trans y2, fun u v => (k.pre.den h.wf (l - 2) _ u v y1 (by omega)).trans (y3 u v)⟩
  · have hi' : i = D.p ∨ D.vn.ownBlock = some i ∨ D.vs.ownBlock = some i ∨ some g = some i := hi
    rcases hi' with e | e | e | e
    · exact hj.foot i (.inl e)
    · exact hj.foot i (.inr (.inl e))
    · exact hj.foot i (.inr (.inr (.inl e)))
    · cases e
      rcases hat with e | e
      · exact hj.foot g (.inr (.inr (.inr e)))
      · right
        rw [hW, World.size_alloc] at e
        have := hj.only.size
        omega

def EmptyPost (A : Ars) (l : Nat) (w : World) (e : Ending) (w' : World) : Prop :=
  ∃ n A', e = .returned (.tuple #[.int .u32 (n : Nat), .nilIface]) ∧ Evo A w 45 A' w' ∧ n < A'.ns.length ∧ lvN A'.ns n = l ∧ (∀ u v, den A'.ns (l - 2) n u v = 0) ∧ n < 4294967296

set_option maxRecDepth 100000 in
set_option maxHeartbeats 1000000 in
theorem Empty_any (A : Ars) (l : Nat) (w : World) (hA : A.At w) (hI : A.Inv) (hW : Wf A.ns) (hE : Em A) (h2 : 2 ≤ l) (h44 : l ≤ 44) (hroom : (A.ns.length : Int) + 45 < A.most) (hN : A.ns.length + 45 < 1073741824) :
    Calls Try.prog 59 #[.pointer (some ⟨A.p, 0, none⟩), .int .i64 l] w (EmptyPost A l w) := by
  have hE0 := Evo.refl hA hI hW hE (Only.refl _ w)
  have hlo := hE.lo
  have HE0 := Lib.hid hE0
  clear hA hI hW hE hE0
  obtain ⟨P, hP⟩ : ∃ P, P = A.p := ⟨_, rfl⟩
  rw [← hP]
  have HP := Lib.hid hP
  clear hP
  have t1 : ¬ (l : Int) < 2 := by omega
  have t2 : ¬ (44 : Int) < (l : Int) := by omega
  go_enter Try.func59, Try.ntmps59
  go_wp2_with fail
  go_loopw [6] (fun _ wr => ∃ A1 : Ars, Evo A w (A1.es.length - A.es.length) A1 wr ∧ A.es.length ≤ A1.es.length) (fun _ wr => 45 - veLen wr P)
  case atStart => exact ⟨A, by rw [Nat.sub_self]; exact HE0.out, Nat.le_refl _⟩
  case round =>
    obtain ⟨B, hB, hle⟩ := hrel
    obtain ⟨wo, hwo⟩ : ∃ wo : World, wo = wr := ⟨_, rfl⟩
    rw [← hwo] at hB ⊢
    clear hwo
    have hBp := hB.p.trans HP.out.symm
    have hBlo := hB.em.lo
    have hBhi := hB.em.hi
    obtain ⟨ge, ce, hve, _⟩ := own_form hB.at_.owe (by omega)
    have c2 : wo.cell? ⟨P, 2, none⟩ = some (.slice (some ⟨ge, 0, none⟩) B.es.length ce) := by rw [← hBp, hB.at_.c2, hve]
    have HB := Lib.hid hB
    have HBp := Lib.hid hBp
    have HVE := Lib.hid hve
    clear hB hBp hve
    by_cases hlt : B.es.length ≤ l
    · have hlt' : (B.es.length : Int) ≤ (l : Int) := by omega
      obtain ⟨m, hm⟩ : ∃ m, B.es.length = m + 1 := ⟨B.es.length - 1, by omega⟩
      obtain ⟨x, hx⟩ : ∃ x, x = B.es.getD m 0 := ⟨_, rfl⟩
      have cx : wo.cell? ⟨ge, m, none⟩ = some (.int .u32 x) := by rw [hx]; exact HB.out.at_.emptyCell HVE.out (by omega)
      have hxok := HB.out.em.ok m (by omega) (by omega)
      rw [← hx] at hxok
      have hjn : ∀ W, B.At W → Calls Try.prog 42 #[.pointer (some ⟨P, 0, none⟩), .agg #[.int .u32 x, .int .u32 x, .int .u32 x, .int .u32 x]] W (JoinPost B W x x x x) := fun W hW => by
        have hl := HB.out.len
        have h := Join_any B x x x x W hW HB.out.inv (by omega) (by omega) (by omega) (by omega) (by omega)
        rw [HBp.out] at h
        exact h
      have hw1 : IntKind.i64.wrap ((m : Int) + 1 - 1) = (m : Int) := by rw [IntWalk.i64_in _ (by omega)]; omega
      have hw2 : (m : Int) < (m : Int) + 1 := by omega
      have HM := Lib.hid hm
      have HX := Lib.hid hx
      have HXOK := Lib.hid hxok
      have HJN := Lib.hid hjn
      rw [hm] at c2 hlt'
      have hlt2 : (m : Int) + 1 ≤ (l : Int) := by omega
      have C2 := Lib.hid c2
      clear hx hxok hjn hlt' hm
      go_wp2_with fail
      go_quiet (fail)
      go_wp2_with fail
      refine (HJN.out _ (HB.out.at_.drewN _)).mono ?_
      rintro e w2 hj
      have hBl := HB.out.len
      have hBm := HB.out.most
      obtain ⟨out, D, rfl, hEv, ho, hlv, hk, ho32, hes, hvd⟩ := Evo.join HB.out.em HB.out.wf (by omega) (by omega) (fun j => by rw [four_same]; exact ⟨HXOK.out.1, rfl⟩) (by rw [HXOK.out.2.1]; omega) hj
      have hEv2 := Evo.sooner ((Only.refl (fun _ => False) wo).drewN _) hEv
      have hDp := hEv2.p.trans HBp.out
      have hAD := hEv2.at_.alloc (.cells #[.int .u32 out] 32)
      have hrow := hAD.owe
      rw [hvd, hes, HVE.out] at hrow
      have hrow' : (w2.alloc (.cells #[.int .u32 out] 32)).ownsRow 0 32 1 (.slice (some ⟨ge, 0, none⟩) (m + 1) ce) B.es.length (nums .u32 B.es) := by rw [← HM.out]; exact hrow
      have d2 : w2.cell? ⟨P, 2, none⟩ = some (.slice (some ⟨ge, 0, none⟩) (m + 1) ce) := by rw [← hDp, hEv2.at_.c2, hvd, HVE.out, HM.out]
      have f2 : w2.frozen? ⟨P, 2, none⟩ = false := by rw [← hDp]; exact hEv2.at_.f 2
      have hPl : P < w2.heap.size := World.block_lt_of_cell? w2 _ d2
      have hgr := fun (W W4 : World) (g cp : Nat) (o : Obj) => Evo.grow (A := A) (w := w) (W := W) (W4 := W4) (o := o) (g := g) (cp := cp) HB.out (x := x) (by rw [HM.out, HX.out]; rfl) (by omega) hEv2 ho hlv hk
      rw [hDp, hvd, HVE.out] at hgr
      have HDp := Lib.hid hDp
      have HGR := Lib.hid hgr
      have HROW := Lib.hid hrow'
      have hc4 : ∀ W4, (w2.alloc (.cells #[.int .u32 out] 32)).grownBy W4 (some ge) → W4.cell? ⟨P, 2, none⟩ = some (.slice (some ⟨ge, 0, none⟩) (m + 1) ce) ∧ W4.frozen? ⟨P, 2, none⟩ = false := fun W4 hg => by
        have ho : Only (fun k => D.ve.ownBlock = some k) (w2.alloc (.cells #[.int .u32 out] 32)) W4 := (Only.refl _ _).grown hg (fun k e _ => by rw [hvd, HVE.out, ← e]; rfl)
        have hb := hAD.blk.only ho (own_blk_ne hAD.owe hAD.blk (by decide))
        rw [hDp, hvd, HVE.out, HM.out] at hb
        exact ⟨hb.cell 2, hb.frozen 2⟩
      have HC4 := Lib.hid hc4
      clear hj hEv hEv2 hDp hAD hrow hrow' hgr ho hlv hk hes hvd cx hc4
      go_wp2_with (first | (at_builtin; refine wp_push _ rfl _ _ 22 rfl 32 .u32 4 u32_info (by omega) Try.underlying22 0 (.slice (some ⟨ge, 0, none⟩) (m + 1) ce) B.es rfl HROW.out (by omega) (Nat.zero_le _) w2.heap.size out rfl (Blk.new _ _ _) ?_; intro g' cp4 W4 hr4 hg4 hat4 hlt4; obtain ⟨e4, f4⟩ := HC4.out W4 hg4; have hlt5 : P < W4.heap.size := World.block_lt_of_cell? W4 _ e4) | fail)
      go_roundw
      case rel =>
        have hp := HGR.out _ W4 g' cp4 (.cells #[.int .u32 out] 32) rfl hg4 hr4 (by rcases hat4 with h | h; exact .inl h; exact .inr (by omega))
        have hln : (B.es ++ [out]).length = B.es.length + 1 := by simp
        refine ⟨_, hp.le ?_, ?_⟩
        · show B.es.length - A.es.length + 1 ≤ (B.es ++ [out]).length - A.es.length
          omega
        · show A.es.length ≤ (B.es ++ [out]).length
          omega
      case measure =>
        have hp := HGR.out _ W4 g' cp4 (.cells #[.int .u32 out] 32) rfl hg4 hr4 (by rcases hat4 with h | h; exact .inl h; exact .inr (by omega))
        have c := hp.at_.c2
        have e : (D.emptied (.slice (some ⟨g', 0, none⟩) (B.es.length + 1) cp4) (B.es ++ [out])).p = P := HDp.out
        rw [e] at c
        rw [veLen_of c, veLen_of C2.out]
        have := HM.out
        omega
    · have hlt' : ¬ (B.es.length : Int) ≤ (l : Int) := by omega
      have hi1 : (l : Int) < (B.es.length : Int) := by omega
      have hok := HB.out.em.ok l (by omega) (by omega)
      obtain ⟨x, hx⟩ : ∃ x, x = B.es.getD l 0 := ⟨_, rfl⟩
      have cx : wo.cell? ⟨ge, l, none⟩ = some (.int .u32 x) := by rw [hx]; exact HB.out.at_.emptyCell HVE.out (by omega)
      rw [← hx] at hok
      have HOK := Lib.hid hok
      have hBl := HB.out.len
      clear hok hx
      go_wp2_with fail
      go_ret2
      exact ⟨x, B, rfl, HB.out.le (by omega), HOK.out.1, HOK.out.2.1, HOK.out.2.2, by have := HOK.out.1; omega⟩
end Go.Proofs.Ytblhbfniomlfkaa
