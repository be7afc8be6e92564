/- tree.build, walked. -/
import Derived.Test.YtblhbfniomlfkaaBuildW
namespace Go.Proofs.Ytblhbfniomlfkaa
open Go.RowKit

def BuildPost (A : Ars) (ks : List Pt) (f : Pt → Nat) (l : Nat) (a b : Int) (k : Nat) (w : World) (e : Ending) (w' : World) : Prop :=
  ∃ nd A', e = .returned (.tuple #[.int .u32 (nd : Nat), .nilIface]) ∧ Evo A w (bud l k) A' w' ∧ BOut ks f A'.ns l a b nd ∧ nd < 4294967296

def BuildSays (l : Nat) : Prop := ∀ (mb n : Nat) (ks : List Pt) (f : Pt → Nat) (A : Ars) (a b : Int) (v : Value) (pts : List Pt) (w : World), A.At w → A.Inv → Wf A.ns → Em A → PMapAt w mb n ks f → PtAt w v pts → BIn ks l a b pts →
  (A.ns.length : Int) + (bud l pts.length : Int) < A.most → A.ns.length + bud l pts.length < 1073741824 → pts.length < 1000000 →
  Calls Try.prog 60 #[.pointer (some ⟨A.p, 0, none⟩), .int .i64 l, .agg #[.int .i64 a, .int .i64 b], v, .map (some mb)] w (BuildPost A ks f l a b pts.length w)

theorem build_none (l : Nat) (h2 : 2 ≤ l) (h44 : l ≤ 44) (mb : Nat) (ks : List Pt) (f : Pt → Nat) (A : Ars) (a b : Int) (v : Value) (w : World) (hA : A.At w) (hI : A.Inv) (hW : Wf A.ns) (hE : Em A) (hP : PtAt w v []) (hB : BIn ks l a b [])
    (hr : (A.ns.length : Int) + 45 < A.most) (hN : A.ns.length + 45 < 1073741824) :
    Calls Try.prog 60 #[.pointer (some ⟨A.p, 0, none⟩), .int .i64 l, .agg #[.int .i64 a, .int .i64 b], v, .map (some mb)] w (BuildPost A ks f l a b 0 w) := by
  obtain ⟨ad, cap, hv, _⟩ := own_slice hP
  subst hv
  have hem := fun W (h : A.At W) => Empty_any A l W h hI hW hE h2 h44 hr hN
  have HEM := Lib.hid hem
  have HA := Lib.hid hA
  have HB := Lib.hid hB
  have hd : ((([] : List Pt).length : Int) == 0) = true := rfl
  clear hem hA hI hW hE hP hB
  go_enter Try.func60, Try.ntmps60
  go_wp2_with fail
  refine (HEM.out _ (HA.out.alloc _)).mono ?_
  rintro e w1 ⟨n, A', rfl, hEv, hn, hl, hd, h32⟩
  have hev := Evo.sooner ((Only.refl (fun _ => False) w).alloc _) hEv
  have HEV := Lib.hid hev
  have HD := Lib.hid hd
  clear hEv hev hd
  go_wp2_with fail
  go_ret2
  exact ⟨n, A', rfl, HEV.out, ⟨hn, hl, fun u v hu hv => by rw [HD.out, HB.out.empty f h2 u v hu hv]⟩, h32⟩

theorem build_leaf (mb n : Nat) (ks : List Pt) (f : Pt → Nat) (A : Ars) (a b : Int) (v : Value) (p : Pt) (r : List Pt) (w : World) (hA : A.At w) (hI : A.Inv) (hW : Wf A.ns) (hE : Em A) (hM : PMapAt w mb n ks f) (hP : PtAt w v (p :: r)) (hB : BIn ks 2 a b (p :: r))
    (hr : (A.ns.length : Int) + 1 < A.most) (hN : A.ns.length + 1 < 1073741824) :
    Calls Try.prog 60 #[.pointer (some ⟨A.p, 0, none⟩), .int .i64 2, .agg #[.int .i64 a, .int .i64 b], v, .map (some mb)] w fun e w' => ∃ nd A', e = .returned (.tuple #[.int .u32 (nd : Nat), .nilIface]) ∧ Evo A w 1 A' w' ∧ BOut ks f A'.ns 2 a b nd ∧ nd < 4294967296 := by
  obtain ⟨g, cap, hv, _⟩ := own_form hP (by simp)
  subst hv
  have hc := PtAt.cell hP rfl (i := 0) (by simp)
  have hp := hB.leaf
  have hpk := ((hB.mem p).1 (by simp)).1
  subst hp
  obtain ⟨c0, c1⟩ := hc
  simp only [Nat.zero_mul, Nat.zero_add, List.getD_cons_zero] at c0 c1
  obtain ⟨k, hk⟩ : ∃ k, (((a, b) :: r).length) = k + 1 := ⟨r.length, rfl⟩
  rw [hk]
  have hd : ((k : Int) + 1 == 0) = false := by simp; omega
  have hi : (0 : Int) < (k : Int) + 1 := by omega
  have hgs : g < w.heap.size := World.block_lt_of_cell? w _ c0
  have h64 : Pt64 (a, b) := by
    obtain ⟨D, hM'⟩ := hM
    exact (hM'.ok _ hpk).1
  have hfl : mval ks f (a, b) < 4294967296 := by
    obtain ⟨D, hM'⟩ := hM
    unfold mval
    rw [if_pos hpk]
    exact (hM'.ok _ hpk).2
  have hlf := fun W (h : A.At W) => Leaf_any A (mval ks f (a, b)) W h hI (by omega) hfl
  have hev := fun (W w' : World) (e : Ending) => Evo.leaf (A := A) (w := W) (w' := w') (f := mval ks f (a, b)) (e := e) hE hW (by omega) (by omega)
  have HEV := Lib.hid hev
  have HLF := Lib.hid hlf
  have HA := Lib.hid hA
  have HM := Lib.hid hM
  have H64 := Lib.hid h64
  clear hev hlf hA hI hW hE hP hB hM h64 hk
  go_enter Try.func60, Try.ntmps60
  go_wp2_with (first | (at_lookup; refine wp_plook _ rfl _ _ rfl mb n ks f rfl (HM.out.keep ((Only.refl (fun _ => False) w).alloc _) (fun h => h)) (a, b) H64.out rfl ?_) | fail)
  refine (HLF.out _ (HA.out.alloc _)).mono ?_
  rintro e w1 hf
  obtain ⟨out, D, rfl, hE1, ho, hlv, hbt, h32, _, _⟩ := HEV.out _ _ _ hf
  have hE2 := Evo.sooner ((Only.refl (fun _ => False) w).alloc _) hE1
  have HE2 := Lib.hid hE2
  clear hf hE1 hE2
  go_wp2_with fail
  go_ret2
  refine ⟨out, D, rfl, HE2.out, ⟨ho, hlv, fun u v hu hv => ?_⟩, h32⟩
  have hu0 : u = 0 := by simpa using hu
  have hv0 : v = 0 := by simpa using hv
  subst hu0 hv0
  show bitsN D.ns out = _
  rw [hbt]
  simp
end Go.Proofs.Ytblhbfniomlfkaa
