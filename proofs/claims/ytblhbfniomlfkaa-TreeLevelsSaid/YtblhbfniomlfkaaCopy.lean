/- sweep.Copy and sweep.Collect. -/
import Derived.Test.YtblhbfniomlfkaaPush
namespace Go.Proofs.Ytblhbfniomlfkaa
open Go.RowKit

/-- A row of the copy's own. -/
structure OwnOut (B : Ars) (lo : Nat) (w : World) (v : Value) (l : List Nat) : Prop where
  row : w.ownsRow 0 32 1 v l.length (nums .u32 l)
  apart : ∀ k, v.ownBlock = some k → lo ≤ k ∧ ¬ B.foot k

structure CopyRes (A B : Ars) (rs : List Nat) (w : World) (B' : Ars) (M : List (Nat × Nat)) (v : Value) (l : List Nat) (w' : World) : Prop where
  at_ : B'.At w'
  inv : B'.Inv
  ok : MvOk A.ns B'.ns M
  p : B'.p = B.p
  most : B'.most = B.most
  only : Only B.foot w w'
  foot : ∀ k, B'.foot k → B.foot k ∨ w.heap.size ≤ k
  out : OwnOut B' w.heap.size w' v l
  len : l.length = rs.length
  pair : ∀ i, i < rs.length → (rs.getD i 0, l.getD i 0) ∈ M
  new : ∀ x y, (x, y) ∈ M → ∃ r, r ∈ rs ∧ Rch A.ns r x

def CopyPost (A B : Ars) (rs : List Nat) (w : World) (e : Ending) (w' : World) : Prop := ∃ B' M v l, e = .returned (.tuple #[v, .nilIface]) ∧ CopyRes A B rs w B' M v l w'

structure CopyLoop (A B : Ars) (rs : List Nat) (w : World) (B1 : Ars) (M1 : List (Nat × Nat)) (v : Value) (l : List Nat) (j : Nat) (wr : World) : Prop where
  le : j ≤ rs.length
  step : MvStep A B w.heap.size [] (w.alloc (.map #[] 0)) B1 M1 wr
  out : OwnOut B1 (w.heap.size + 1) wr v l
  len : l.length = j
  pair : ∀ i, i < j → (rs.getD i 0, l.getD i 0) ∈ M1
  new : ∀ x y, (x, y) ∈ M1 → ∃ r, r ∈ rs.take j ∧ Rch A.ns r x

theorem CopyLoop.done {A B B1 : Ars} {rs l : List Nat} {w wr : World} {M1 : List (Nat × Nat)} {v : Value} (h : CopyLoop A B rs w B1 M1 v l rs.length wr) : CopyRes A B rs w B1 M1 v l wr :=
  ⟨h.step.at_, h.step.inv, h.step.ok, h.step.p, h.step.most, ((Only.refl _ w).alloc _).trans h.step.only (fun i hi hf => by
    rcases hf with hf | hf
    · exact hf
    · omega), fun k hk => by
    rcases h.step.foot k hk with h1 | h1
    · exact .inl h1
    · rw [World.size_alloc] at h1; exact .inr (by omega), ⟨h.out.row, fun k hk => ⟨by have := (h.out.apart k hk).1; omega, (h.out.apart k hk).2⟩⟩, h.len, h.pair, by have := h.new; rwa [List.take_length] at this⟩

theorem getD_snoc_old {l : List Nat} {y i : Nat} (h : i < l.length) : (l ++ [y]).getD i 0 = l.getD i 0 := by simp [List.getElem?_append_left h]
theorem getD_snoc_new {l : List Nat} {y : Nat} : (l ++ [y]).getD l.length 0 = y := by simp

/-- One root more. -/
theorem CopyLoop.next {A B B1 B2 : Ars} {rs l : List Nat} {w wr w3 w4 : World} {M1 M2 : List (Nat × Nat)} {v : Value} {j y g' cap : Nat} (h : CopyLoop A B rs w B1 M1 v l j wr) (hj : j < rs.length)
    (hs : MvStep A B1 w.heap.size M1 wr B2 M2 w3) (hm : (rs.getD j 0, y) ∈ M2) (hn : ∀ x z, (x, z) ∈ M2 → (x, z) ∈ M1 ∨ Rch A.ns (rs.getD j 0) x)
    (hr : w4.ownsRow 0 32 1 (.slice (some ⟨g', 0, none⟩) (l.length + 1) cap) (l ++ [y]).length (nums .u32 (l ++ [y]))) (hg : (w3.alloc (.cells #[.int .u32 y] 32)).grownBy w4 v.ownBlock)
    (hat : v.ownBlock = some g' ∨ g' = (w3.alloc (.cells #[.int .u32 y] 32)).heap.size) : CopyLoop A B rs w B2 M2 (.slice (some ⟨g', 0, none⟩) (l.length + 1) cap) (l ++ [y]) (j + 1) w4 := by
  have hlt : ∀ k, v.ownBlock = some k → k < wr.heap.size := fun k hk => own_lt h.out.row hk
  have hap2 : ∀ k, v.ownBlock = some k → ¬ B2.foot k := fun k hk hf => by
    rcases hs.foot k hf with h1 | h1
    · exact (h.out.apart k hk).2 h1
    · have := hlt k hk; omega
  have hstep := (h.step.trans hs).later ((Only.refl (fun _ => False) w3).alloc (.cells #[.int .u32 y] 32)) (fun k e => e.elim)
  have ho : Only (fun k => v.ownBlock = some k) (w3.alloc (.cells #[.int .u32 y] 32)) w4 := (Only.refl _ _).grown hg (fun k e _ => e)
  have hstep2 := hstep.later ho (fun k hk => ⟨by rw [World.size_alloc]; exact (h.out.apart k hk).1, hap2 k hk, by have := (h.out.apart k hk).1; omega⟩)
  have hsz := (h.step.trans hs).only.size
  rw [World.size_alloc] at hsz
  refine ⟨hj, hstep2, ⟨hr, fun k hk => ?_⟩, by simp [h.len], fun i hi => ?_, fun x z hxz => ?_⟩
  · have hk' : g' = k := by simpa [Value.ownBlock] using hk
    subst hk'
    rcases hat with e | e
    · exact ⟨(h.out.apart g' e).1, hap2 g' e⟩
    · rw [World.size_alloc] at e
      refine ⟨by omega, fun hf => ?_⟩
      have := hs.at_.lt hf
      omega
  · by_cases e : i = j
    · subst e
      rw [← h.len, getD_snoc_new, h.len]; exact hm
    · rw [getD_snoc_old (by have := h.len; omega)]
      exact hs.sub _ (h.pair i (by omega))
  · rw [take_next _ hj]
    rcases hn x z hxz with h1 | h1
    · obtain ⟨r, hr, h2⟩ := h.new x z h1
      exact ⟨r, by simp [hr], h2⟩
    · exact ⟨_, by simp, h1⟩

set_option maxRecDepth 100000 in
set_option maxHeartbeats 2000000 in
theorem Copy_any (A B : Ars) (hW : Wf A.ns) (hI : A.Inv) (hN : A.ns.length < 1000000000) (base : Nat) (v : Value) (rs : List Nat) (hrs : ∀ r, r ∈ rs → r < A.ns.length) (hrl : rs.length < 1000000000) (w : World) (hA : A.At w) (hB : B.At w) (hBI : B.Inv)
    (hap : ∀ k, A.foot k → ¬ B.foot k) (hbig : (A.ns.length : Int) + 1 < B.most) (hok : MvOk A.ns B.ns []) (hR : w.ownsRow base 32 1 v rs.length (u32s rs)) (hvb : ∀ k, v.ownBlock = some k → ¬ B.foot k) :
    Calls Try.prog 45 #[.pointer (some ⟨A.p, 0, none⟩), .pointer (some ⟨B.p, 0, none⟩), v] w (CopyPost A B rs w) := by
  obtain ⟨ad, cap, hv, hm⟩ := own_slice hR
  have HA := Lib.hid hA
  have HB := Lib.hid hB
  have HI := Lib.hid hI
  have HBI := Lib.hid hBI
  have HAP := Lib.hid hap
  have HOK := Lib.hid hok
  have HVB := Lib.hid hvb
  have HR := Lib.hid hR
  have HV := Lib.hid hv
  have HW := Lib.hid hW
  have HS := Lib.hid hrs
  rw [hv]
  clear hA hB hI hBI hap hok hvb hR hv hrs hm
  have hmm := @run_makeMap Try.prog
  go_enter Try.func45, Try.ntmps45
  go_wp2
  go_loopw [9, 17] (fun o c wr => ∃ (j : Nat) (vo : Value), c = .int .i64 j ∧ vo = o ∧ ∃ B1 M1 l, CopyLoop A B rs w B1 M1 vo l j wr) (fun _ c _ => rs.length - (intOf c).toNat)
  case atStart =>
    exact ⟨0, _, rfl, rfl, B, [], [], by omega, .refl (HB.out.alloc _) HBI.out HOK.out (.made _ _ _), ⟨World.ownsRow_nil _ _ _ _, fun k h => by simp [Value.ownBlock] at h⟩, rfl, fun i hi => by omega, fun x y h => by simp at h⟩
  case round =>
    obtain ⟨j, vo, rfl, rfl, B1, M1, l, hL⟩ := hrel
    have hle := hL.le
    have hll := hL.len
    by_cases hj : j < rs.length
    · obtain ⟨g, cap', hv', _⟩ := own_form HR.out (by omega)
      have h := HV.out.symm.trans hv'
      simp only [Value.slice.injEq] at h
      obtain ⟨rfl, _, rfl⟩ := h
      have hbA : ¬ A.foot w.heap.size := fun h => by have := HA.out.lt h; omega
      have ho1 : Only (fun k => B.foot k ∨ k = w.heap.size) w wr := ((Only.refl _ w).alloc _).trans hL.step.only (fun i _ h => h)
      have hA1 := HA.out.keep ho1 (fun k hk h => by
        rcases h with h | h
        · exact HAP.out k hk h
        · subst h; exact hbA hk)
      have hrow := own_only HR.out ho1 (fun k hk h => by
        rcases h with h | h
        · exact HVB.out k hk h
        · have := own_lt HR.out hk; omega)
      rw [hv'] at hrow
      have d0 := row_cell hrow hj rfl
      obtain ⟨r, hr⟩ : ∃ r, r = rs.getD j 0 := ⟨_, rfl⟩
      rw [← hr] at d0
      have hrN : r < A.ns.length := HS.out r (by rw [hr]; simp [hj])
      have hlv := Level_any A r wr hA1 (by omega)
      rw [Ars.lvI_in hrN] at hlv
      have hp1 := hL.step.p
      have hm1 := hL.step.most
      have hmv := move_any A HW.out HI.out hN w.heap.size r hrN B1 M1 wr hA1 hL.step.at_ hL.step.inv (fun i hi h => by
            rcases hL.step.foot i h with h1 | h1
            · exact HAP.out i hi h1
            · have := HA.out.lt hi; rw [World.size_alloc] at h1; omega) (by rw [hm1]; exact hbig) hL.step.map hL.step.ok
      rw [hp1] at hmv
      have HLV := Lib.hid hlv
      have HMV := Lib.hid hmv
      have HL := Lib.hid hL
      have Hr := Lib.hid hr
      clear hbA ho1 hA1 hrow hlv hmv hL hr hv'
      have hn : ¬ (lvN A.ns r : Int) < 0 := by omega
      go_wp2_with (first
        | (go_at_call 43; refine (HLV.out).mono ?_; rintro e w' ⟨rfl, rfl⟩)
        | fail)
      refine (HMV.out).mono ?_
      rintro e w3 ⟨B2, M2, y, rfl, hS2, hmem, hnew2⟩
      have hown : w3.ownsRow 0 32 1 vo l.length (nums .u32 l) := own_only HL.out.out.row hS2.only (fun k hk h => by
        have := HL.out.out.apart k hk
        rcases h with h | h
        · exact this.2 h
        · omega)
      have hown' := hown.alloc (.cells #[.int .u32 y] 32)
      have HS2 := Lib.hid hS2
      have HME := Lib.hid hmem
      have HNW2 := Lib.hid hnew2
      have HOW := Lib.hid hown'
      clear hS2 hmem hnew2 hown hown'
      go_wp2_with (first
        | (at_builtin; refine wp_push _ rfl _ _ 22 rfl 32 .u32 4 u32_info (by omega) Try.underlying22 0 vo l rfl HOW.out (by omega) (by omega) w3.heap.size y rfl (Blk.new _ _ _) ?_; intro g' cp w4 hr4 hg4 hat4 hlt4)
        | fail)
      go_roundw
      case rel =>
        go_light
        have h9 := HL.out.next hj HS2.out (by rw [← Hr.out]; exact HME.out) (by rw [← Hr.out]; exact HNW2.out) hr4 hg4 hat4
        rw [hll] at h9
        exact ⟨j + 1, _, by go_num, rfl, B2, M2, _, h9⟩
      case measure => simp [intOf]; omega
    · obtain rfl : j = rs.length := by omega
      have HL := Lib.hid hL
      clear hL
      go_wp2
      go_ret2
      go_light
      exact ⟨B1, M1, _, l, rfl, HL.out.done⟩

/-- What Collect answers. -/
structure CollRes (A : Ars) (rs : List Nat) (w : World) (B : Ars) (M : List (Nat × Nat)) (v : Value) (l : List Nat) (w' : World) : Prop where
  at_ : B.At w'
  inv : B.Inv
  ok : MvOk A.ns B.ns M
  most : B.most = A.most
  only : Only (fun _ => False) w w'
  foot : ∀ k, B.foot k → w.heap.size ≤ k
  out : OwnOut B w.heap.size w' v l
  len : l.length = rs.length
  pair : ∀ i, i < rs.length → (rs.getD i 0, l.getD i 0) ∈ M
  new : ∀ x y, (x, y) ∈ M → ∃ r, r ∈ rs ∧ Rch A.ns r x

def CollPost (A : Ars) (rs : List Nat) (w : World) (e : Ending) (w' : World) : Prop := ∃ B M v l, e = .returned (.tuple #[.pointer (some ⟨B.p, 0, none⟩), v, .nilIface]) ∧ CollRes A rs w B M v l w'

theorem wf0 : Wf [leaf0] :=
  ⟨by simp, rfl, fun i hi => by simp at hi; subst hi; exact ⟨by decide, by decide⟩, fun i hi _ => by
    simp at hi; subst hi
    refine ⟨fun j => ?_, by rw [show ([leaf0].getD 0 default).bits = 0 from rfl, popc_zero]; rfl⟩
    show four 0 0 0 0 j = 0
    unfold four
    split <;> try rfl
    split <;> try rfl
    split <;> rfl, fun i hi h => by simp at hi; subst hi; exact absurd h (by decide)⟩
theorem mv0 (ns : List Nd) : MvOk ns [leaf0] [] :=
  ⟨wf0, by simp, fun _ _ h => by simp at h, fun _ _ h => by simp at h, fun _ _ h => by simp at h, fun y hy => by simp at hy; exact .inl hy⟩

theorem CopyRes.coll {A B0 B : Ars} {rs l : List Nat} {w w1 w' : World} {M : List (Nat × Nat)} {v : Value} {most : Int} (hN : NewPost w most B0 w1) (hm : most = A.most) (h : CopyRes A B0 rs w1 B M v l w') : CollRes A rs w B M v l w' :=
  ⟨h.at_, h.inv, h.ok, h.most.trans (hN.most.trans hm), hN.only.trans h.only (fun i hi hf => by have := hN.foot i hf; omega), fun k hk => by
    rcases h.foot k hk with h1 | h1
    · exact hN.foot k h1
    · exact Nat.le_trans hN.only.size h1, ⟨h.out.row, fun k hk => ⟨Nat.le_trans hN.only.size (h.out.apart k hk).1, (h.out.apart k hk).2⟩⟩, h.len, h.pair, h.new⟩

set_option maxRecDepth 100000 in
set_option maxHeartbeats 2000000 in
theorem Collect_any (A : Ars) (hW : Wf A.ns) (hI : A.Inv) (hN : A.ns.length < 1000000000) (base : Nat) (v : Value) (rs : List Nat) (hrs : ∀ r, r ∈ rs → r < A.ns.length) (hrl : rs.length < 1000000000) (w : World) (hA : A.At w)
    (hm64 : 64 ≤ A.most) (hm63 : A.most ≤ 9223372036854775807) (hbig : (A.ns.length : Int) + 1 < A.most) (hR : w.ownsRow base 32 1 v rs.length (u32s rs)) :
    Calls Try.prog 11 #[.pointer (some ⟨A.p, 0, none⟩), v] w (CollPost A rs w) := by
  have hmo := Most_any A w hA
  have hnew := New_big A.most w hm63 hm64
  have HA := Lib.hid hA
  have HI := Lib.hid hI
  have HR := Lib.hid hR
  have HW := Lib.hid hW
  have HS := Lib.hid hrs
  have HMO := Lib.hid hmo
  have HNEW := Lib.hid hnew
  clear hA hI hR hW hrs hmo hnew
  go_enter Try.func11, Try.ntmps11
  go_wp2_with (first
    | (go_at_call 13; refine (HMO.out).mono ?_; rintro e w' ⟨rfl, rfl⟩)
    | (go_at_call 37; refine (HNEW.out).mono ?_; rintro e w1 ⟨B0, hN0, rfl⟩)
    | fail)
  have hvl := fun k hk => own_lt HR.out (k := k) hk
  have hcp := Copy_any A B0 HW.out HI.out hN base v rs HS.out hrl w1 (HA.out.keep hN0.only (fun _ _ h => h)) hN0.at_ hN0.inv (fun k hk h => by
      have := HA.out.lt hk
      have := hN0.foot k h
      omega) (by rw [hN0.most]; exact hbig) (by rw [hN0.ns]; exact mv0 _) (own_only HR.out hN0.only (fun _ _ h => h)) (fun k hk h => by
      have := hvl k hk
      have := hN0.foot k h
      omega)
  have HCP := Lib.hid hcp
  have HN0 := Lib.hid hN0
  clear hcp hN0 hvl
  refine (HCP.out).mono ?_
  rintro e w2 ⟨B, M, vo, l, rfl, hC⟩
  have hp : B.p = B0.p := hC.p
  have HC := Lib.hid hC
  clear hC
  go_wp2
  go_ret3
  go_light
  exact ⟨B, M, vo, l, by rw [hp]; rfl, HC.out.coll HN0.out rfl⟩
end Go.Proofs.Ytblhbfniomlfkaa
