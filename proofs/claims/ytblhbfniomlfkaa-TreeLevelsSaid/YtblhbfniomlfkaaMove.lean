/- sweep.move. -/
import Derived.Test.YtblhbfniomlfkaaReach
import Derived.Test.YtblhbfniomlfkaaMoved
namespace Go.Proofs.Ytblhbfniomlfkaa
open Go.RowKit

/-- What a call of move has made of the target and the map. -/
structure MvStep (A B : Ars) (b : Nat) (M : List (Nat × Nat)) (w : World) (B' : Ars) (M' : List (Nat × Nat)) (w' : World) : Prop where
  at_ : B'.At w'
  inv : B'.Inv
  ok : MvOk A.ns B'.ns M'
  map : MapAt 32 .u32 w' b M'
  p : B'.p = B.p
  most : B'.most = B.most
  only : Only (fun k => B.foot k ∨ k = b) w w'
  foot : ∀ k, B'.foot k → B.foot k ∨ w.heap.size ≤ k
  sub : ∀ x, x ∈ M → x ∈ M'

theorem MvStep.refl {A B : Ars} {b : Nat} {M : List (Nat × Nat)} {w : World} (hB : B.At w) (hI : B.Inv) (hO : MvOk A.ns B.ns M) (hM : MapAt 32 .u32 w b M) : MvStep A B b M w B M w :=
  ⟨hB, hI, hO, hM, rfl, rfl, Only.refl _ _, fun _ h => .inl h, fun _ h => h⟩
theorem MvStep.trans {A B C D : Ars} {b : Nat} {M M1 M2 : List (Nat × Nat)} {w w1 w2 : World} (h : MvStep A B b M w C M1 w1) (k : MvStep A C b M1 w1 D M2 w2) : MvStep A B b M w D M2 w2 :=
  ⟨k.at_, k.inv, k.ok, k.map, k.p.trans h.p, k.most.trans h.most, h.only.trans k.only (fun i hi hf => by
    rcases hf with hf | hf
    · exact .inl ((h.foot i hf).resolve_right (by omega))
    · exact .inr hf), fun i hi => by
    rcases k.foot i hi with h1 | h1
    · exact h.foot i h1
    · exact .inr (Nat.le_trans h.only.size h1), fun x hx => k.sub x (h.sub x hx)⟩
theorem MvStep.later {A B C : Ars} {b : Nat} {M M1 : List (Nat × Nat)} {w w1 w2 : World} {S : Nat → Prop} (h : MvStep A B b M w C M1 w1) (ho : Only S w1 w2) (hS : ∀ k, S k → w.heap.size ≤ k ∧ ¬ C.foot k ∧ k ≠ b) : MvStep A B b M w C M1 w2 :=
  ⟨h.at_.keep ho (fun k hk hs => (hS k hs).2.1 hk), h.inv, h.ok, h.map.keep ho (fun hs => (hS b hs).2.2 rfl), h.p, h.most, h.only.trans ho (fun i hi hs => by have := (hS i hs).1; omega), h.foot, h.sub⟩
theorem MvStep.put {A B C D : Ars} {b a out : Nat} {M M1 : List (Nat × Nat)} {w w1 w2 w3 : World} (h : MvStep A B b M w C M1 w1) (hs : C.Step w1 D.ns D w2) (ho : Only (fun k => k = b) w2 w3) (hM : MapAt 32 .u32 w3 b ((a, out) :: M1)) (hok : MvOk A.ns D.ns ((a, out) :: M1)) :
    MvStep A B b M w D ((a, out) :: M1) w3 := by
  have hb : ¬ C.foot b := h.map.not_foot h.at_
  have hM2 : MapAt 32 .u32 w2 b M1 := h.map.keep hs.only hb
  have hbD : ¬ D.foot b := hM2.not_foot hs.at_
  exact ⟨hs.at_.keep ho (fun k hk e => by subst e; exact hbD hk), hs.inv, hok, hM, hs.p.trans h.p, hs.most.trans h.most,
    (h.only.trans (hs.only.mono (T := fun k => C.foot k ∨ k = b) (fun _ _ h => .inl h)) (fun i hi hf => by
      rcases hf with hf | hf
      · exact .inl ((h.foot i hf).resolve_right (by omega))
      · exact .inr hf)).trans ho (fun i _ e => .inr e), fun i hi => by
    rcases hs.foot i hi with h1 | h1
    · exact h.foot i h1
    · exact .inr (Nat.le_trans h.only.size h1), fun x hx => List.mem_cons_of_mem _ (h.sub x hx)⟩

def MvPost (A B : Ars) (b a : Nat) (M : List (Nat × Nat)) (w : World) (e : Ending) (w' : World) : Prop :=
  ∃ B' M' out, e = .returned (.tuple #[.int .u32 (out : Nat), .nilIface]) ∧ MvStep A B b M w B' M' w' ∧ (a, out) ∈ M' ∧ ∀ x y, (x, y) ∈ M' → (x, y) ∈ M ∨ Rch A.ns a x

theorem found_end {B : Ars} {W W2 : World} {k : Key} {c : Nat} {e : Ending} (h : FindPost B W k c e W2) (hm : (B.ns.length : Int) < B.most) (hn : B.ns.length < 1073741824) :
    ∃ out D, e = .returned (.tuple #[.int .u32 (out : Nat), .nilIface]) ∧ B.Step W D.ns D W2 ∧ Laid B.ns k out D.ns ∧ (D.ns = B.ns ∨ D.ns = B.ns ++ [k.nd c]) ∧ out < 4294967296 := by
  obtain ⟨D, hS, rfl⟩ := h
  obtain ⟨h0, hL, hor⟩ := laid_of (k := k) (c := c) hm
  have hns := hS.ns
  rw [← hns] at hL hor
  refine ⟨_, D, by rw [h0]; rfl, by rw [hns]; exact hS, hL, hor, ?_⟩
  have := hL.lt
  have := hL.len
  omega

/-- The kids' box: the first j are moved. -/
structure MvLoop (A B : Ars) (b a : Nat) (M : List (Nat × Nat)) (w : World) (c j : Nat) (wr : World) : Prop where
  le : j ≤ 4
  ex : ∃ B1 M1 z0 z1 z2 z3, MvStep A B b M w B1 M1 wr ∧ Blk wr c 91 (kidsCells z0 z1 z2 z3) ∧ (∀ i, i < j → (kidN A.ns a i, four z0 z1 z2 z3 i) ∈ M1) ∧ (∀ i, j ≤ i → i < 4 → four z0 z1 z2 z3 i = kidN A.ns a i) ∧
    ∀ x y, (x, y) ∈ M1 → (x, y) ∈ M ∨ (Rch A.ns a x ∧ x < a)

theorem Rch.le {ns : List Nd} (hW : Wf ns) {a x : Nat} (h : Rch ns a x) (ha : a < ns.length) : x ≤ a := by
  induction h with
  | refl a => exact Nat.le_refl _
  | @step a b j hl _ ih =>
    have h1 := hW.kid ha hl j
    have := ih (by omega)
    omega
theorem hasK_false {M : List (Nat × Nat)} {x : Nat} (h : x ∉ M.map (·.1)) : hasK M x = false := by
  cases e : hasK M x with
  | false => rfl
  | true => exact absurd (List.mem_map.2 ⟨_, hasK_mem e, rfl⟩) h

theorem box_get (z0 z1 z2 z3 j : Nat) (hj : j < 4) : (kidsCells z0 z1 z2 z3)[j]? = some (.int .u32 (four z0 z1 z2 z3 j : Nat)) :=
  match j, hj with
  | 0, _ => rfl
  | 1, _ => rfl
  | 2, _ => rfl
  | 3, _ => rfl
theorem box_set (z0 z1 z2 z3 j y : Nat) (hj : j < 4) : ∃ u0 u1 u2 u3, (kidsCells z0 z1 z2 z3).setIfInBounds j (.int .u32 y) = kidsCells u0 u1 u2 u3 ∧ ∀ i, i < 4 → four u0 u1 u2 u3 i = if i = j then y else four z0 z1 z2 z3 i :=
  match j, hj with
  | 0, _ => ⟨y, z1, z2, z3, rfl, fun i hi => match i, hi with | 0, _ => rfl | 1, _ => rfl | 2, _ => rfl | 3, _ => rfl⟩
  | 1, _ => ⟨z0, y, z2, z3, rfl, fun i hi => match i, hi with | 0, _ => rfl | 1, _ => rfl | 2, _ => rfl | 3, _ => rfl⟩
  | 2, _ => ⟨z0, z1, y, z3, rfl, fun i hi => match i, hi with | 0, _ => rfl | 1, _ => rfl | 2, _ => rfl | 3, _ => rfl⟩
  | 3, _ => ⟨z0, z1, z2, y, rfl, fun i hi => match i, hi with | 0, _ => rfl | 1, _ => rfl | 2, _ => rfl | 3, _ => rfl⟩

theorem Ars.bitsI_in {A : Ars} {i : Nat} (h : i < A.ns.length) : A.bitsI i = bitsN A.ns i := by simp [Ars.bitsI, h, bitsN]

theorem Ars.At.not_box {A : Ars} {w : World} (hA : A.At w) {c : Nat} {cs : Array Value} (hB : Blk w c 91 cs) : ¬ A.foot c := by
  rintro (h | h | h | h)
  · exact hB.ne_ hA.blk (by decide) h
  · exact own_blk_ne hA.own hB (by decide) h
  · exact own_blk_ne hA.ows hB (by decide) h
  · exact own_blk_ne hA.owe hB (by decide) h

theorem four_all {P : Nat → Prop} {a b c d : Nat} (h : ∀ i, i < 4 → P (four a b c d i)) (j : Nat) : P (four a b c d j) := by
  rw [four_lt]; exact h _ (by omega)

theorem join_end {A B : Ars} {M : List (Nat × Nat)} {W W2 : World} {z0 z1 z2 z3 a : Nat} {e : Ending} (h : JoinPost B W z0 z1 z2 z3 e W2) (hW : Wf A.ns) (hok : MvOk A.ns B.ns M) (ha : a < A.ns.length) (hd : 2 < lvN A.ns a) (hnew : a ∉ M.map (·.1))
    (hz : ∀ i, i < 4 → (kidN A.ns a i, four z0 z1 z2 z3 i) ∈ M) (hm : (B.ns.length : Int) < B.most) (hn : B.ns.length < 1073741824) :
    ∃ out D, e = .returned (.tuple #[.int .u32 (out : Nat), .nilIface]) ∧ B.Step W D.ns D W2 ∧ MvOk A.ns D.ns ((a, out) :: M) ∧ out < 4294967296 := by
  have hz' : ∀ j, (kidN A.ns a j, four z0 z1 z2 z3 j) ∈ M := fun j => by rw [kid_min, four_lt]; exact hz _ (by omega)
  have hlv : ∀ j, four z0 z1 z2 z3 j < B.ns.length ∧ lvN B.ns (four z0 z1 z2 z3 j) + 1 = lvN A.ns a := fun j => by
    refine ⟨(hok.lt _ _ (hz' j)).2, ?_⟩
    rw [(hok.like _ _ (hz' j)).1]
    exact ((hW.join a ha hd).2.1 j).2
  have h44 := (hW.two a ha).2
  have h0 := hlv 0
  rw [four0] at h0
  have hk : ∀ j, kidOk B.ns z0 (four z0 z1 z2 z3 j) := fun j => ⟨(hlv j).1, by have := (hlv j).2; omega⟩
  unfold JoinPost at h
  rw [if_pos ⟨hk 0, hk 1, hk 2, hk 3⟩, if_neg (by omega)] at h
  obtain ⟨out, D, he, hSt, hLd, hor, hout⟩ := found_end h hm hn
  refine ⟨out, D, he, hSt, hok.put hW ?_ hLd ha hnew h0.2 (hW.join a ha hd).1.symm (fun _ j => hz' j), hout⟩
  rcases hor with e | e
  · rw [e]; exact hok.wf
  · rw [e]; exact hok.wf.push_join hk (by omega)

set_option maxRecDepth 100000 in
set_option maxHeartbeats 2000000 in
theorem move_any (A : Ars) (hW : Wf A.ns) (hI : A.Inv) (hN : A.ns.length < 1000000000) (b : Nat) : ∀ (a : Nat), a < A.ns.length → ∀ (B : Ars) (M : List (Nat × Nat)) (w : World), A.At w → B.At w → B.Inv → (∀ k, A.foot k → ¬ B.foot k) → (A.ns.length : Int) + 1 < B.most → MapAt 32 .u32 w b M → MvOk A.ns B.ns M →
    Calls Try.prog 68 #[.pointer (some ⟨A.p, 0, none⟩), .pointer (some ⟨B.p, 0, none⟩), .int .u32 a, .map (some b)] w (MvPost A B b a M w) := by
  intro a
  induction a using Nat.strongRecOn with
  | ind a ih => ?_
  intro ha B M w hA hB hBI hap hbig hM hok
  have hal : a < 4294967296 := by omega
  have IH := Lib.hid ih
  have HA := Lib.hid hA
  have HB := Lib.hid hB
  have HI := Lib.hid hI
  have HBI := Lib.hid hBI
  have HAP := Lib.hid hap
  have HM := Lib.hid hM
  have HOK := Lib.hid hok
  have HW := Lib.hid hW
  have hlen := hok.length
  clear ih hA hB hI hBI hap hM hok hW
  cases hin : hasK M a with
  | true =>
    have hmem := hasK_mem hin
    go_enter Try.func68, Try.ntmps68
    go_wp2_with (first
      | (at_lookup; refine wp_look_ok _ rfl _ _ 130 rfl 32 .u32 Try.underlying130 Try.underlying32 (zero_u32 _) b M rfl HM.out a hal rfl ?_; rw [hin])
      | fail)
    go_ret2
    exact ⟨B, M, look M a, rfl, .refl HB.out HBI.out HOK.out HM.out, hmem, fun x y h => .inl h⟩
  | false =>
    have hnot := hasK_not hin
    have hlv := Level_any A a w HA.out hal
    rw [Ars.lvI_in ha] at hlv
    have HLV := Lib.hid hlv
    have HNOT := Lib.hid hnot
    clear hlv hnot
    by_cases hleaf : lvN A.ns a = 2
    · have hbt := Bits_any A a w HA.out hal
      rw [Ars.bitsI_in ha] at hbt
      have hfit : bitsN A.ns a < 4294967296 := (HI.out.fit a ha).2.1
      have hlf := Leaf_any B (bitsN A.ns a) w HB.out HBI.out (by omega) hfit
      have HBT := Lib.hid hbt
      have HLF := Lib.hid hlf
      clear hbt hlf
      rw [hleaf] at HLV
      go_enter Try.func68, Try.ntmps68
      go_wp2_with (first
        | (at_lookup; refine wp_look_ok _ rfl _ _ 130 rfl 32 .u32 Try.underlying130 Try.underlying32 (zero_u32 _) b M rfl HM.out a hal rfl ?_; rw [hin])
        | (go_at_call 43; refine (HLV.out).mono ?_; rintro e w' ⟨rfl, rfl⟩)
        | (go_at_call 46; refine (HBT.out).mono ?_; rintro e w' ⟨rfl, rfl⟩)
        | fail)
      refine (HLF.out).mono ?_
      intro e w2 hF
      obtain ⟨out, D, rfl, hSt, hLd, hor, hout⟩ := found_end hF (by omega) (by omega)
      have hb := HM.out.not_foot HB.out
      have hM2 := HM.out.keep hSt.only hb
      have hOk2 : MvOk A.ns D.ns ((a, out) :: M) := HOK.out.put HW.out (by
          rcases hor with e | e
          · rw [e]; exact HOK.out.wf
          · rw [e]; exact HOK.out.wf.push_leaf _) hLd ha HNOT.out hleaf.symm rfl (fun h => by omega)
      have HM2 := Lib.hid hM2
      have HOK2 := Lib.hid hOk2
      have HST := Lib.hid hSt
      clear hM2 hOk2 hSt hor hLd hF
      go_wp2_with (first
        | (at_mapUpdate; refine wp_put _ rfl _ _ _ 130 rfl 32 .u32 Try.underlying130 Try.underlying32 b M rfl HM2.out (by omega) a out hal rfl rfl (wf_u32 hout) hin ?_; intro w3 hM3 ho3)
        | fail)
      go_ret2
      go_light
      exact ⟨D, _, out, rfl, (MvStep.refl HB.out HBI.out HOK.out HM.out).put HST.out ho3 hM3 HOK2.out, by simp, fun x y h => by
        rcases List.mem_cons.1 h with e | e
        · cases e; exact .inr (.refl _)
        · exact .inl e⟩
    · have h2 := (HW.out.two a ha).1
      have hdeep : 2 < lvN A.ns a := by omega
      have hkd := Kids_any A a w HA.out hal
      rw [Ars.kidsV_in ha] at hkd
      obtain ⟨x0, x1, x2, x3, hkn, hkv⟩ : ∃ x0 x1 x2 x3, (∀ j, kidN A.ns a j = four x0 x1 x2 x3 j) ∧ Value.agg #[.int .u32 (A.ns.getD a default).k0, .int .u32 (A.ns.getD a default).k1, .int .u32 (A.ns.getD a default).k2, .int .u32 (A.ns.getD a default).k3] = .agg #[.int .u32 (x0 : Nat), .int .u32 (x1 : Nat), .int .u32 (x2 : Nat), .int .u32 (x3 : Nat)] := ⟨_, _, _, _, fun _ => rfl, rfl⟩
      rw [hkv] at hkd
      have HKN := Lib.hid hkn
      have HKD := Lib.hid hkd
      clear hkd hkn hkv
      have hl : ¬ (lvN A.ns a : Int) = 2 := by omega
      go_enter Try.func68, Try.ntmps68
      go_wp2_with (first
        | (at_lookup; refine wp_look_ok _ rfl _ _ 130 rfl 32 .u32 Try.underlying130 Try.underlying32 (zero_u32 _) b M rfl HM.out a hal rfl ?_; rw [hin])
        | (go_at_call 43; refine (HLV.out).mono ?_; rintro e w' ⟨rfl, rfl⟩)
        | (go_at_call 48; refine (HKD.out).mono ?_; rintro e w1 ⟨rfl, ho1⟩)
        | fail)
      have hbA := HM.out.not_foot HA.out
      have hbw := HM.out.lt
      have hsz := ho1.size
      have HO1 := Lib.hid ho1
      have HBA := Lib.hid hbA
      clear ho1 hbA
      go_loopw [39] (fun c wr => ∃ j : Nat, c = .int .i64 j ∧ MvLoop A B b a M w w1.heap.size j wr) (fun c _ => 4 - (intOf c).toNat)
      case atStart =>
        refine ⟨0, rfl, by omega, B, M, x0, x1, x2, x3, ?_, Blk.new _ _ _, fun i hi => by omega, fun i _ _ => (HKN.out i).symm, fun x y h => .inl h⟩
        exact ((MvStep.refl HB.out HBI.out HOK.out HM.out).later HO1.out (fun k h => h.elim)).later ((Only.refl (fun _ => False) _).alloc _) (fun k h => h.elim)
      case round =>
        obtain ⟨j, rfl, hle, B1, M1, z0, z1, z2, z3, hSt, hbx, hdone, hrest, hnew⟩ := hrel
        have hA1 := HA.out.keep hSt.only (fun k hk h => by
          rcases h with h | h
          · exact HAP.out k hk h
          · subst h; exact HBA.out hk)
        have hlen1 := hSt.ok.length
        have hnf := hSt.at_.not_box hbx
        have hp1 := hSt.p
        have hm1 := hSt.most
        have hcl := hbx.lt
        by_cases hj : j < 4
        · obtain ⟨k, hk⟩ : ∃ k, k = kidN A.ns a j := ⟨_, rfl⟩
          have hka : k < a := by rw [hk]; exact HW.out.kid ha hdeep j
          have d0 := hbx.cell j
          rw [box_get _ _ _ _ _ hj, hrest j (Nat.le_refl _) hj, ← hk] at d0
          have f0 := hbx.frozen j
          have hrec := IH.out k hka (by omega) B1 M1 wr hA1 hSt.at_ hSt.inv (fun i hi h => by
            rcases hSt.foot i h with h1 | h1
            · exact HAP.out i hi h1
            · have := HA.out.lt hi; omega) (by rw [hm1]; exact hbig) hSt.map hSt.ok
          rw [hp1] at hrec
          have HR := Lib.hid hrec
          have HST := Lib.hid hSt
          have HBX := Lib.hid hbx
          have HDN := Lib.hid hdone
          have HRS := Lib.hid hrest
          have HNW := Lib.hid hnew
          have HK := Lib.hid hk
          have HNF := Lib.hid hnf
          clear hrec hSt hbx hdone hrest hnew hk hA1 hnf
          go_wp2_with fail
          refine (HR.out).mono ?_
          rintro e w3 ⟨B2, M2, out, rfl, hS2, hmem, hnew2⟩
          have hbx2 := HBX.out.only hS2.only (fun h => by
            rcases h with h | h
            · exact HNF.out h
            · omega)
          have d2 := hbx2.cell j
          rw [box_get _ _ _ _ _ hj] at d2
          have f2 := hbx2.frozen j
          have hn2 := hS2.at_.not_box hbx2
          have HS2 := Lib.hid hS2
          have HB2 := Lib.hid hbx2
          have HN2 := Lib.hid hn2
          have HME := Lib.hid hmem
          have HNW2 := Lib.hid hnew2
          clear hS2 hbx2 hn2 hmem hnew2
          go_wp2
          go_roundw
          case rel =>
            go_light
            obtain ⟨u0, u1, u2, u3, he, hu⟩ := box_set z0 z1 z2 z3 j out hj
            refine ⟨j + 1, by go_num, hj, B2, M2, u0, u1, u2, u3, ?_, ?_, ?_, ?_, ?_⟩
            · exact (HST.out.trans HS2.out).later (Only.set1 _ _ _ _) (fun i hi => by subst hi; exact ⟨hsz, HN2.out, by omega⟩)
            · rw [← he]; exact HB2.out.set_ j _
            · intro i hi
              rw [hu i (by omega)]
              split
              · rename_i e; subst e; rw [← HK.out]; exact HME.out
              · exact HS2.out.sub _ (HDN.out i (by omega))
            · intro i hi hi4
              rw [hu i hi4, if_neg (by omega)]
              exact HRS.out i (by omega) hi4
            · intro x y hxy
              rcases HNW2.out x y hxy with h | h
              · exact HNW.out x y h
              · exact .inr ⟨.step hdeep (by rw [← HK.out]; exact h), Nat.lt_of_le_of_lt (h.le HW.out (by omega)) hka⟩
          case measure => simp [intOf]; omega
        · obtain rfl : j = 4 := by omega
          have hz : ∀ i, i < 4 → four z0 z1 z2 z3 i < 4294967296 := fun i hi => by
            have := (hSt.ok.lt _ _ (hdone i hi)).2
            omega
          have hjn := Join_any B1 z0 z1 z2 z3 wr hSt.at_ hSt.inv (by omega) (hz 0 (by omega)) (hz 1 (by omega)) (hz 2 (by omega)) (hz 3 (by omega))
          unfold kidsCells at hjn
          rw [hp1] at hjn
          have b0 : wr.cell? ⟨w1.heap.size, 0, none⟩ = some (.int .u32 z0) := hbx.cell 0
          have b1 : wr.cell? ⟨w1.heap.size, 1, none⟩ = some (.int .u32 z1) := hbx.cell 1
          have b2 : wr.cell? ⟨w1.heap.size, 2, none⟩ = some (.int .u32 z2) := hbx.cell 2
          have b3 : wr.cell? ⟨w1.heap.size, 3, none⟩ = some (.int .u32 z3) := hbx.cell 3
          have hin1 : a ∉ M1.map (·.1) := by
            intro h
            obtain ⟨⟨x, y⟩, hp, e⟩ := List.mem_map.1 h
            simp only at e
            subst e
            rcases hnew x y hp with h1 | h1
            · exact HNOT.out (List.mem_map.2 ⟨_, h1, rfl⟩)
            · omega
          have HJ := Lib.hid hjn
          have HST := Lib.hid hSt
          have HDN := Lib.hid hdone
          have HNW := Lib.hid hnew
          have HIN := Lib.hid hin1
          clear hjn hSt hdone hnew hrest hbx hA1 hnf hz hin1
          go_wp2_with fail
          refine (HJ.out).mono ?_
          intro e w2 hF
          obtain ⟨out, D, rfl, hSt, hOk2, hout⟩ := join_end hF HW.out HST.out.ok ha hdeep HIN.out HDN.out (by omega) (by omega)
          have hM2 := HST.out.map.keep hSt.only (HST.out.map.not_foot HST.out.at_)
          have hin1 := hasK_false HIN.out
          have HM2 := Lib.hid hM2
          have HOK2 := Lib.hid hOk2
          have HSt := Lib.hid hSt
          clear hM2 hOk2 hSt hF
          go_wp2_with (first
            | (at_mapUpdate; refine wp_put _ rfl _ _ _ 130 rfl 32 .u32 Try.underlying130 Try.underlying32 b M1 rfl HM2.out (by omega) a out hal rfl rfl (wf_u32 hout) hin1 ?_; intro w3 hM3 ho3)
            | fail)
          go_ret2
          go_light
          exact ⟨D, _, out, rfl, HST.out.put HSt.out ho3 hM3 HOK2.out, by simp, fun x y h => by
            rcases List.mem_cons.1 h with e | e
            · cases e; exact .inr (.refl _)
            · rcases HNW.out x y e with h1 | h1
              · exact .inl h1
              · exact .inr h1.1⟩
end Go.Proofs.Ytblhbfniomlfkaa
