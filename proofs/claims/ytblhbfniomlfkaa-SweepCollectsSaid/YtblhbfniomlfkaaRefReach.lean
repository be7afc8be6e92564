/- honeycombref17.Reach. -/
import Derived.Test.YtblhbfniomlfkaaQueue
import Derived.Test.YtblhbfniomlfkaaBfs
namespace Go.Proofs.Ytblhbfniomlfkaa
open Go.RowKit

def seenA (N : Nat) (S : List Nat) : Array Value := ((List.range N).map fun i => Value.int .i64 (if i ∈ S then (1 : Nat) else 0 : Nat)).toArray
theorem seenA_get (N : Nat) (S : List Nat) {x : Nat} (h : x < N) : (seenA N S)[x]? = some (.int .i64 (if x ∈ S then (1 : Nat) else 0 : Nat)) := by
  simp [seenA, h]
theorem seenA_set (N : Nat) (S : List Nat) {x : Nat} (h : x < N) : (seenA N S).setIfInBounds x (.int .i64 1) = seenA N (x :: S) := by
  apply Array.ext_getElem?
  intro i
  rw [Array.getElem?_setIfInBounds]
  by_cases hi : i < N
  · rw [seenA_get N (x :: S) hi, seenA_get N S hi]
    by_cases e : x = i
    · subst e
      simp [seenA, h]
    · have : ¬ i = x := fun e' => e e'.symm
      simp [e, this]
  · have h1 : (seenA N S)[i]? = none := Array.getElem?_eq_none (by simp [seenA]; omega)
    have h2 : (seenA N (x :: S))[i]? = none := Array.getElem?_eq_none (by simp [seenA]; omega)
    rw [h1, h2, if_neg (by omega)]

def sliceLen : Value → Nat
  | .slice _ n _ => n
  | _ => 0

theorem QAt.len {w : World} {v : Value} {g : Nat} {l : List Nat} (h : QAt w v g l) : sliceLen v = l.length := by
  obtain ⟨off, cap, cur, rfl, _⟩ := h
  rfl

structure RR (ns : List Nd) (rs : List Nat) (v : Value) (most : Int) (w : World) (gs : Nat) (q : Value) (g : Nat) (S T : List Nat) (wr : World) : Prop where
  box : Blk wr w.heap.size 29 #[v, .int .i64 most]
  row : Blk wr gs 3 (seenA ns.length S)
  que : QAt wr q g T
  only : Only (fun _ => False) w wr
  glt : w.heap.size < g
  ne : g ≠ gs
  bfs : Bfs ns rs S T
  len : T.length ≤ rs.length + 4 * S.length

theorem RR.pop {ns rs S T : List _} {v q vt : Value} {most : Int} {w wr : World} {gs g x : Nat} (h : RR ns rs v most w gs q g S (x :: T) wr) (hx : x ∈ S) (hq : QAt wr vt g T) : RR ns rs v most w gs vt g S T wr :=
  ⟨h.box, h.row, hq, h.only, h.glt, h.ne, h.bfs.seen hx, by have := h.len; simp only [List.length_cons] at this; omega⟩
/-- x marked; its first j kids put behind the rest. -/
structure RI (ns : List Nd) (rs : List Nat) (v : Value) (most : Int) (w : World) (gs : Nat) (q : Value) (g : Nat) (S : List Nat) (x : Nat) (T : List Nat) (j : Nat) (wr : World) : Prop where
  box : Blk wr w.heap.size 29 #[v, .int .i64 most]
  row : Blk wr gs 3 (seenA ns.length (x :: S))
  que : QAt wr q g (T ++ (List.range j).map (kidN ns x))
  only : Only (fun _ => False) w wr
  glt : w.heap.size < g
  ne : g ≠ gs
  bfs : Bfs ns rs S (x :: T)
  len : T.length + 1 ≤ rs.length + 4 * S.length
theorem RI.start {ns rs S T : List _} {v q vt : Value} {most : Int} {w wr : World} {gs g x : Nat} (h : RR ns rs v most w gs q g S (x :: T) wr) (hxN : x < ns.length) (hgs : w.heap.size < gs) (hq : QAt wr vt g T) : RI ns rs v most w gs vt g S x T 0 (wr.setCell ⟨gs, x, none⟩ (.int .i64 1)) :=
  ⟨h.box.far (by simp; omega) _, by rw [← seenA_set _ _ hxN]; exact h.row.set_ x _, by simpa using hq.keep (Only.set1 wr gs x (.int .i64 1)) h.ne, h.only.setCell (fun h => by simp only at h; omega) _, h.glt, h.ne, h.bfs, by have := h.len; simpa using this⟩
theorem RI.next {ns rs S T : List _} {v q q' : Value} {most : Int} {w wr w4 : World} {gs g g' x j : Nat} (h : RI ns rs v most w gs q g S x T j wr) (o : Obj) (hgs : gs < wr.heap.size) (hq : QAt w4 q' g' ((T ++ (List.range j).map (kidN ns x)) ++ [kidN ns x j])) (ho : Only (fun k => k = g) (wr.alloc o) w4) (hat : g' = g ∨ (wr.alloc o).heap.size ≤ g') :
    RI ns rs v most w gs q' g' S x T (j + 1) w4 :=
  ⟨(h.box.alloc o).only ho (fun e => by have := h.glt; omega), (h.row.alloc o).only ho (fun e => h.ne e.symm), by rw [List.range_succ, List.map_append, ← List.append_assoc]; exact hq, (h.only.alloc o).trans ho (fun i hi e => by have := h.glt; have := h.bfs; omega), by
    have h1 := h.glt
    have h2 := h.box.lt
    rcases hat with e | e
    · omega
    · rw [World.size_alloc] at e; omega, by
    have h1 := h.ne
    rcases hat with e | e
    · omega
    · rw [World.size_alloc] at e; omega, h.bfs, h.len⟩
theorem RI.leaf {ns rs S T : List _} {v q : Value} {most : Int} {w wr : World} {gs g x : Nat} (h : RI ns rs v most w gs q g S x T 0 wr) (hW : Wf ns) (hx : x ∉ S) (hl : ¬ 2 < lvN ns x) : RR ns rs v most w gs q g (x :: S) T wr :=
  ⟨h.box, h.row, by simpa using h.que, h.only, h.glt, h.ne, by simpa using h.bfs.mark hW hx (U := []) (fun k hk => by simp at hk) (fun h => absurd h hl), by have := h.len; simp only [List.length_cons]; omega⟩
theorem RI.done {ns rs S T : List _} {v q : Value} {most : Int} {w wr : World} {gs g x : Nat} (h : RI ns rs v most w gs q g S x T 4 wr) (hW : Wf ns) (hx : x ∉ S) (hl : 2 < lvN ns x) : RR ns rs v most w gs q g (x :: S) (T ++ (List.range 4).map (kidN ns x)) wr :=
  ⟨h.box, h.row, h.que, h.only, h.glt, h.ne, h.bfs.mark hW hx (fun k hk => by
    obtain ⟨i, hi, rfl⟩ := List.mem_map.1 hk
    exact ⟨hl, i, List.mem_range.1 hi, rfl⟩) (fun _ i hi => List.mem_map.2 ⟨i, List.mem_range.2 hi, rfl⟩), by have := h.len; simp only [List.length_append, List.length_map, List.length_range, List.length_cons]; omega⟩

def RReachPost (ns : List Nd) (rs : List Nat) (w : World) (e : Ending) (w' : World) : Prop :=
  ∃ S : List Nat, e = .returned (.tuple #[.int .i64 S.length, .bool (decide (0 ∈ S))]) ∧ Seen ns rs S ∧ Only (fun _ => False) w w'

theorem row_of_made {w : World} {g n : Nat} (h : w.ownsRow 0 3 1 (.slice (some ⟨g, 0, none⟩) n n) n (madeCells (Value.int .i64 0).cells (n * 1)).toList) : Blk w g 3 (seenA n []) := by
  rcases h.2 with ⟨h1, _⟩ | ⟨g', cap', cur, hv, _, hb, hle, hmx, hsz, htk⟩
  · cases h1
  · cases hv
    unfold Blk
    rw [hb]
    congr 2
    rw [List.take_of_length_le (by simp [hsz])] at htk
    apply Array.ext_getElem?
    intro i
    rw [← Array.getElem?_toList, htk]
    simp only [seenA, List.not_mem_nil, if_false, List.getElem?_toArray]
    have e : (madeCells (Value.int .i64 0).cells (n * 1)).toList = List.replicate n (.int .i64 0) := by
      rw [Nat.mul_one]
      show (madeCells #[Value.int .i64 0] n).toList = _
      rw [toList_madeCells_one]
    rw [e]
    by_cases hi : i < n
    · simp [hi]
    · rw [List.getElem?_eq_none (by simp; omega), List.getElem?_eq_none (by simp; omega)]


set_option maxRecDepth 100000 in
set_option maxHeartbeats 4000000 in
theorem rReach_any (ns : List Nd) (hW : Wf ns) (v : Value) (most : Int) (rs : List Nat) (base p cp : Nat) (w : World) (hR : RefAt w v ns) (hN : ns.length < 1000000) (hrs : ∀ r, r ∈ rs → r < ns.length) (hrl : rs.length < 1000000)
    (hP : w.ownsRow base 3 1 (.slice (some ⟨p, 0, none⟩) rs.length cp) rs.length (nums .i64 rs)) :
    Calls Try.prog 9 #[.agg #[v, .int .i64 most], .slice (some ⟨p, 0, none⟩) rs.length cp] w (RReachPost ns rs w) := by
  obtain ⟨gv, cap, hv, _⟩ := own_form hR hW.pos
  subst hv
  have HR := Lib.hid hR
  have HP := Lib.hid hP
  have HW := Lib.hid hW
  have HS := Lib.hid hrs
  obtain ⟨i0, hi, hz0, hz1, hz2⟩ := info_parts int_info
  have HI := Lib.hid hi
  have HZ0 := Lib.hid hz0
  have HZ1 := Lib.hid hz1
  have HZ2 := Lib.hid hz2
  clear hi hz0 hz1 hz2 hR hP hrs hW
  go_enter Try.func9, Try.ntmps9
  go_wp2_with (first
    | (at_make; refine wpList_make_full _ rfl _ _ 24 rfl 0 3 i0 _ 1 Try.underlying24 HI.out HZ0.out HZ1.out .i64 .i64 _ _ ns.length rfl rfl rfl rfl (by rw [HZ2.out]; omega) (by unfold maxLen; omega) (Nat.zero_le _) ?_; intro w1 hown1 hg1)
    | (at_builtin; refine wp_qcopy _ rfl _ _ rfl w1.heap.size rfl (empty_ints w1) base p cp rs (by omega) rfl (own_only (S := fun _ => False) HP.out ((((Only.refl _ w).alloc _).grown hg1 (fun k e => by cases e)).alloc _) (fun _ _ h => h)) ?_; intro vq gq w2 hQ2 ho2 hat2)
    | fail)
  have hsz1 := hg1.size
  rw [World.size_alloc] at hsz1
  rw [World.size_alloc] at hown1
  have hlt1 := own_lt hown1 (k := w.heap.size + 1) rfl
  have hgq : w1.heap.size ≤ gq := by
    rcases hat2 with h | h
    · omega
    · rw [World.size_alloc] at h; omega
  have hbox : Blk w2 w.heap.size 29 #[.slice (some ⟨gv, 0, none⟩) ns.length cap, .int .i64 most] := (((Blk.new w _ _).grown hg1 (by simp)).alloc _).only ho2 (fun h => by omega)
  have hrow : Blk w2 (w.heap.size + 1) 3 (seenA ns.length []) := ((row_of_made hown1).alloc _).only ho2 (fun h => by omega)
  have hO2 : Only (fun _ => False) w w2 := ((((Only.refl (fun _ => False) w).alloc _).grown hg1 (fun k e => by cases e)).alloc _).trans ho2 (fun i hi h => by omega)
  have hRR : RR ns rs (.slice (some ⟨gv, 0, none⟩) ns.length cap) most w (w.heap.size + 1) vq gq [] rs w2 := ⟨hbox, hrow, hQ2, hO2, by omega, by omega, .start HS.out, by simp⟩
  have HRR := Lib.hid hRR
  clear hown1 hg1 hat2 hbox hrow hO2 hRR hQ2 ho2
  go_wp2_with fail
  go_loopw [7, 8] (fun q n wr => ∃ (vo : Value) (g : Nat) (S T : List Nat), n = .int .i64 S.length ∧ vo = q ∧ RR ns rs (.slice (some ⟨gv, 0, none⟩) ns.length cap) most w (w.heap.size + 1) vo g S T wr) (fun q n _ => 5 * (ns.length - (intOf n).toNat) + sliceLen q)
  case atStart => exact ⟨_, gq, [], rs, rfl, rfl, HRR.out⟩
  case round =>
    obtain ⟨vo, g, S, T, rfl, rfl, hRR⟩ := hrel
    obtain ⟨off, qc, cur, hvo, hQI⟩ := hRR.que
    cases T with
    | nil =>
      subst hvo
      have hpos := HW.out.pos
      have s0 := (hRR.row.cell 0).trans (seenA_get _ _ hpos)
      have hsz : (seenA ns.length S).size = ns.length := by simp [seenA]
      have a1 : ((ns.length : Int) > 0) = True := by simp; omega
      have HRR := Lib.hid hRR
      clear hRR hQI
      have fin := fun W (hO : Only (fun _ => False) wr W) => (⟨S, rfl, HRR.out.bfs.done, HRR.out.only.trans hO (fun _ _ h => h)⟩ : RReachPost ns rs w (.returned (.tuple #[.int .i64 S.length, .bool (decide (0 ∈ S))])) W)
      have FIN := Lib.hid fin
      clear fin
      by_cases hin : 0 ∈ S
      · rw [if_pos hin] at s0
        rw [decide_eq_true hin] at FIN
        have HIN := Lib.hid hin
        clear hin
        go_wp2_with fail
        go_quiet (fail)
        go_wp2
        go_ret2
        exact FIN.out _ ((Only.refl _ _).drewN _)
      · rw [if_neg hin] at s0
        rw [decide_eq_false hin] at FIN
        have HIN := Lib.hid hin
        clear hin
        go_wp2_with fail
        go_quiet (fail)
        go_wp2
        go_ret2
        exact FIN.out _ ((Only.refl _ _).drewN _)
    | cons x T =>
      have c0 := hQI.cell (i := 0) (by simp)
      have hQ' : QAt wr vo g (x :: T) := hRR.que
      subst hvo
      simp only [List.getD_cons_zero, Nat.add_zero] at c0
      have hxN := hRR.bfs.lt x (by simp)
      have s0 := (hRR.row.cell x).trans (seenA_get _ _ hxN)
      have f0 := hRR.row.frozen x
      have HRR := Lib.hid hRR
      have HQ := Lib.hid hQ'
      clear hRR hQ' hQI
      have hlen : (x :: T).length = T.length + 1 := rfl
      by_cases hin : x ∈ S
      · rw [if_pos hin] at s0
        go_wp2_with (first | (refine wp_qtail _ rfl _ rfl _ g x T rfl HQ.out ?_; intro vt hQt) | fail)
        go_roundw
        case rel =>
          go_light
          exact ⟨vt, g, S, T, rfl, rfl, HRR.out.pop hin hQt⟩
        case measure =>
          have := hQt.len
          simp only [sliceLen, intOf] at *
          omega
      · rw [if_neg hin] at s0
        have hR1 := HR.out.keep0 HRR.out.only
        obtain ⟨g', cp', hv', _, hg, hc⟩ := hR1.node hxN
        have h := hv'
        simp only [Value.slice.injEq, Option.some.injEq, Addr.mk.injEq] at h
        obtain ⟨⟨rfl, _⟩, _, rfl⟩ := h
        have a0 : wr.cell? ⟨w.heap.size, 0, none⟩ = some (.slice (some ⟨gv, 0, none⟩) ns.length cap) := HRR.out.box.cell 0
        have q0 : wr.cell? ⟨gv, x * 7, none⟩ = some (.int .i64 (lvN ns x)) := hc.c0
        obtain ⟨x0, x1, x2, x3, hkn, q1, q2, q3, q4⟩ : ∃ x0 x1 x2 x3 : Nat, (∀ j, kidN ns x j = four x0 x1 x2 x3 j) ∧ wr.cell? ⟨gv, x * 7 + 2, none⟩ = some (.int .i64 x0) ∧ wr.cell? ⟨gv, x * 7 + 3, none⟩ = some (.int .i64 x1) ∧ wr.cell? ⟨gv, x * 7 + 4, none⟩ = some (.int .i64 x2) ∧ wr.cell? ⟨gv, x * 7 + 5, none⟩ = some (.int .i64 x3) := ⟨_, _, _, _, fun _ => rfl, hc.c2, hc.c3, hc.c4, hc.c5⟩
        have hgv : gv ≠ w.heap.size + 1 := by have := own_lt HR.out (k := gv) rfl; omega
        have hl1 := HRR.out.row.lt
        have HKN := Lib.hid hkn
        have hSl := HRR.out.bfs.ok.length
        have hSl2 : S.length + 1 ≤ ns.length := by
          have := (SOk.length (S := x :: S) ⟨List.nodup_cons.2 ⟨hin, HRR.out.bfs.ok.1⟩, fun k hk => by
            rcases List.mem_cons.1 hk with rfl | hk
            · exact hxN
            · exact HRR.out.bfs.ok.2 k hk⟩)
          simpa using this
        have HIN := Lib.hid hin
        clear hR1 hv' hc hkn hin
        by_cases hdeep : 2 < lvN ns x
        · have hd : ((2 : Int) < (lvN ns x : Int)) = True := by simp; omega
          go_wp2_with (first | (refine wp_qtail _ rfl _ rfl _ g x T rfl HQ.out ?_; intro vt hQt) | fail)
          have hI0 := RI.start HRR.out hxN (by omega) hQt
          have HI0 := Lib.hid hI0
          clear hI0
          go_loopw [7, 53] (fun q n wr => ∃ (vo : Value) (g : Nat) (j : Nat), n = .int .i64 j ∧ vo = q ∧ j ≤ 4 ∧ RI ns rs (.slice (some ⟨gv, 0, none⟩) ns.length cap) most w (w.heap.size + 1) vo g S x T j wr) (fun _ n _ => 4 - (intOf n).toNat)
          case atStart => exact ⟨vt, g, 0, rfl, rfl, by omega, HI0.out⟩
          case round =>
            obtain ⟨vo, g, j, rfl, rfl, hj4, hRI⟩ := hrel
            by_cases hj : j < 4
            · have hx := jdx4 x0 x1 x2 x3 j hj
              obtain ⟨k, hk⟩ : ∃ k, k = kidN ns x j := ⟨_, rfl⟩
              simp only [← HKN.out j, ← hk] at hx
              have hq := hRI.que.keep ((Only.refl (fun _ => False) wr).alloc (.cells #[.int .i64 k] 3)) (fun h => h)
              have hT : (T ++ (List.range j).map (kidN ns x)).length < 4294967296 := by
                have := hRI.len
                simp only [List.length_append, List.length_map, List.length_range]
                omega
              have hgl := hRI.row.lt
              have HRI := Lib.hid hRI
              have HQ2 := Lib.hid hq
              have HK := Lib.hid hk
              clear hRI hq hk
              go_wp2_with (first
                | (at_builtin; refine wp_qpush _ rfl _ _ rfl vo g _ rfl HQ2.out hT wr.heap.size k rfl (Blk.new _ _ _) ?_; intro v' g' w4 hQ4 ho4 hat4)
                | fail)
              go_roundw
              case rel =>
                go_light
                exact ⟨v', g', j + 1, by go_num, rfl, hj, HRI.out.next _ hgl (by rw [← HK.out]; exact hQ4) ho4 hat4⟩
              case measure => simp [intOf]; omega
            · obtain rfl : j = 4 := by omega
              have hDone := hRI.done HW.out HIN.out hdeep
              have HD := Lib.hid hDone
              clear hDone hRI
              go_wp2
              go_roundw
              case rel =>
                go_light
                exact ⟨vo, g, x :: S, _, by go_num, rfl, HD.out⟩
              case measure =>
                have := HD.out.que.len
                simp only [sliceLen, intOf, List.length_append, List.length_map, List.length_range] at *
                omega
        · have hd : ¬ (2 : Int) < (lvN ns x : Int) := by omega
          go_wp2_with (first | (refine wp_qtail _ rfl _ rfl _ g x T rfl HQ.out ?_; intro vt hQt) | fail)
          go_roundw
          case rel =>
            go_light
            exact ⟨vt, g, x :: S, T, by go_num, rfl, (RI.start HRR.out hxN (by omega) hQt).leaf HW.out HIN.out hdeep⟩
          case measure =>
            have := hQt.len
            simp only [sliceLen, intOf] at *
            omega
end Go.Proofs.Ytblhbfniomlfkaa
