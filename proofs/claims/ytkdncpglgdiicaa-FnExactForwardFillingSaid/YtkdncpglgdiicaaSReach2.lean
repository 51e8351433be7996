/- What the reference reaches: the walk. -/
import Derived.Test.YtkdncpglgdiicaaPut
namespace Go.Proofs.Ytkdncpglgdiicaa
open Go Go.RowKit Go.Sort

set_option maxRecDepth 100000 in
set_option maxHeartbeats 2000000 in
theorem l2Reach_any (n x set : Nat) (ds : List ND) (a a2 : Option Addr) (c n2 c2 : Nat) (w : World) (hr : Rd EDN w a ds) (hd : ∀ d ∈ ds, d.1 < d.2.1 ∧ d.2.1 < n ∧ d.2.2 ≤ 63) (hn : n ≤ 12) (hx : x < n) (hlen : ds.length ≤ 1000) (hset : set ≤ 63) :
    Calls Try.prog 151 #[.agg #[.int .i64 (n : Int), .slice a ds.length c, .slice a2 n2 c2], .int .i64 (x : Int), .int .i64 (set : Int)] w fun e w' => ∃ a' c', e = .returned (.slice a' (rl ds n set x).length c') ∧ Own EN 3 w' w.heap.size a' c' (rl ds n set x) ∧ Ext w w' := by
  have HD := Lib.hid hd
  clear hd
  go_enter Try.func151, Try.ntmps151
  go_wp2_with fail
  obtain ⟨W1, hW1⟩ : ∃ W1, W1 = w.alloc (.cells #[.int .i64 (n : Int), .slice a ds.length c, .slice a2 n2 c2] 30) := ⟨_, rfl⟩
  rw [← hW1]
  have e1 : Ext w W1 := by rw [hW1]; exact (Ext.rf _).al _
  have f0 : W1.cell? ⟨w.heap.size, 0, none⟩ = some (.int .i64 (n : Int)) := by rw [hW1]; go_simp
  have f1 : W1.cell? ⟨w.heap.size, 1, none⟩ = some (.slice a ds.length c) := by rw [hW1]; go_simp
  have hsz : W1.heap.size = w.heap.size + 1 := by rw [hW1]; simp
  have o1 : Own EN 3 (W1.alloc (.cells #[.int .i64 (x : Int)] 3)) W1.heap.size (some ⟨W1.heap.size, 0, none⟩) 1 [x] :=
    Own.made (E := EN) (e := 3) (base := W1.heap.size) (c := 1) (l := [x]) W1 #[.int .i64 (x : Int)] (Nat.le_refl _) (by decide) (by simp) (by simp [EN]) (by simp [EN])
  have o2 : Own EN 3 ((W1.alloc (.cells #[.int .i64 (x : Int)] 3)).alloc (.cells #[.int .i64 (x : Int)] 3)) W1.heap.size (some ⟨W1.heap.size + 1, 0, none⟩) 1 [x] := by
    have := Own.made (E := EN) (e := 3) (base := W1.heap.size) (c := 1) (l := [x]) (W1.alloc (.cells #[.int .i64 (x : Int)] 3)) #[.int .i64 (x : Int)] (by simp) (by decide) (by simp) (by simp [EN]) (by simp [EN])
    simpa using this
  clear hW1
  go_loopw [7, 8, 9] (fun o t q wr => ∃ k : Nat, ∃ ao co, ∃ out : List Nat, ∃ al cl, ∃ l : List Nat, o = .slice ao out.length co ∧ t = .slice al l.length cl ∧ q = .int .i64 k ∧ Own EN 3 wr W1.heap.size ao co out ∧ Own EN 3 wr W1.heap.size al cl l ∧ Apart ao al ∧ Ext W1 wr ∧ SInv ds n set x out l k 0) (fun _ _ q _ => n - (intOf q).toNat)
  case atStart =>
    refine ⟨0, some ⟨W1.heap.size, 0, none⟩, 1, [x], some ⟨W1.heap.size + 1, 0, none⟩, 1, [x], by rw [hsz]; rfl, by rw [hsz]; rfl, rfl, o1.al _, o2, ?_, ((Ext.rf _).al _).al _, SInv.start hx⟩
    intro p q hp hq
    cases hp; cases hq
    simp
  case round =>
    obtain ⟨k, ao, co, out, al, cl, l, rfl, rfl, rfl, hoo, hol, hap, hx0, hinv⟩ := hrel
    have HI := Lib.hid hinv
    clear hinv o1 o2
    have hl12 := HI.out.len
    by_cases hlt : k < l.length
    · go_wp2_with fail
      obtain ⟨wo, rfl⟩ : ∃ wo : World, wo = wr := ⟨_, rfl⟩
      go_loopw [7, 8, 10] (fun o t q wr => ∃ i : Nat, ∃ ao co, ∃ out : List Nat, ∃ al cl, ∃ l : List Nat, i ≤ ds.length ∧ o = .slice ao out.length co ∧ t = .slice al l.length cl ∧ q = .int .i64 i ∧ Own EN 3 wr W1.heap.size ao co out ∧ Own EN 3 wr W1.heap.size al cl l ∧ Apart ao al ∧ Ext W1 wr ∧ SInv ds n set x out l k i ∧ k < l.length) (fun _ _ q _ => ds.length - (intOf q).toNat)
      case atStart => exact ⟨0, ao, co, out, al, cl, l, by omega, rfl, rfl, rfl, hoo, hol, hap, hx0, HI.out, hlt⟩
      case round =>
        clear hoo hol hap hx0 HI hl12 hlt
        obtain ⟨i, ao, co, out, al, cl, l, hi, rfl, rfl, rfl, hoo, hol, hap, hx1, hinv, hlt⟩ := hrel
        have HI := Lib.hid hinv
        clear hinv
        have hl12 := HI.out.len
        have hol2 := HI.out.outlen
        have g0 := hx1.cl f0
        have g1 := hx1.cl f1
        clear f0 f1
        by_cases hid : i < ds.length
        · obtain ⟨b, off, rfl, hc⟩ := hr.dn (by omega)
          have q1 := (e1.tr hx1).cl (hc i hid).1
          have q2 := (e1.tr hx1).cl (hc i hid).2.1
          have q3 := (e1.tr hx1).cl (hc i hid).2.2
          have hdk := HD.out ds[i] (List.getElem_mem hid)
          have HSK : Hid ((opn set ds[i].2.2 = true → (ds[i].1 = l[k] → ds[i].2.1 ∈ l) ∧ (ds[i].2.1 = l[k] → ds[i].1 ∈ l)) → SInv ds n set x out l k (i + 1)) := HI.out.skip hlt hid
          have HAD : Hid (∀ y, y ∉ l → opn set ds[i].2.2 = true → (ds[i].1 = l[k] ∧ ds[i].2.1 = y ∨ ds[i].2.1 = l[k] ∧ ds[i].1 = y) → SInv ds n set x (putN out y) (l ++ [y]) k (i + 1)) :=
            fun y hy ho ht => HI.out.add hlt hid (fun d hm => by have := HD.out d hm; omega) hy ho ht
          have hz12 : l[k] < 12 := by have := HI.out.lt _ (List.getElem_mem hlt); omega
          obtain ⟨lb, lo, hal, hlc⟩ := hol.rd.n (by omega)
          have q4 := hlc k hlt
          clear hc hlc
          obtain ⟨d, hde⟩ : ∃ d, d = ds[i] := ⟨_, rfl⟩
          obtain ⟨z, hze⟩ : ∃ z, z = l[k] := ⟨_, rfl⟩
          rw [← hde] at q1 q2 q3 hdk HSK HAD
          rw [← hze] at q4 hz12 HSK HAD
          clear hde hze
          subst hal
          obtain ⟨hd1, hd2, hd3⟩ := hdk
          go_wp2_with fail
          obtain ⟨W2, hW2⟩ : ∃ W2, W2 = wr.alloc (.cells #[.int .i64 (d.1 : Int), .int .i64 (d.2.1 : Int), .int .i64 (d.2.2 : Int)] 140) := ⟨_, rfl⟩
          rw [← hW2]
          have e2 : Ext wr W2 := by rw [hW2]; exact (Ext.rf _).al _
          have p0 : W2.cell? ⟨wr.heap.size, 0, none⟩ = some (.int .i64 (d.1 : Int)) := by rw [hW2]; go_simp
          have p1 : W2.cell? ⟨wr.heap.size, 1, none⟩ = some (.int .i64 (d.2.1 : Int)) := by rw [hW2]; go_simp
          have p2 : W2.cell? ⟨wr.heap.size, 2, none⟩ = some (.int .i64 (d.2.2 : Int)) := by rw [hW2]; go_simp
          have p3 := e2.cl q4
          clear hW2 q1 q2 q3 q4
          have k0 := cell_regrown p0
          have k1 := cell_regrown p1
          have k2 := cell_regrown p2
          have k3 := cell_regrown p3
          cases ho : opn set d.2.2
          · refine quietExt (by kernel_rfl) (by kernel_rfl) ?_
            repeat (first | go_big_quiet_step ((go_at_call 190; exact callSame (l2Has_any _ _ _ hset (by omega)))) | quiet_step ((go_at_call 190; exact callSame (l2Has_any _ _ _ hset (by omega)))))
            refine wpQuiet_nil ?_
            intro w2 hx2
            go_wp2_with fail
            go_roundw
            case rel => exact ⟨i + 1, ao, co, out, some ⟨lb, lo, none⟩, cl, l, by omega, rfl, rfl, by go_num, hoo.ext (e2.tr hx2), hol.ext (e2.tr hx2), hap, hx1.tr (e2.tr hx2), HSK.out (fun h => by rw [ho] at h; cases h), hlt⟩
            case measure => simp [intOf]; omega
          · by_cases h1 : d.1 = z
            · have h1' := ineq h1
              have hw1 : IntKind.i64.wrap ((d.1 : Int) + (d.2.1 : Int)) = (d.1 : Int) + (d.2.1 : Int) := IntWalk.i64_in _ (by omega)
              have hw2 : IntKind.i64.wrap ((d.1 : Int) + (d.2.1 : Int) - (z : Int)) = (d.2.1 : Int) := by
                rw [IntWalk.i64_in _ (by omega)]
                omega
              have HZ := Lib.hid h1
              clear h1
              have HW1 := Lib.hid hw1
              have HW2 := Lib.hid hw2
              clear hw1 hw2
              refine quietExt (by kernel_rfl) (by kernel_rfl) ?_
              repeat (first | go_big_quiet_step ((go_at_call 190; exact callSame (l2Has_any _ _ _ hset (by omega)))) | quiet_step ((go_at_call 190; exact callSame (l2Has_any _ _ _ hset (by omega)))))
              refine wpQuiet_nil ?_
              intro w2 hx2
              go_wp2_with fail
              have k0 := cell_regrown (hx2.cl p0)
              have k1 := cell_regrown (hx2.cl p1)
              have k3 := cell_regrown (hx2.cl p3)
              have hw1 := HW1.out
              have hw2 := HW2.out
              refine quietExt (by kernel_rfl) (by kernel_rfl) ?_
              repeat (first | go_big_quiet_step (fail) | quiet_step (fail))
              refine wpQuiet_nil ?_
              intro w3 hx3
              clear k0 k1 k3 hw1 hw2
              have hxx : Ext wr w3 := (e2.tr hx2).tr hx3
              by_cases hy : d.2.1 ∈ out
              · have hyd : decide (d.2.1 ∈ out) = true := by simpa using hy
                go_wp2_with (go_at_call 75; refine (l1Has_any out _ _ _ _ (hoo.ext hxx).rd (by omega)).mono ?_; rintro e w' ⟨rfl, rfl⟩)
                go_roundw
                case rel => exact ⟨i + 1, ao, co, out, some ⟨lb, lo, none⟩, cl, l, by omega, rfl, rfl, by go_num, hoo.ext hxx, hol.ext hxx, hap, hx1.tr hxx, HSK.out (fun _ => ⟨fun h1 => by first | exact (HI.out.same _).1 hy | (exfalso; have := HZ.out; omega), fun h1 => by first | exact (HI.out.same _).1 hy | (exfalso; have := HZ.out; omega)⟩), hlt⟩
                case measure => simp [intOf]; omega
              · have hyd : decide (d.2.1 ∈ out) = false := by simpa using hy
                have HY := Lib.hid hy
                clear hy
                have hopos := HI.out.outpos
                go_wp2_with (first | (go_at_call 75; refine (l1Has_any out _ _ _ _ (hoo.ext hxx).rd (by omega)).mono ?_; rintro e w' ⟨rfl, rfl⟩) | (go_at_call 191; refine (l1Put_any out _ _ _ _ (hoo.ext hxx).rd (by omega) hoo.le HY.out hopos).mono ?_; rintro e w4 ⟨a4, c4, rfl, o4, hx4⟩) | (at_builtin; refine wpList_app' elemN rfl _ _ rfl [d.2.1] rfl rfl (((hol.ext hxx).ext hx4).al _) rfl (Rd.one _ _) rfl ?_ ?_ ?_; rotate_left 2))
                · intro aa' c5 w5 h1 h2 h3
                  have hx5 : Ext W1 w5 := Ext.gr (a := some ⟨lb, lo, none⟩) (((hx1.tr hxx).tr hx4).al _) h2 (((hol.ext hxx).ext hx4).al _) (Nat.le_refl _)
                  have hapn : Apart (some ⟨lb, lo, none⟩) a4 := Apart.older (fun p hp => (hol.blk p hp).2) (fun p hp => Nat.le_trans hxx.size (o4.blk p hp).1)
                  have o5 := (o4.al (.cells #[.int .i64 (d.2.1 : Int)] 3)).keptA (b := some ⟨lb, lo, none⟩) h2 hapn.symm
                  have hap5 : Apart a4 aa' := hapn.symm.moved h3 (fun p hp => by have := ((o4.al (.cells #[.int .i64 (d.2.1 : Int)] 3)).blk p hp).2; simpa using this)
                  go_wp2_with fail
                  go_roundw
                  case rel => exact ⟨i + 1, a4, c4, putN out d.2.1, aa', c5, l ++ [d.2.1], by omega, rfl, by simp, by go_num, o5.mono (Nat.le_trans (hx1.tr hxx).size (Nat.le_refl _)), by rw [hsz]; exact h1, hap5, hx5, HAD.out d.2.1 (fun hh => HY.out ((HI.out.same _).2 hh)) ho (by first | exact .inl ⟨HZ.out, rfl⟩ | exact .inr ⟨HZ.out, rfl⟩), by rw [List.length_append]; omega⟩
                  case measure => simp [intOf]; omega
                · simp; omega
                · simp; exact Nat.le_succ_of_le (((hx1.tr hxx).tr hx4).size)
            · have h1' := inne h1
              by_cases h2 : d.2.1 = z
              · have h2' := ineq h2
                have hw1 : IntKind.i64.wrap ((d.1 : Int) + (d.2.1 : Int)) = (d.1 : Int) + (d.2.1 : Int) := IntWalk.i64_in _ (by omega)
                have hw2 : IntKind.i64.wrap ((d.1 : Int) + (d.2.1 : Int) - (z : Int)) = (d.1 : Int) := by
                  rw [IntWalk.i64_in _ (by omega)]
                  omega
                have HZ := Lib.hid h2
                clear h2 h1
                have HW1 := Lib.hid hw1
                have HW2 := Lib.hid hw2
                clear hw1 hw2
                refine quietExt (by kernel_rfl) (by kernel_rfl) ?_
                repeat (first | go_big_quiet_step ((go_at_call 190; exact callSame (l2Has_any _ _ _ hset (by omega)))) | quiet_step ((go_at_call 190; exact callSame (l2Has_any _ _ _ hset (by omega)))))
                refine wpQuiet_nil ?_
                intro w2 hx2
                go_wp2_with fail
                have k0 := cell_regrown (hx2.cl p0)
                have k1 := cell_regrown (hx2.cl p1)
                have k3 := cell_regrown (hx2.cl p3)
                have hw1 := HW1.out
                have hw2 := HW2.out
                refine quietExt (by kernel_rfl) (by kernel_rfl) ?_
                repeat (first | go_big_quiet_step (fail) | quiet_step (fail))
                refine wpQuiet_nil ?_
                intro w3 hx3
                clear k0 k1 k3 hw1 hw2
                have hxx : Ext wr w3 := (e2.tr hx2).tr hx3
                by_cases hy : d.1 ∈ out
                · have hyd : decide (d.1 ∈ out) = true := by simpa using hy
                  go_wp2_with (go_at_call 75; refine (l1Has_any out _ _ _ _ (hoo.ext hxx).rd (by omega)).mono ?_; rintro e w' ⟨rfl, rfl⟩)
                  go_roundw
                  case rel => exact ⟨i + 1, ao, co, out, some ⟨lb, lo, none⟩, cl, l, by omega, rfl, rfl, by go_num, hoo.ext hxx, hol.ext hxx, hap, hx1.tr hxx, HSK.out (fun _ => ⟨fun h1 => by first | exact (HI.out.same _).1 hy | (exfalso; have := HZ.out; omega), fun h1 => by first | exact (HI.out.same _).1 hy | (exfalso; have := HZ.out; omega)⟩), hlt⟩
                  case measure => simp [intOf]; omega
                · have hyd : decide (d.1 ∈ out) = false := by simpa using hy
                  have HY := Lib.hid hy
                  clear hy
                  have hopos := HI.out.outpos
                  go_wp2_with (first | (go_at_call 75; refine (l1Has_any out _ _ _ _ (hoo.ext hxx).rd (by omega)).mono ?_; rintro e w' ⟨rfl, rfl⟩) | (go_at_call 191; refine (l1Put_any out _ _ _ _ (hoo.ext hxx).rd (by omega) hoo.le HY.out hopos).mono ?_; rintro e w4 ⟨a4, c4, rfl, o4, hx4⟩) | (at_builtin; refine wpList_app' elemN rfl _ _ rfl [d.1] rfl rfl (((hol.ext hxx).ext hx4).al _) rfl (Rd.one _ _) rfl ?_ ?_ ?_; rotate_left 2))
                  · intro aa' c5 w5 h1 h2 h3
                    have hx5 : Ext W1 w5 := Ext.gr (a := some ⟨lb, lo, none⟩) (((hx1.tr hxx).tr hx4).al _) h2 (((hol.ext hxx).ext hx4).al _) (Nat.le_refl _)
                    have hapn : Apart (some ⟨lb, lo, none⟩) a4 := Apart.older (fun p hp => (hol.blk p hp).2) (fun p hp => Nat.le_trans hxx.size (o4.blk p hp).1)
                    have o5 := (o4.al (.cells #[.int .i64 (d.1 : Int)] 3)).keptA (b := some ⟨lb, lo, none⟩) h2 hapn.symm
                    have hap5 : Apart a4 aa' := hapn.symm.moved h3 (fun p hp => by have := ((o4.al (.cells #[.int .i64 (d.1 : Int)] 3)).blk p hp).2; simpa using this)
                    go_wp2_with fail
                    go_roundw
                    case rel => exact ⟨i + 1, a4, c4, putN out d.1, aa', c5, l ++ [d.1], by omega, rfl, by simp, by go_num, o5.mono (Nat.le_trans (hx1.tr hxx).size (Nat.le_refl _)), by rw [hsz]; exact h1, hap5, hx5, HAD.out d.1 (fun hh => HY.out ((HI.out.same _).2 hh)) ho (by first | exact .inl ⟨HZ.out, rfl⟩ | exact .inr ⟨HZ.out, rfl⟩), by rw [List.length_append]; omega⟩
                    case measure => simp [intOf]; omega
                  · simp; omega
                  · simp; exact Nat.le_succ_of_le (((hx1.tr hxx).tr hx4).size)
              · have h2' := inne h2
                refine quietExt (by kernel_rfl) (by kernel_rfl) ?_
                repeat (first | go_big_quiet_step ((go_at_call 190; exact callSame (l2Has_any _ _ _ hset (by omega)))) | quiet_step ((go_at_call 190; exact callSame (l2Has_any _ _ _ hset (by omega)))))
                refine wpQuiet_nil ?_
                intro w2 hx2
                go_wp2_with fail
                go_roundw
                case rel => exact ⟨i + 1, ao, co, out, some ⟨lb, lo, none⟩, cl, l, by omega, rfl, rfl, by go_num, hoo.ext (e2.tr hx2), hol.ext (e2.tr hx2), hap, hx1.tr (e2.tr hx2), HSK.out (fun _ => ⟨fun h => absurd h h1, fun h => absurd h h2⟩), hlt⟩
                case measure => simp [intOf]; omega
        · have HNX : Hid (SInv ds n set x out l (k + 1) 0) := by
            have hi' : i = ds.length := by omega
            have := HI.out
            rw [hi'] at this
            exact this.next hlt
          go_wp2_with fail
          go_roundw
          case rel => exact ⟨k + 1, ao, co, out, al, cl, l, rfl, rfl, by go_num, hoo, hol, hap, hx1, HNX.out⟩
          case measure => simp [intOf]; omega
    · have HE : Hid (out = rl ds n set x) := HI.out.end_ (by omega)
      go_wp2_with fail
      go_ret
      refine ⟨ao, co, ?_, ?_, e1.tr hx0⟩
      · rw [← HE.out]; rfl
      · rw [← HE.out]; exact hoo.mono e1.size

end Go.Proofs.Ytkdncpglgdiicaa
