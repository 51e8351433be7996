/- A filling made with a hand, by the reference: the walk. -/
import Derived.Test.YtkdncpglgdiicaaFill2
namespace Go.Proofs.Ytkdncpglgdiicaa
open Go Go.RowKit Go.Sort

theorem handAt_z (O : List Nat) (k : Nat) : handAt 0 O k = 0 := Nat.le_zero.1 (handAt_le 0 O k)
theorem fillY_succ (ds : List ND) (n : Nat) (O ch : List Nat) (h0 k : Nat) : fillY ds n O ch h0 (k + 1) = fillY ds n O ch h0 k ++ [(freeL ds n (layN n O (fillY ds n O ch h0 k)) (handAt h0 O (k + 1))).getD (ch.getD k 0 % (freeL ds n (layN n O (fillY ds n O ch h0 k)) (handAt h0 O (k + 1))).length) 0] := rfl

set_option maxRecDepth 100000 in
set_option maxHeartbeats 1000000 in
theorem l9Fill_any (n N : Nat) (ds : List ND) (ks O CH : List Nat) (fw : Bool) (h0 : Nat) (hh0 : h0 = if fw then 0 else N) (a1 a2 a3 a4 : Option Addr) (c1 c2 c3 c4 : Nat) (w : World) (h1 : Rd EDN w a1 ds) (h2 : Rd EN w a2 ks) (h3 : Rd EN w a3 O) (h4 : Rd EN w a4 CH) (hd : ∀ d ∈ ds, d.1 < d.2.1 ∧ d.2.1 < n ∧ d.2.2 ≤ 63) (hn : n ≤ 12) (hx : 0 < n) (hlen : ds.length ≤ 1000) (hkn : ks.length = n) (hN : N ≤ 63) (hO : O.Perm (mem N)) (hCH : CH.length = O.length) (hCB : ∀ x ∈ CH, x ≤ 9223372036854775807) :
    Calls Try.prog 107 #[.agg #[.int .i64 (n : Int), .slice a1 ds.length c1, .slice a2 ks.length c2], .int .i64 (N : Int), .slice a3 O.length c3, .slice a4 CH.length c4, .bool fw] w fun e w' => ∃ a c, e = .returned (.slice a (byCol (mem N) O (fillY ds n O CH h0 O.length)).length c) ∧ Own EN 3 w' w.heap.size a c (byCol (mem N) O (fillY ds n O CH h0 O.length)) ∧ Ext w w' := by
  have hm6 := mem_le6 hN
  have hOl := hO.length_eq
  have hO6 : ∀ x ∈ O, x < 6 := fun x hx => mem6 hN x (hO.mem_iff.1 hx)
  have hOn : O.Nodup := hO.nodup_iff.2 (mem_nodup' N)
  have HLAY := Lib.hid fun (Y : List Nat) b d w' (hx' : Ext w w') (hb : Rd EN w' b Y) (hYl : Y.length ≤ O.length) (hYn : ∀ x ∈ Y, x < n) => l9Lay_any n ds ks O Y a1 a2 a3 b c1 c2 c3 d w' (h1.ext hx') (h2.ext hx') (h3.ext hx') hb hlen (by omega) hYl (by omega) hkn (fun x hx => by rw [hkn]; exact hYn x hx) hO6
  have HCL := Lib.hid fun (K : List Nat) s b1 b2 d1 d2 w' (g1 : Rd EDN w' b1 ds) (g2 : Rd EN w' b2 K) (hK : K.length = n) (hK6 : ∀ k ∈ K, k ≤ 63) (hs : s ≤ 63) => l2Close_any n ds K s b1 b2 d1 d2 w' g1 g2 hd hn hx hlen hK hK6 hs
  have HCO := Lib.hid fun w' => l2Colours_any N w' hN
  have HPL := Lib.hid fun i (hi : i < O.length) v (hv : v = O[i]) w' (hx' : Ext w w') => l9Place_any O i hi hOn v hv a3 c3 w' (h3.ext hx') (by omega)
  have H3 := Lib.hid h3
  have H4 := Lib.hid h4
  have HO6 := Lib.hid hO6
  have HCHL := Lib.hid hCH
  have HCB := Lib.hid hCB
  have HPR := Lib.hid hO
  have HH0 := Lib.hid hh0
  have HKN := Lib.hid hkn
  have hOl6 : O.length ≤ 6 := by omega
  obtain ⟨L, hL⟩ : ∃ L, L = mem N := ⟨_, rfl⟩
  rw [← hL] at HCO HPR hm6 hOl
  rw [← hL]
  have HLm := Lib.hid hL
  have HOL := Lib.hid hOl
  clear hL hOl hO6 hOn h1 h2 h3 h4 hd hCH hCB hO hh0 hkn
  go_enter Try.func107, Try.ntmps107
  go_wp2_with fail
  obtain ⟨W0, hW0⟩ : ∃ W0, W0 = w.alloc (.cells #[.int .i64 (n : Int), .slice a1 ds.length c1, .slice a2 ks.length c2] 30) := ⟨_, rfl⟩
  rw [← hW0]
  have e0 : Ext w W0 := by rw [hW0]; exact (Ext.rf _).al _
  have hM : W0.heap[w.heap.size]? = some (.cells #[.int .i64 (n : Int), .slice a1 ds.length c1, .slice a2 ks.length c2] 30 (0, 0)) := by rw [hW0]; exact hp_at rfl
  have HZ : Hid (W0.heap.size = w.heap.size + 1) := by show _ = _; rw [hW0]; simp
  have hs1 : w.heap.size + 1 = W0.heap.size := HZ.out.symm
  rw [hs1]
  clear hW0 hs1
  go_loopw [13, 11, 12] (fun i h v wr => ∃ k : Nat, ∃ a c, k ≤ O.length ∧ i = .int .i64 (k : Int) ∧ h = .int .i64 (handAt N O k : Nat) ∧ v = .slice a (fillY ds n O CH h0 k).length c ∧ Own EN 3 wr W0.heap.size a c (fillY ds n O CH h0 k) ∧ Ext W0 wr) (fun i _ _ _ => O.length - (intOf i).toNat)
  case atStart => exact ⟨0, _, _, by omega, rfl, rfl, rfl, Own.empty (cur := #[]) (hp_at rfl) (Nat.le_refl _), (Ext.rf _).al _⟩
  case round =>
    obtain ⟨k, a, c, hk, rfl, rfl, rfl, oY, hx1⟩ := hrel
    have hYl := fillY_len ds n O CH h0 k
    by_cases hlt : k < O.length
    · have HY := Lib.hid (fillY_succ ds n O CH h0 k)
      have hYn := fillY_lt ds n O CH h0 k hx
      have HHA := Lib.hid (handAt_succ N O k hlt)
      have hhl := handAt_le N O k
      have hhl2 := handAt_le N O (k + 1)
      obtain ⟨Y, hYY⟩ : ∃ Y, Y = fillY ds n O CH h0 k := ⟨_, rfl⟩
      rw [← hYY] at HY hYl oY hYn
      rw [← hYY]
      have HYn := Lib.hid hYn
      clear hYY hYn
      -- the first set
      have HFS : Hid (handAt h0 O (k + 1) = if fw then 0 else handAt N O (k + 1)) := by
        show _ = _
        rw [HH0.out]
        cases fw
        · rfl
        · exact handAt_z _ _
      obtain ⟨ob, oo, rfl, hoc⟩ := (H3.out.ext (e0.tr hx1)).n (by omega)
      have q1 := hoc k hlt
      have ho6 := HO6.out O[k] (List.getElem_mem hlt)
      clear hoc
      have hchl : k < CH.length := by rw [HCHL.out]; exact hlt
      obtain ⟨cb, co, rfl, hcc⟩ := (H4.out.ext (e0.tr hx1)).n (by omega)
      have q2 := hcc k hchl
      have hcb := HCB.out CH[k] (List.getElem_mem hchl)
      clear hcc
      have HCG : Hid (CH.getD k 0 = CH[k]) := by show _ = _; rw [List.getD_eq_getElem?_getD, List.getElem?_eq_getElem hchl]; rfl
      obtain ⟨y, hy⟩ : ∃ y, y = O[k] := ⟨_, rfl⟩
      rw [← hy] at q1 ho6 HHA
      obtain ⟨z, hz⟩ : ∃ z, z = CH[k] := ⟨_, rfl⟩
      rw [← hz] at q2 hcb HCG
      obtain ⟨hd0, hhd⟩ : ∃ hd0, hd0 = handAt N O k := ⟨_, rfl⟩
      rw [← hhd] at HHA hhl
      rw [← hhd]
      obtain ⟨hd1, hhd1⟩ : ∃ hd1, hd1 = handAt N O (k + 1) := ⟨_, rfl⟩
      rw [← hhd1] at HHA HFS hhl2
      have HH1 := Lib.hid hhd1
      have HH2 := Lib.hid hhd
      have hp6 : 2 ^ y ≤ 2 ^ 6 := Nat.pow_le_pow_right (by decide) (by omega)
      have hB : bits BinOp.andNot IntKind.i64 (hd0 : Int) (wrap64 ((2 : Int) ^ y)) = (hd1 : Int) := by
        rw [wrap_pow y (by omega), bandNot_nat hd0 (2 ^ y) (by omega) (by omega), HHA.out]
      clear hy hz hhd hhd1 hp6
      obtain ⟨fs, hfs⟩ : ∃ fs, fs = handAt h0 O (k + 1) := ⟨_, rfl⟩
      rw [← hfs] at HFS HY
      clear hfs
      obtain ⟨FR, hFR⟩ : ∃ FR, FR = freeL ds n (layN n O Y) fs := ⟨_, rfl⟩
      have hFp : 0 < FR.length := by rw [hFR]; exact free_pos _ _ _ _ hx
      have hF12 : FR.length ≤ 12 := by
        rw [hFR]
        unfold freeL
        rw [← mem_rN ds n _ 0 (by omega)]
        exact Nat.le_trans (mem_len_le (rN_lt ds n _ 0) (by omega)) hn
      have HFR := Lib.hid hFR
      rw [← hFR] at HY
      clear hFR
      have hmod : (z : Int) % (FR.length : Int) = ((z % FR.length : Nat) : Int) := (Int.natCast_emod z FR.length).symm
      have hm0 : 0 ≤ (z : Int) % (FR.length : Int) := by rw [hmod]; omega
      have hm1 : (z : Int) % (FR.length : Int) < (FR.length : Int) := by rw [hmod]; have := Nat.mod_lt z hFp; omega
      have hm2 : ((z : Int) % (FR.length : Int)).toNat = z % FR.length := by rw [hmod]; omega
      clear hmod
      have hmlt : z % FR.length < FR.length := Nat.mod_lt _ hFp
      have HGF : Hid (FR.getD (z % FR.length) 0 = FR[z % FR.length]) := by show _ = _; rw [List.getD_eq_getElem?_getD, List.getElem?_eq_getElem hmlt]; rfl
      have HLL := HLAY.out Y
      rw [hYl] at HLL
      have HLAYK : Hid ((layN ks.length O Y).length = n ∧ (∀ z ∈ layN n O Y, z ≤ 63) ∧ layN ks.length O Y = layN n O Y) := by
        refine ⟨by rw [layN_len, HKN.out], layN_le n O Y HO6.out, by rw [HKN.out]⟩
      have HL2 := Lib.hid HLL
      clear HLL
      obtain ⟨hM0, hM1, hM2, _, _, _⟩ := blk3 (hx1.bk hM)
      rw [hYl]
      cases fw
      · have HF2 : Hid (fs = hd1) := by show _ = _; rw [HFS.out]; rfl
        have hfs63 : hd1 ≤ 63 := by omega
        go_wp2_with fail
        refine (HL2.out a c _ (e0.tr hx1) oY.rd (by omega) HYn.out).mono ?_
        rintro e w2 ⟨p1, r1, p2, r2, rfl, m1, m2, _, x2⟩
        rw [HLAYK.out.2.2] at m2
        have hkl2 : (layN ks.length O Y).length = (layN n O Y).length := by rw [HLAYK.out.2.2]
        rw [hkl2]
        clear hkl2
        go_wp2_with fail
        refine (HCL.out (layN n O Y) hd1 p1 p2 r1 r2 _ m1.rd m2.rd (by rw [← HLAYK.out.2.2]; exact HLAYK.out.1) HLAYK.out.2.1 (by omega)).mono ?_
        rintro e w3 ⟨b, d, rfl, oF, x3⟩
        rw [← HF2.out, ← HFR.out] at oF
        have hfl : (freeL ds n (layN n O Y) hd1).length = FR.length := by rw [HFR.out, HF2.out]
        rw [hfl]
        have hx3 := (hx1.tr x2).tr x3
        have oY3 := (oY.ext x2).ext x3
        obtain ⟨fb, fo, rfl, hfc⟩ := oF.rd.n hFp
        have q3 := hfc _ hmlt
        have q2' := (x2.tr x3).cl q2
        clear hfc hM0 hM1 hM2 m1 m2 x2 x3 oY q1 q2 hfl
        obtain ⟨v, hv⟩ : ∃ v, v = FR[z % FR.length] := ⟨_, rfl⟩
        rw [← hv] at q3 HGF
        clear hv
        have HO := Lib.hid oY3
        clear oY3
        go_wp2_with (at_builtin; refine wpList_app elemN rfl _ _ rfl [v] rfl rfl (HO.out.al _) hYl.symm (Rd.one _ _) rfl ?_ ?_ ?_; rotate_left 2)
        · intro aa' c4' w4 h4' g4
          have hx4 : Ext W0 w4 := (hx3.al _).gr g4 (HO.out.al _) (Nat.le_refl _)
          go_wp2_with fail
          go_roundw
          case rel => exact ⟨k + 1, aa', c4', by omega, by go_num, by rw [HH1.out], by rw [HY.out, HCG.out, HGF.out, List.length_append, hYl]; rfl, by rw [HY.out, HCG.out, HGF.out]; exact h4', hx4⟩
          case measure => simp [intOf]; omega
        · simp; (try omega)
        · simp; exact Nat.le_succ_of_le hx3.size
      · have HF2 : Hid (fs = 0) := by show _ = _; rw [HFS.out]; rfl
        go_wp2_with fail
        refine (HL2.out a c _ (e0.tr hx1) oY.rd (by omega) HYn.out).mono ?_
        rintro e w2 ⟨p1, r1, p2, r2, rfl, m1, m2, _, x2⟩
        rw [HLAYK.out.2.2] at m2
        have hkl2 : (layN ks.length O Y).length = (layN n O Y).length := by rw [HLAYK.out.2.2]
        rw [hkl2]
        clear hkl2
        go_wp2_with fail
        refine (HCL.out (layN n O Y) 0 p1 p2 r1 r2 _ m1.rd m2.rd (by rw [← HLAYK.out.2.2]; exact HLAYK.out.1) HLAYK.out.2.1 (by omega)).mono ?_
        rintro e w3 ⟨b, d, rfl, oF, x3⟩
        rw [← HF2.out, ← HFR.out] at oF
        have hfl : (freeL ds n (layN n O Y) 0).length = FR.length := by rw [HFR.out, HF2.out]
        rw [hfl]
        have hx3 := (hx1.tr x2).tr x3
        have oY3 := (oY.ext x2).ext x3
        obtain ⟨fb, fo, rfl, hfc⟩ := oF.rd.n hFp
        have q3 := hfc _ hmlt
        have q2' := (x2.tr x3).cl q2
        clear hfc hM0 hM1 hM2 m1 m2 x2 x3 oY q1 q2 hfl
        obtain ⟨v, hv⟩ : ∃ v, v = FR[z % FR.length] := ⟨_, rfl⟩
        rw [← hv] at q3 HGF
        clear hv
        have HO := Lib.hid oY3
        clear oY3
        go_wp2_with (at_builtin; refine wpList_app elemN rfl _ _ rfl [v] rfl rfl (HO.out.al _) hYl.symm (Rd.one _ _) rfl ?_ ?_ ?_; rotate_left 2)
        · intro aa' c4' w4 h4' g4
          have hx4 : Ext W0 w4 := (hx3.al _).gr g4 (HO.out.al _) (Nat.le_refl _)
          go_wp2_with fail
          go_roundw
          case rel => exact ⟨k + 1, aa', c4', by omega, by go_num, by rw [HH1.out], by rw [HY.out, HCG.out, HGF.out, List.length_append, hYl]; rfl, by rw [HY.out, HCG.out, HGF.out]; exact h4', hx4⟩
          case measure => simp [intOf]; omega
        · simp; (try omega)
        · simp; exact Nat.le_succ_of_le hx3.size
    · have hkO : k = O.length := by omega
      subst hkO
      obtain ⟨Y, hYY⟩ : ∃ Y, Y = fillY ds n O CH h0 O.length := ⟨_, rfl⟩
      rw [← hYY] at oY hYl
      rw [← hYY]
      have HYY := Lib.hid hYY
      have HYL := Lib.hid hYl
      rw [hYl]
      clear hYY hYl
      have HPO : Hid (∀ c ∈ L, c ∈ O) := fun c hc => HPR.out.mem_iff.2 hc
      have hLl : L.length ≤ 6 := hm6
      obtain ⟨wo, rfl⟩ : ∃ wo : World, wo = wr := ⟨_, rfl⟩
      go_wp2_with fail
      refine (HCO.out _).mono ?_
      rintro e w2 ⟨lb, ld, rfl, oL, x2⟩
      have oE : Own EN 3 w2 wo.heap.size (some ⟨wo.heap.size, 0, none⟩) 0 [] := Own.empty (cur := #[]) (x2.bk (hp_at rfl)) (Nat.le_refl _)
      have hap : Apart (some ⟨wo.heap.size, 0, none⟩) lb := Apart.older (n := wo.heap.size + 1) (by intro p hp; cases hp; exact Nat.lt_succ_self _) (fun p hp => by have := (oL.blk p hp).1; simpa using this)
      have xr : Ext wo w2 := ((Ext.rf wo).al (.cells #[] 3)).tr x2
      have oL := oL.mono (by simp : wo.heap.size ≤ _)
      have HYo := Lib.hid oY
      clear x2 oY
      go_wp2_with fail
      go_loopw [19, 17] (fun i v wq => ∃ p : Nat, ∃ b d, p ≤ L.length ∧ i = .int .i64 (p : Int) ∧ v = .slice b p d ∧ Own EN 3 wq wo.heap.size b d ((L.take p).map fun c => Y.getD (plc O c) 0) ∧ Own EN 3 wq wo.heap.size lb ld L ∧ Apart b lb ∧ Ext wo wq) (fun i _ _ => L.length - (intOf i).toNat)
      case atStart => exact ⟨0, _, _, by omega, rfl, rfl, by simpa using oE, oL, hap, xr⟩
      case round =>
        clear oE oL hap xr
        obtain ⟨p, b, d, hp, rfl, rfl, oE, oL, hap, xr⟩ := hrel
        have hpl : ((L.take p).map fun c => Y.getD (plc O c) 0).length = p := by simp; omega
        by_cases hpt : p < L.length
        · have HS : Hid ((L.take (p + 1)).map (fun c => Y.getD (plc O c) 0) = (L.take p).map (fun c => Y.getD (plc O c) 0) ++ [Y.getD (plc O L[p]) 0]) := by
            show _ = _
            rw [List.take_succ_eq_append_getElem hpt, List.map_append]
            rfl
          obtain ⟨E, hE⟩ : ∃ E, E = (L.take p).map fun c => Y.getD (plc O c) 0 := ⟨_, rfl⟩
          rw [← hE] at HS oE hpl
          clear hE
          obtain ⟨lb', lo', rfl, hlc⟩ := oL.rd.n (by omega)
          have q1 := hlc p hpt
          clear hlc
          have hcO := HPO.out L[p] (List.getElem_mem hpt)
          have hil := plc_lt hcO
          have hgi := get_plc hcO
          obtain ⟨y, hy⟩ : ∃ y, y = L[p] := ⟨_, rfl⟩
          rw [← hy] at q1 HS
          simp only [← hy] at hil hgi
          obtain ⟨i, hi⟩ : ∃ i, i = plc O y := ⟨_, rfl⟩
          rw [← hi] at HS hil
          simp only [← hi] at hgi
          have HP2 := Lib.hid (HPL.out i hil y hgi.symm)
          clear hy hcO hgi hi
          have hiY : i < Y.length := by rw [HYL.out]; exact hil
          obtain ⟨yb, yo, hyb, _, _, q2, _⟩ := (HYo.out.ext xr).nAt i hiY
          have HGY : Hid (Y.getD i 0 = Y[i]) := by show _ = _; rw [List.getD_eq_getElem?_getD, List.getElem?_eq_getElem hiY]; rfl
          obtain ⟨v, hv⟩ : ∃ v, v = Y[i] := ⟨_, rfl⟩
          rw [← hv] at q2 HGY
          clear hv hiY
          subst hyb
          go_wp2_with fail
          refine (HP2.out _ (e0.tr (hx1.tr xr))).mono ?_
          rintro e w3 ⟨rfl, rfl⟩
          have HO := Lib.hid oE
          have HOL := Lib.hid oL
          have HAP := Lib.hid hap
          clear oE oL hap q1
          go_wp2_with (at_builtin; refine wpList_app' elemN rfl _ _ rfl [v] rfl rfl (HO.out.al _) hpl.symm (Rd.one _ _) rfl ?_ ?_ ?_; rotate_left 2)
          · intro aa' c4' w4 h4' g4 m4
            have hx4 : Ext wo w4 := (xr.al _).gr g4 (HO.out.al _) (Nat.le_refl _)
            have oL4 := (HOL.out.al _).keptA g4 HAP.out.symm
            have ha4 : Apart aa' (some ⟨lb', lo', none⟩) := (Apart.moved HAP.out.symm m4 (fun p hp => by have := (HOL.out.blk p hp).2; simp; omega)).symm
            clear g4 m4
            go_wp2_with fail
            go_roundw
            case rel => exact ⟨p + 1, aa', c4', by omega, by go_num, rfl, by rw [HS.out, HGY.out]; exact h4', oL4, ha4, hx4⟩
            case measure => simp [intOf]; omega
          · simp; (try omega)
          · simp; exact Nat.le_succ_of_le xr.size
        · have HE : Hid ((L.take p).map (fun c => Y.getD (plc O c) 0) = byCol L O Y) := by
            show _ = _
            rw [List.take_of_length_le (by omega)]
            rfl
          have HPE : Hid (p = (byCol L O Y).length) := by show _ = _; rw [← HE.out, hpl]
          rw [HE.out] at oE
          clear hpl
          go_wp2_with fail
          go_ret
          exact ⟨b, d, by rw [← HYY.out, ← HPE.out]; rfl, by rw [← HYY.out]; exact oE.mono (Nat.le_trans e0.size hx1.size), e0.tr (hx1.tr xr)⟩

end Go.Proofs.Ytkdncpglgdiicaa
