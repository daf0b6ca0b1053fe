/- StripKeeps: the walk. -/
import Derived.Test.YtbnflbkaogpnbaaQB
import Derived.Test.YtbnflbkaogpnbaaSA
import Derived.Deep.AppendLies
namespace Go.Proofs.Ytbnflbkaogpnbaa
open Go.RowKit

def KsRel (w : World) (z a T q : Nat) (cp : List Part) (e v i : Value) (wr : World) : Prop :=
  ∃ (k : Nat) (s : St) (d : Dev) (F : List Nat), i = .int .i64 k ∧ k ≤ T ∧ SdF w wr z a F s d (texts (cp.take k)) ∧ s.first = 2 ∧ s.many = 60 ∧ d.secs.length = 64 ∧ d.works ≤ 320 * k ∧ s.fin ≤ 307 * k ∧
    RowIn w.heap.size wr 34 F v (min k q) ((cp.take (min k q)).map Part.val) ∧ e = .int .i64 ((recs (texts (cp.take (min k q)))).length : Nat) ∧
    (q < k → ∃ sec, d.Sure sec ∧ (∀ b ∈ sec, b.length = 128) ∧ (sec.drop 2).flatten.take (recs (texts (cp.take q))).length = recs (texts (cp.take q)))

set_option maxHeartbeats 4000000 in
set_option maxRecDepth 100000 in
theorem stripKeeps_walk (w : World) (A : Option Addr) (n c : Nat) (l : List Part) (hl : BytessAt w A n c l) (a1 : Int) (h1 : I64 a1) (KA : Option Addr) (kn kc : Nat) (keep : List Int) (hkp : SlAt w KA kn kc (keep.map i64v)) :
    Calls Try.prog 13 #[.slice A n c, .int .i64 a1, .slice KA kn kc] w (TruePost w) := by
  unfold I64 at h1
  obtain ⟨j0, hj0, ju0, ju1, ju2⟩ := info_parts info_bytes
  obtain ⟨T, hT⟩ : ∃ T : Nat, min (n : Int) 20 = T := ⟨min n 20, by omega⟩
  have hT1 : T ≤ n ∧ T ≤ 20 ∧ (T = n ∨ T = 20) := by omega
  obtain ⟨q, hq⟩ : ∃ q : Nat, a1 % ((T : Int) + 1) = q := ⟨(a1 % ((T : Int) + 1)).toNat, by have := Int.emod_nonneg a1 (show (T : Int) + 1 ≠ 0 by omega); omega⟩
  have hqT : q ≤ T := by have := Int.emod_lt_of_pos a1 (show 0 < (T : Int) + 1 by omega); omega
  obtain ⟨cp, hcp⟩ : ∃ cp, (l.take 20).map (Part.low 300) = cp := ⟨_, rfl⟩
  have hcpl : cp.length = T := by rw [← hcp, List.length_map, List.length_take, hl.len]; omega
  have hcpa : ∀ p ∈ cp, p.At w := fun p hp => by
    rw [← hcp] at hp
    obtain ⟨p0, h0, rfl⟩ := List.mem_map.1 hp
    exact (hl.all p0 (List.mem_of_mem_take h0)).low 300
  have hcpk : ∀ k p, k < 20 → l[k]? = some p → cp[k]? = some (p.low 300) := fun k p hk hp => by
    rw [← hcp, List.getElem?_map, List.getElem?_take, if_pos hk, hp]; rfl
  have c0 := fun W => bring_any a1 ((T : Int) + 1) W (by omega) (by omega) h1.1 h1.2
  rw [hq] at c0
  have HCP := Lib.hid hcp; have HCPL := Lib.hid hcpl
  have hln := hl.le; have hlm := hl.max
  unfold maxLen at hlm
  clear hq hcp hcpl h1
  go_enter Try.func13, Try.ntmps13
  go_wp2_with fail
  refine (new_any 64 _ (by omega) (by omega)).mono ?_
  rintro e w1 ⟨a, f1, rfl, hD1, hA1, hN1⟩
  go_wp2_with fail
  refine (openF hD1 (new_calm 64) hA1 hN1 (first := 2) (many := 60) (by omega) (by decide)).mono ?_
  rintro e w2 ⟨z, s, A2, c2, F, rfl, h2, e1, e2, e3⟩
  clear hD1 hA1 hN1
  go_wp2_with fail
  refine (c0 _).mono ?_
  rintro e w3 ⟨rfl, rfl⟩
  clear c0
  go_wp2_with fail
  have hrow0 : RowIn w.heap.size w2 34 F (.slice none 0 0) (min 0 q) ((cp.take (min 0 q)).map Part.val) := by
    rw [Nat.zero_min]
    exact ⟨World.ownsRow_nil _ _ _ _, fun g e => by cases e⟩
  go_loopw [13, 14, 15] (fun e v i wr => KsRel w z a T q cp e v i wr) (fun _ _ i _ => 20 - (intOf i).toNat)
  case atStart => exact ⟨0, s, Dev.new 64, F, rfl, by omega, h2, e1, e2, rfl, by decide, by omega, hrow0, by rw [Nat.zero_min]; rfl, fun h => by omega⟩
  case round =>
    obtain ⟨k, s1, d1, F1, rfl, hk, h3, g1, g2, g3, g4, g5, hr3, rfl, hsu⟩ := hrel
    clear h2 e1 e2 e3 hrow0
    by_cases hlt : k < T
    · have i1 : (k : Int) < (n : Int) := by omega
      have i2 : (k : Int) < 20 := by omega
      have hlr := hl.new h3.kept
      obtain ⟨b, o, p, hA, hbl, hpl, hpa, hcx⟩ := hlr.at_ (show k < n by omega)
      obtain ⟨ml, hmin, hml1, hml2, hml3, hsl⟩ := part_low hpa 300
      replace hmin : min (p.n : Int) 300 = (ml : Nat) := hmin
      have hple := hpa.1.le; have hpmx := hpa.1.max; have hpn := hpa.2
      unfold maxLen at hpmx
      have hcpp := hcpk k p (by omega) hpl
      have htk := texts_take cp hcpp
      have hlowv : (p.low 300).val = .slice p.A ml p.c := by unfold Part.low Part.val; rw [show min p.n 300 = ml by omega]
      subst hA
      have HU := Lib.hid hlowv; have HTK := Lib.hid htk; have HCPP := Lib.hid hcpp
      have G1 := Lib.hid g1; have G2 := Lib.hid g2; have G3 := Lib.hid g3
      have hbl2 : (p.xs.take 300).length ≤ 16384 := by omega
      have hroom : s1.fin + ((p.xs.take 300).length + 7) ≤ 128 * s1.many := by rw [g2, hml3]; omega
      have hpm := List.mem_of_getElem? hpl
      clear hpl hpa hlr hcpp htk hlowv g1 g2 g3
      rcases Nat.lt_trichotomy k q with hkq | rfl | hkq
      · have i4 : ¬ (k : Int) = (q : Int) := by omega
        have i5 : (k : Int) < (q : Int) := by omega
        go_wp2_with fail
        go_quiet (fail)
        go_wp2_with fail
        refine ((h3.next (Kept.drewN [] wr nq)).fits p.A ml p.c (p.xs.take 300) (hsl nq) hpn hbl2 hroom (by omega)).mono ?_
        rintro e w4 ⟨rfl, s2, d2, F2, h4, k2, st⟩
        have hr4 := (hr3.next (Kept.drewN [] wr nq)).step st
        have hmk : min k q = k ∧ min (k + 1) q = k + 1 := by omega
        rw [hmk.1] at hr4
        have hkq2 : k + 1 ≤ maxLen ∧ (k + 1) * 24 ≤ 140737488355328 := by unfold maxLen; omega
        have hb4 : w.heap.size ≤ w4.heap.size := h4.kept.size
        clear h3 hr3
        go_wp2_with (at_builtin; refine Hold.of ?_)
        unfold Hold
        refine wpList_append_lies _ rfl (.tmp 78) (.tmp 80) 64 rfl w.heap.size 34 j0 _ 1 24 Try.underlying64 hj0 ju0 ju1 ju2 rfl (by decide) _ k _ rfl (hr4.next (Kept.alloc [] w4 (.cells #[.slice p.A ml p.c] 34))).own ⟨w4.heap.size, 0, none⟩ 1 1 [.slice p.A ml p.c] rfl rfl (one_news w4 _ _) (one_slice _ _ _) (by omega) hkq2.1 hkq2.2 (by simp; omega) (w4.heap.size + 1) (by simp) ?_
        intro g cap w5 hown5 hgrow5 hat5 hlt5
        obtain ⟨hr5, hk5, _⟩ := hr4.push h4.sd.lt (Kept.alloc [] w4 (.cells #[.slice p.A ml p.c] 34)) hgrow5 hown5 hat5 (by simp)
        have h5 := h4.row hr4 hk5
        have hfe : (s2.fin : Int) = ((recs (texts (cp.take (k + 1)))).length : Nat) := by rw [HTK.out, h5.inv.fin h5.calm.size]; rfl
        have cf := h5.fin
        rw [hfe] at cf
        have HR5 := Lib.hid hr5
        clear hown5 hgrow5 hat5 hlt5 hr5 hk5 hr4 h4 hfe
        go_wp2_with fail
        refine cf.mono ?_
        rintro e w6 ⟨rfl, rfl⟩
        clear cf
        go_wp2_with fail
        go_roundw
        case rel =>
          refine ⟨k + 1, s2, d2, F2, by go_num, by omega, by rw [HTK.out]; exact h5, by rw [k2.first, G1.out], by rw [k2.many, G2.out], by rw [k2.secs, G3.out], by have := k2.works; rw [hml3] at this; push_cast; omega, by rw [k2.fin, hml3]; omega, ?_, by rw [hmk.2], fun h => by omega⟩
          rw [hmk.2, take_part HCPP.out, List.map_append]
          have h6 := HR5.out
          rw [← HU.out] at h6
          exact h6
        case measure => simp [intOf]; omega
      · go_wp2_with fail
        go_quiet (fail)
        go_wp2_with fail
        obtain ⟨d2, f1, f2, f3, cfl⟩ := (h3.next (Kept.drewN [] wr nq)).flush (by omega)
        refine cfl.mono ?_
        rintro e w4 ⟨rfl, F2, h4, st⟩
        have hr4 := (hr3.next (Kept.drewN [] wr nq)).step st
        have hsr := h3.inv.rows
        rw [h3.inv.fin h3.calm.size, G1.out] at hsr
        have hsz := h3.calm.size
        have hd2 : d2.secs.length = 64 := by rw [f1, G3.out]
        have HSR := Lib.hid hsr
        clear cfl h3 hr3 hsr
        go_wp2_with fail
        have hsl4 : SlAt w4 p.A ml p.c (u8vs (p.xs.take 300)) := by
          obtain ⟨m2, e4, _, _, _, e5⟩ := part_low ((hl.new h4.kept).all p hpm) 300
          have hmm : m2 = ml := by have e6 : min (p.n : Int) 300 = (m2 : Nat) := e4; omega
          subst hmm
          have e7 := e5 0
          rwa [World.drewN_zero] at e7
        refine (h4.fits p.A ml p.c (p.xs.take 300) hsl4 hpn hbl2 hroom (by omega)).mono ?_
        rintro e w5 ⟨rfl, s3, d3, F3, h5, k3, st3⟩
        have hr5 := hr4.step st3
        clear h4 hr4
        go_wp2_with fail
        go_roundw
        case rel =>
          exact ⟨k + 1, s3, d3, F3, by go_num, by omega, by rw [HTK.out]; exact h5, by rw [k3.first, G1.out], by rw [k3.many, G2.out], by rw [k3.secs, hd2], by have := k3.works; rw [hml3] at this; push_cast; omega, by rw [k3.fin, hml3]; omega, by rw [show min (k + 1) k = min k k by omega]; exact hr5, by rw [show min (k + 1) k = k by omega], fun _ => ⟨d1.secs, k3.sure _ f3, hsz, HSR.out⟩⟩
        case measure => simp [intOf]; omega
      · have i4 : ¬ (k : Int) = (q : Int) := by omega
        have i5 : ¬ (k : Int) < (q : Int) := by omega
        go_wp2_with fail
        go_quiet (fail)
        go_wp2_with fail
        refine ((h3.next (Kept.drewN [] wr nq)).fits p.A ml p.c (p.xs.take 300) (hsl nq) hpn hbl2 hroom (by omega)).mono ?_
        rintro e w4 ⟨rfl, s2, d2, F2, h4, k2, st⟩
        have hr4 := (hr3.next (Kept.drewN [] wr nq)).step st
        obtain ⟨sec, u1, u2, u3⟩ := hsu hkq
        have HU3 := Lib.hid u3
        clear h3 hr3 u3
        go_wp2_with fail
        go_roundw
        case rel =>
          have hmq : min (k + 1) q = min k q := by omega
          exact ⟨k + 1, s2, d2, F2, by go_num, by omega, by rw [HTK.out]; exact h4, by rw [k2.first, G1.out], by rw [k2.many, G2.out], by rw [k2.secs, G3.out], by have := k2.works; rw [hml3] at this; push_cast; omega, by rw [k2.fin, hml3]; omega, by rw [hmq]; exact hr4, by rw [hmq], fun _ => ⟨sec, k2.sure _ u1, u2, HU3.out⟩⟩
        case measure => simp [intOf]; omega
    · obtain rfl : k = T := by omega
      have hcase : ¬ (k : Int) < (n : Int) ∨ ((k : Int) < (n : Int) ∧ ¬ (k : Int) < 20) := by omega
      have hmq : min k q = q := by omega
      rw [hmq] at hr3
      rw [hmq]
      obtain ⟨E, hE⟩ : ∃ E, (recs (texts (cp.take q))).length = E := ⟨_, rfl⟩
      obtain ⟨M, hM⟩ := texts_split cp (show q ≤ k by omega)
      have hsmall : Small (texts (cp.take q)) := fun b hb => h3.inv.small b (by rw [hM]; simp [hb])
      have hhead := (show SInv s1 d1 (texts (cp.take q) ++ M) by rw [← hM]; exact h3.inv).head h3.calm
      have hEf : E ≤ 128 * 60 := by
        have h5 := h3.inv.fin h3.calm.size
        have h6 := h3.inv.wf.fin
        rw [hM, recs_prefix_len] at h5
        omega
      rw [g1, hE] at hhead
      rw [hE] at hsu
      rw [hE]
      have HH := Lib.hid hhead; have G3 := Lib.hid g3
      clear hM hE hhead g1 g2 g3 g5
      have hkeepF : ∀ a0, KA = some a0 → 0 < kn → a0.block < w.heap.size := fun a0 e h => hkp.lt' h e
      have key : (q < k ∧ ¬ (k : Int) ≤ (q : Int)) ∨ (q = k ∧ (k : Int) ≤ (q : Int)) := by omega
      rcases key with ⟨hqk, i3⟩ | ⟨rfl, i3⟩
      · obtain ⟨sec, u1, u2, u3⟩ := hsu hqk
        have h5 := h3
        have hr5 := hr3
        have hrow5 := HH.out
        have hd5 := G3.out
        have U3 := Lib.hid u3; have HD5 := Lib.hid hd5; have HR5 := Lib.hid hrow5
        clear hsu h3 hr3 HH G3 u3 hd5 hrow5
        rcases hcase with i1 | ⟨i1, i2⟩
        all_goals
          go_wp2_with fail
          have hks := hkp.kept h5.kept (by simp)
          obtain ⟨x1, x2, x3, x4, x5⟩ := u1.ends h5.calm u2 keep
          have hc1 := sd_dv h5.sd (f := 26) (args := #[.pointer (some ⟨a, 0, none⟩), .slice KA kn kc]) (r := Dev.crash _ keep) (fun fp hD hF => crash_dv hD KA kn kc keep hks (fun p e hn hm => by have y1 := hkeepF p e hn; have y2 := h5.low _ (hF _ hm); omega))
          rw [x1] at hc1
          refine hc1.mono ?_
          rintro e w6 ⟨rfl, F6, g6, y1, y2⟩
          have hr6 := hr5.step ⟨y1, y2⟩
          have hl6 : ∀ j ∈ F6, w.heap.size ≤ j := fun j hj => by
            rcases y2 j hj with y3 | y3
            · exact h5.low j y3
            · exact Nat.le_trans h5.kept.size y3
          have hk6 : Kept [] w w6 := h5.kept.trans' y1 (fun j hj => .inr (h5.low j hj))
          have hrow6 := u1.rows h5.calm u2 keep (first := 2) (e := E) (by rw [HR5.out, U3.out])
          rw [HR5.out] at hrow6
          have hd6 := x3.trans HD5.out
          have HR6 := Lib.hid hrow6; have HD6 := Lib.hid hd6
          clear hc1 h5 hr5 y1 y2 hrow6 hd6 x1 x3 x4 x5 hks
          go_wp2_with fail
          have hc2 := sd_dv g6 (f := 27) (args := #[.pointer (some ⟨a, 0, none⟩)]) (r := (Dev.boot _, 0)) (fun fp hD hF => boot_dv hD)
          refine hc2.mono ?_
          rintro e w7 ⟨rfl, F7, g7, y1, y2⟩
          have hr7 := hr6.step ⟨y1, y2⟩
          have hk7 : Kept [] w w7 := hk6.trans' y1 (fun j hj => .inr (hl6 j hj))
          obtain ⟨fp7, sp7, hD7, _⟩ := g7.parts
          clear hc2 g6 hr6 y1 y2
          have co := open_ok hD7 x2 (first := 2) (many := 60) (fin := E) (by omega) (by show 2 + 60 ≤ _; rw [HD6.out]; omega) hEf hsmall HR6.out
          go_wp2_with fail
          refine co.mono ?_
          rintro e w8 ⟨k8, z8, F8, A8, n8, c8, ps, s8, rfl, hb8, htx, _⟩
          clear co
          have hr8 := hr7.next k8
          obtain ⟨AW, cW, rfl, hbW⟩ := hr8.parts (ps := cp.take q) (fun p hp => (hcpa p (List.mem_of_mem_take hp)).kept (hk7.trans k8) (by simp))
          have cs := sameLists_true w8 A8 AW n8 c8 q cW ps (cp.take q) hb8 hbW htx
          have hk8 := hk7.trans k8
          clear hr7 hr8 hb8 hbW htx g7 hD7
          go_wp2_with fail
          refine cs.mono ?_
          rintro e w9 ⟨rfl, q9, rfl⟩
          clear cs
          go_wp2_with fail
          refine (awake12_any _).mono ?_
          rintro e w10 ⟨rfl, hk10⟩
          go_wp2_with fail
          go_ret
          exact ⟨rfl, (hk8.trans (Kept.drewN [] _ _)).trans hk10⟩
      · have u2 := h3.calm.size
        rcases hcase with i1 | ⟨i1, i2⟩
        all_goals
          go_wp2_with fail
          obtain ⟨d2, f1, f2, u1, cfl⟩ := h3.flush (by omega)
          refine cfl.mono ?_
          rintro e w5 ⟨rfl, F5, h5, st5⟩
          have hr5 := hr3.step st5
          have hd5 : d2.secs.length = 64 := by rw [f1, G3.out]
          have u3 : (d1.secs.drop 2).flatten.take E = recs (texts (cp.take q)) := HH.out
          have hrow5 : (d2.bytesAt 2).take E = recs (texts (cp.take q)) := by unfold Dev.bytesAt; rw [f1]; exact u3
          have U3 := Lib.hid u3; have HD5 := Lib.hid hd5; have HR5 := Lib.hid hrow5
          clear cfl hsu h3 hr3 HH G3 u3 hd5 hrow5 f1 st5
          go_wp2_with fail
          have hks := hkp.kept h5.kept (by simp)
          obtain ⟨x1, x2, x3, x4, x5⟩ := u1.ends h5.calm u2 keep
          have hc1 := sd_dv h5.sd (f := 26) (args := #[.pointer (some ⟨a, 0, none⟩), .slice KA kn kc]) (r := Dev.crash _ keep) (fun fp hD hF => crash_dv hD KA kn kc keep hks (fun p e hn hm => by have y1 := hkeepF p e hn; have y2 := h5.low _ (hF _ hm); omega))
          rw [x1] at hc1
          refine hc1.mono ?_
          rintro e w6 ⟨rfl, F6, g6, y1, y2⟩
          have hr6 := hr5.step ⟨y1, y2⟩
          have hl6 : ∀ j ∈ F6, w.heap.size ≤ j := fun j hj => by
            rcases y2 j hj with y3 | y3
            · exact h5.low j y3
            · exact Nat.le_trans h5.kept.size y3
          have hk6 : Kept [] w w6 := h5.kept.trans' y1 (fun j hj => .inr (h5.low j hj))
          have hrow6 := u1.rows h5.calm u2 keep (first := 2) (e := E) (by rw [HR5.out, U3.out])
          rw [HR5.out] at hrow6
          have hd6 := x3.trans HD5.out
          have HR6 := Lib.hid hrow6; have HD6 := Lib.hid hd6
          clear hc1 h5 hr5 y1 y2 hrow6 hd6 x1 x3 x4 x5 hks
          go_wp2_with fail
          have hc2 := sd_dv g6 (f := 27) (args := #[.pointer (some ⟨a, 0, none⟩)]) (r := (Dev.boot _, 0)) (fun fp hD hF => boot_dv hD)
          refine hc2.mono ?_
          rintro e w7 ⟨rfl, F7, g7, y1, y2⟩
          have hr7 := hr6.step ⟨y1, y2⟩
          have hk7 : Kept [] w w7 := hk6.trans' y1 (fun j hj => .inr (hl6 j hj))
          obtain ⟨fp7, sp7, hD7, _⟩ := g7.parts
          clear hc2 g6 hr6 y1 y2
          have co := open_ok hD7 x2 (first := 2) (many := 60) (fin := E) (by omega) (by show 2 + 60 ≤ _; rw [HD6.out]; omega) hEf hsmall HR6.out
          go_wp2_with fail
          refine co.mono ?_
          rintro e w8 ⟨k8, z8, F8, A8, n8, c8, ps, s8, rfl, hb8, htx, _⟩
          clear co
          have hr8 := hr7.next k8
          obtain ⟨AW, cW, rfl, hbW⟩ := hr8.parts (ps := cp.take q) (fun p hp => (hcpa p (List.mem_of_mem_take hp)).kept (hk7.trans k8) (by simp))
          have cs := sameLists_true w8 A8 AW n8 c8 q cW ps (cp.take q) hb8 hbW htx
          have hk8 := hk7.trans k8
          clear hr7 hr8 hb8 hbW htx g7 hD7
          go_wp2_with fail
          refine cs.mono ?_
          rintro e w9 ⟨rfl, q9, rfl⟩
          clear cs
          go_wp2_with fail
          refine (awake12_any _).mono ?_
          rintro e w10 ⟨rfl, hk10⟩
          go_wp2_with fail
          go_ret
          exact ⟨rfl, (hk8.trans (Kept.drewN [] _ _)).trans hk10⟩
end Go.Proofs.Ytbnflbkaogpnbaa
