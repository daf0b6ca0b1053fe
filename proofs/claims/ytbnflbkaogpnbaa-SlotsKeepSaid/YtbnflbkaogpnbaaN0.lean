/- SlotsKeep: the walk. -/
import Derived.Test.YtbnflbkaogpnbaaO9
namespace Go.Proofs.Ytbnflbkaogpnbaa
set_option linter.unusedVariables false
open Go.RowKit

def KeRel (w : World) (a : Nat) (p l t i : Value) (wr : World) : Prop :=
  ∃ (k : Nat) (s : Sl) (d : Dev) (z : Nat) (F : List Nat), i = .int .i64 k ∧ k ≤ 30 ∧ p = .pointer (some ⟨z, 0, none⟩) ∧ l = .string ⟨s.text.toArray⟩ ∧ t = .int .i64 s.turn ∧ TdF w wr z a F s d ∧ KeInv k s d

set_option maxHeartbeats 2000000 in
set_option maxRecDepth 100000 in
theorem slotsKeep_walk (w : World) (A : Option Addr) (n c : Nat) (l : List D11) (hl : D11s w A n c l) :
    Calls Try.prog 16 #[.slice A n c] w (TruePost w) := by
  have hln := hl.le; have hlm := hl.max
  unfold maxLen at hlm
  go_enter Try.func16, Try.ntmps16
  go_wp2_with fail
  refine (new_any 2 _ (by omega) (by omega)).mono ?_
  rintro e w1 ⟨a, f1, rfl, hD1, hA1, hN1⟩
  go_wp2_with fail
  refine (slots_new (n := 2) (f := 0) hD1 hA1 hN1 (by omega)).mono ?_
  rintro e w2 ⟨z, F, A2, c2, rfl, h2⟩
  clear hD1 hA1 hN1
  go_wp2_with fail
  go_loopw [5, 8, 9, 10] (fun p l t i wr => KeRel w a p l t i wr) (fun _ _ _ i _ => 30 - (intOf i).toNat)
  case atStart => exact ⟨0, _, _, z, F, rfl, by omega, rfl, rfl, rfl, h2, KeInv.start⟩
  case round =>
    obtain ⟨k, s, d, z3, F3, rfl, hk, rfl, rfl, rfl, h3, hi⟩ := hrel
    clear h2
    by_cases hlt : k < n ∧ k < 30
    · have i1 : (k : Int) < (n : Int) := by omega
      have i2 : (k : Int) < 30 := by omega
      obtain ⟨b, o, x, hA, hbl, hpl, hok0, hc0, hc1, hc2, hc3⟩ := hl.at_ hlt.1
      have hok := hok0.kept h3.kept
      have hpb : ∀ q, x.keepA = some q → 0 < x.keepn → q.block < w.heap.size := fun q e hq => hok0.keepS.lt' hq e
      have e : ∀ j, wr.cell? ⟨b, j, none⟩ = w.cell? ⟨b, j, none⟩ := fun j => h3.kept.cell (p := ⟨b, j, none⟩) hbl (by simp)
      rw [← e] at hc0 hc1 hc2 hc3
      obtain ⟨ml, hmin, hml1, hml2, hml3, hsl⟩ := part_low hok.data 100
      replace hmin : min (x.data.n : Int) 100 = (ml : Nat) := hmin
      have hple := hok.data.1.le; have hpmx := hok.data.1.max
      unfold maxLen at hpmx
      subst hA
      obtain ⟨txt, htxt⟩ : ∃ txt, x.data.xs.take 100 = txt := ⟨_, rfl⟩
      rw [htxt] at hml3 hsl
      obtain ⟨q, hq⟩ : ∃ q : Nat, x.num % 8 = q := ⟨(x.num % 8).toNat, by omega⟩
      have hq8 : q < 8 := by omega
      have c0 := fun W => bring_any x.num 8 W (by omega) (by omega) hok.num.1 hok.num.2
      rw [hq] at c0
      have hdb : ∀ q, x.data.A = some q → 0 < ml → q.block < w.heap.size := fun q e hq => hok0.data.1.lt' (by omega) e
      have hbF : b ∉ F3 := fun hm => by have := h3.low b hm; omega
      unfold Part.val at hc2
      have hsw : SlAt w x.data.A ml x.data.c (u8vs txt) := by
        obtain ⟨m2, e4, _, _, _, e5⟩ := part_low hok0.data 100
        have hmm : m2 = ml := by have e6 : min (x.data.n : Int) 100 = (m2 : Nat) := e4; omega
        subst hmm
        have e7 := e5 0
        rwa [World.drewN_zero, htxt] at e7
      have HML := Lib.hid hml3
      clear htxt hpl hok0 hc0 hq e hml3
      go_wp2_with fail
      go_quiet (fail)
      go_wp2_with fail
      refine (c0 _).mono ?_
      rintro e w3 ⟨rfl, rfl⟩
      clear c0
      have h3n := h3.next (Kept.drewN [] wr nq)
      have hokn : x.Ok (wr.drewN nq) := hok.kept (Kept.drewN [] wr nq)
      have hsl0 := hsl nq
      have c3n : (wr.drewN nq).cell? ⟨b, o + k * 4 + 3, none⟩ = some (.slice x.keepA x.keepn x.keepc) := hc3
      generalize wr.drewN nq = wn at *
      have HSD := Lib.hid hsw
      have hkn0 := h3n.kept
      have hF3 := h3n.low
      have HI := Lib.hid hi
      clear h3 hok hsl hc1 hc2 hc3 hi
      by_cases hq4 : q < 4
      · have i3 : (q : Int) < 4 := by omega
        have cfa := td_dv h3n.at_ (f := 34) (args := #[.pointer (some ⟨a, 0, none⟩), .int .i64 q, .slice x.keepA x.keepn x.keepc]) (r := d.failAt q x.keep) (fun fp hD _ => fail_dv hD q (by omega) (by omega) _ _ _ _ hokn.keepS hokn.keepL hokn.keepI)
        have hfe : d.failAt q x.keep = (keArm d q x.keep, 0) := by
          unfold Dev.failAt keArm
          rw [HI.out.calm.dead, if_pos hq4, show max (q : Int) (-1) = (q : Int) by omega]
          rfl
        rw [hfe] at cfa
        clear hfe
        go_wp2_with fail
        refine cfa.mono ?_
        rintro e w4 ⟨rfl, F4, g4, st4⟩
        have h4 : TdF w w4 z3 a F4 s (keArm d q x.keep) := h3n.step g4 st4
        have hkn4 := st4.kept
        have hF4 := hF3
        clear cfa g4 st4 h3n hokn c3n
        have hne := h4.low
        have hs4 := hsl0.keptP hkn4 (fun q e hn hm => by have h7 := hdb q e (by omega); have h8 := hF4 _ hm; omega)
        obtain ⟨S, D, er, eS, hS⟩ := HI.out.save hk q x.keep (b := txt) (by rw [HML.out]; exact hml2)
        obtain ⟨fpA, hDA, _⟩ := h4.dv
        have hw4 := (keArm_live HI.out.calm q x.keep).2.2.2.2.2.1
        have cs := td_save h4.at_ (by obtain ⟨_, _, _, _, h9⟩ := HI.out.on.pair; exact h9.newer) (by have := HI.out.turn; omega) (by rw [HI.out.first]; omega) x.data.A ml x.data.c txt hs4 (by rw [hw4]; have := HI.out.works; omega)
        rw [eS] at cs
        clear eS hw4 hDA hs4 hsl0
        go_wp2_with fail
        refine cs.mono ?_
        rintro e w5 ⟨rfl, F5, g5, st5⟩
        have h5 := h4.step g5 st5
        have hF5 := h5.low
        have hsd5 : SlAt w5 x.data.A ml x.data.c (u8vs txt) := HSD.out.keptP h5.kept (fun q e hn hm => by simp at hm)
        clear cs g5 h4
        rcases hS with ⟨rfl, rfl, hdead, hinv, hdead2⟩ | ⟨rfl, hSs, hdead, hfa, s', hs', hinv⟩
        · have hst := run_str hsd5
          unfold strV at hst
          have cf := td_dv h5.at_ (f := 34) (args := #[.pointer (some ⟨a, 0, none⟩), .int .i64 (-1), .slice none 0 0]) (r := D.failAt (-1) []) (fun fp hD _ => fail_dv hD (-1) (by omega) (by omega) none 0 0 [] (SlAt.nil _) (by omega) (by simp))
          obtain ⟨D2, n2, hD2⟩ : ∃ D2 n2, D.failAt (-1) [] = (D2, n2) := ⟨_, _, rfl⟩
          rw [hD2] at cf hinv hdead2
          replace hinv : KeInv (k + 1) (s.next txt) D2 := hinv
          replace hdead2 : D2.dead = false := hdead2
          have hkv : IntKind.i64.wrap ((s.turn : Int) + 1) = (s.turn : Int) + 1 := by have := HI.out.turn; rw [IntKind.wrap_i64]; omega
          go_wp2_with fail
          refine cf.mono ?_
          rintro e w6 ⟨rfl, F6, g6, st6⟩
          have h6 : TdF w w6 z3 a F6 (s.next txt) D2 := h5.step g6 st6
          obtain ⟨fq, hDq, _⟩ := h6.dv
          have cd := dead_dv hDq
          rw [hdead2] at cd
          have co := opens11_true hDq hdead2 hinv.on txt ((s.turn : Int) + 1) rfl (by show ((s.turn + 1 : Nat) : Int) = _; push_cast; rfl)
          rw [show (((s.next txt).first : Nat) : Int) = 0 by rw [hinv.first]; rfl] at co
          have HIN := Lib.hid hinv
          clear cf g6 st6 hD2 hdead hdead2 hinv h5 hDq
          go_wp2_with fail
          refine cd.mono ?_
          rintro e w7 ⟨rfl, rfl⟩
          go_wp2_with fail
          refine co.mono ?_
          rintro e w8 ⟨rfl, hk8⟩
          clear cd co
          go_wp2_with fail
          go_roundw
          case rel => exact ⟨k + 1, s.next txt, D2, z3, F6, by go_num, by omega, rfl, rfl, by show _ = Value.int .i64 ((s.turn + 1 : Nat) : Int); go_num, h6.next hk8, HIN.out⟩
          case measure => simp [intOf]; omega
        · replace hSs := hSs.symm
          subst hSs
          have cf := td_dv h5.at_ (f := 34) (args := #[.pointer (some ⟨a, 0, none⟩), .int .i64 (-1), .slice none 0 0]) (r := D.failAt (-1) []) (fun fp hD _ => fail_dv hD (-1) (by omega) (by omega) none 0 0 [] (SlAt.nil _) (by omega) (by simp))
          rw [hfa] at cf
          have HS' := Lib.hid hs'; have HIN := Lib.hid hinv
          clear hfa hs' hinv
          go_wp2_with fail
          refine cf.mono ?_
          rintro e w6 ⟨rfl, F6, g6, st6⟩
          have h6 : TdF w w6 z3 a F6 s D := h5.step g6 st6
          obtain ⟨fq, hDq, _⟩ := h6.dv
          have cd := dead_dv hDq
          rw [hdead] at cd
          clear cf g6 st6 hDq h5 hdead
          go_wp2_with fail
          refine cd.mono ?_
          rintro e w7 ⟨rfl, rfl⟩
          clear cd
          have cb := td_dv h6.at_ (f := 27) (args := #[.pointer (some ⟨a, 0, none⟩)]) (r := (D.boot, 0)) (fun fp hD _ => boot_dv hD)
          go_wp2_with fail
          refine cb.mono ?_
          rintro e w8 ⟨rfl, F8, g8, st8⟩
          have h8 : TdF w w8 z3 a F8 s D.boot := h6.step g8 st8
          obtain ⟨fr, hDr, hFr⟩ := h8.dv
          have co := slots_ok hDr HIN.out.calm.dead HIN.out.on
          rw [show ((s'.first : Nat) : Int) = 0 by rw [HIN.out.first]; rfl] at co
          clear cb g8 st8 h6
          go_wp2_with fail
          refine co.mono ?_
          rintro e w9 ⟨hk9, z9, F9, A9, c9, rfl, hT9, hF9, hsl9, hn9, hA9⟩
          have h9 : TdF w w9 z9 a F9 s' D.boot := ⟨hT9, fun j hj => by
            rcases hF9 j hj with e | e
            · exact h8.low j (hFr j e)
            · exact Nat.le_trans h8.kept.size e, h8.kept.trans hk9⟩
          clear co hT9 hF9 h8
          have hst9 := run_str hsl9
          have hstd := run_str (HSD.out.keptP h9.kept (fun q e hn hm => by simp at hm))
          unfold strV at hst9 hstd
          rcases HS'.out with rfl | rfl
          · obtain ⟨fs, hDs, _⟩ := h9.dv
            have cp := opens11_true hDs HIN.out.calm.dead HIN.out.on s'.text ((s'.turn : Int)) rfl (rfl)
            rw [show (((s').first : Nat) : Int) = 0 by rw [HIN.out.first]; rfl] at cp
            clear hDs
            go_wp2_with fail
            refine (td_turn h9.at_).mono ?_
            rintro e w10 ⟨rfl, rfl⟩
            go_wp2_with fail
            refine (td_turn h9.at_).mono ?_
            rintro e w10 ⟨rfl, rfl⟩
            go_wp2_with fail
            refine cp.mono ?_
            rintro e w11 ⟨rfl, hk11⟩
            clear cp
            go_wp2_with fail
            go_roundw
            case rel => exact ⟨k + 1, s', D.boot, z9, F9, by go_num, by omega, rfl, rfl, rfl, h9.next hk11, HIN.out⟩
            case measure => simp [intOf]; omega
          · have hst9' : (convert 34 9 (.slice A9 txt.length c9)).run Try.prog w9 = .ok (.string ⟨txt.toArray⟩) w9 := hst9
            have htv : (((s.next txt).turn : Nat) : Int) = (s.turn : Int) + 1 := by show ((s.turn + 1 : Nat) : Int) = _; push_cast; rfl
            have ct := td_turn h9.at_
            rw [htv] at ct
            have hkv : IntKind.i64.wrap ((s.turn : Int) + 1) = (s.turn : Int) + 1 := by have := HI.out.turn; rw [IntKind.wrap_i64]; omega
            by_cases htx : txt = s.text
            · subst htx
              obtain ⟨fs, hDs, _⟩ := h9.dv
              have cp := opens11_true hDs HIN.out.calm.dead HIN.out.on s.text ((s.turn : Int) + 1) rfl htv
              rw [show (((s.next s.text).first : Nat) : Int) = 0 by rw [HIN.out.first]; rfl] at cp
              clear hDs
              go_wp2_with fail
              refine ct.mono ?_
              rintro e w10 ⟨rfl, rfl⟩
              go_wp2_with fail
              refine ct.mono ?_
              rintro e w10 ⟨rfl, rfl⟩
              go_wp2_with fail
              refine ct.mono ?_
              rintro e w10 ⟨rfl, rfl⟩
              clear ct
              go_wp2_with fail
              refine cp.mono ?_
              rintro e w11 ⟨rfl, hk11⟩
              clear cp
              go_wp2_with fail
              go_roundw
              case rel => exact ⟨k + 1, s.next s.text, D.boot, z9, F9, by go_num, by omega, rfl, rfl, by show _ = Value.int .i64 ((s.turn + 1 : Nat) : Int); go_num, h9.next hk11, HIN.out⟩
              case measure => simp [intOf]; omega
            · skip
              obtain ⟨fs, hDs, _⟩ := h9.dv
              have cp := opens11_true hDs HIN.out.calm.dead HIN.out.on txt ((s.turn : Int) + 1) rfl htv
              rw [show (((s.next txt).first : Nat) : Int) = 0 by rw [HIN.out.first]; rfl] at cp
              clear hDs
              go_wp2_with fail
              refine ct.mono ?_
              rintro e w10 ⟨rfl, rfl⟩
              go_wp2_with fail
              refine ct.mono ?_
              rintro e w10 ⟨rfl, rfl⟩
              go_wp2_with fail
              refine ct.mono ?_
              rintro e w10 ⟨rfl, rfl⟩
              clear ct
              go_wp2_with fail
              refine cp.mono ?_
              rintro e w11 ⟨rfl, hk11⟩
              clear cp
              go_wp2_with fail
              go_roundw
              case rel => exact ⟨k + 1, s.next txt, D.boot, z9, F9, by go_num, by omega, rfl, rfl, by show _ = Value.int .i64 ((s.turn + 1 : Nat) : Int); go_num, h9.next hk11, HIN.out⟩
              case measure => simp [intOf]; omega
      · have i3 : ¬ (q : Int) < 4 := by omega
        have h4 : TdF w wn z3 a F3 s (keArm d q x.keep) := by unfold keArm; rw [if_neg hq4]; exact h3n
        have hkn4 := Kept.refl F3 wn
        have hF4 := hF3
        clear h3n hokn c3n
        have hne := h4.low
        have hs4 := hsl0.keptP hkn4 (fun q e hn hm => by have h7 := hdb q e (by omega); have h8 := hF4 _ hm; omega)
        obtain ⟨S, D, er, eS, hS⟩ := HI.out.save hk q x.keep (b := txt) (by rw [HML.out]; exact hml2)
        obtain ⟨fpA, hDA, _⟩ := h4.dv
        have hw4 := (keArm_live HI.out.calm q x.keep).2.2.2.2.2.1
        have cs := td_save h4.at_ (by obtain ⟨_, _, _, _, h9⟩ := HI.out.on.pair; exact h9.newer) (by have := HI.out.turn; omega) (by rw [HI.out.first]; omega) x.data.A ml x.data.c txt hs4 (by rw [hw4]; have := HI.out.works; omega)
        rw [eS] at cs
        clear eS hw4 hDA hs4 hsl0
        go_wp2_with fail
        refine cs.mono ?_
        rintro e w5 ⟨rfl, F5, g5, st5⟩
        have h5 := h4.step g5 st5
        have hF5 := h5.low
        have hsd5 : SlAt w5 x.data.A ml x.data.c (u8vs txt) := HSD.out.keptP h5.kept (fun q e hn hm => by simp at hm)
        clear cs g5 h4
        rcases hS with ⟨rfl, rfl, hdead, hinv, hdead2⟩ | ⟨rfl, hSs, hdead, hfa, s', hs', hinv⟩
        · have hst := run_str hsd5
          unfold strV at hst
          have cf := td_dv h5.at_ (f := 34) (args := #[.pointer (some ⟨a, 0, none⟩), .int .i64 (-1), .slice none 0 0]) (r := D.failAt (-1) []) (fun fp hD _ => fail_dv hD (-1) (by omega) (by omega) none 0 0 [] (SlAt.nil _) (by omega) (by simp))
          obtain ⟨D2, n2, hD2⟩ : ∃ D2 n2, D.failAt (-1) [] = (D2, n2) := ⟨_, _, rfl⟩
          rw [hD2] at cf hinv hdead2
          replace hinv : KeInv (k + 1) (s.next txt) D2 := hinv
          replace hdead2 : D2.dead = false := hdead2
          have hkv : IntKind.i64.wrap ((s.turn : Int) + 1) = (s.turn : Int) + 1 := by have := HI.out.turn; rw [IntKind.wrap_i64]; omega
          go_wp2_with fail
          refine cf.mono ?_
          rintro e w6 ⟨rfl, F6, g6, st6⟩
          have h6 : TdF w w6 z3 a F6 (s.next txt) D2 := h5.step g6 st6
          obtain ⟨fq, hDq, _⟩ := h6.dv
          have cd := dead_dv hDq
          rw [hdead2] at cd
          have co := opens11_true hDq hdead2 hinv.on txt ((s.turn : Int) + 1) rfl (by show ((s.turn + 1 : Nat) : Int) = _; push_cast; rfl)
          rw [show (((s.next txt).first : Nat) : Int) = 0 by rw [hinv.first]; rfl] at co
          have HIN := Lib.hid hinv
          clear cf g6 st6 hD2 hdead hdead2 hinv h5 hDq
          go_wp2_with fail
          refine cd.mono ?_
          rintro e w7 ⟨rfl, rfl⟩
          go_wp2_with fail
          refine co.mono ?_
          rintro e w8 ⟨rfl, hk8⟩
          clear cd co
          go_wp2_with fail
          go_roundw
          case rel => exact ⟨k + 1, s.next txt, D2, z3, F6, by go_num, by omega, rfl, rfl, by show _ = Value.int .i64 ((s.turn + 1 : Nat) : Int); go_num, h6.next hk8, HIN.out⟩
          case measure => simp [intOf]; omega
        · replace hSs := hSs.symm
          subst hSs
          have cf := td_dv h5.at_ (f := 34) (args := #[.pointer (some ⟨a, 0, none⟩), .int .i64 (-1), .slice none 0 0]) (r := D.failAt (-1) []) (fun fp hD _ => fail_dv hD (-1) (by omega) (by omega) none 0 0 [] (SlAt.nil _) (by omega) (by simp))
          rw [hfa] at cf
          have HS' := Lib.hid hs'; have HIN := Lib.hid hinv
          clear hfa hs' hinv
          go_wp2_with fail
          refine cf.mono ?_
          rintro e w6 ⟨rfl, F6, g6, st6⟩
          have h6 : TdF w w6 z3 a F6 s D := h5.step g6 st6
          obtain ⟨fq, hDq, _⟩ := h6.dv
          have cd := dead_dv hDq
          rw [hdead] at cd
          clear cf g6 st6 hDq h5 hdead
          go_wp2_with fail
          refine cd.mono ?_
          rintro e w7 ⟨rfl, rfl⟩
          clear cd
          have cb := td_dv h6.at_ (f := 27) (args := #[.pointer (some ⟨a, 0, none⟩)]) (r := (D.boot, 0)) (fun fp hD _ => boot_dv hD)
          go_wp2_with fail
          refine cb.mono ?_
          rintro e w8 ⟨rfl, F8, g8, st8⟩
          have h8 : TdF w w8 z3 a F8 s D.boot := h6.step g8 st8
          obtain ⟨fr, hDr, hFr⟩ := h8.dv
          have co := slots_ok hDr HIN.out.calm.dead HIN.out.on
          rw [show ((s'.first : Nat) : Int) = 0 by rw [HIN.out.first]; rfl] at co
          clear cb g8 st8 h6
          go_wp2_with fail
          refine co.mono ?_
          rintro e w9 ⟨hk9, z9, F9, A9, c9, rfl, hT9, hF9, hsl9, hn9, hA9⟩
          have h9 : TdF w w9 z9 a F9 s' D.boot := ⟨hT9, fun j hj => by
            rcases hF9 j hj with e | e
            · exact h8.low j (hFr j e)
            · exact Nat.le_trans h8.kept.size e, h8.kept.trans hk9⟩
          clear co hT9 hF9 h8
          have hst9 := run_str hsl9
          have hstd := run_str (HSD.out.keptP h9.kept (fun q e hn hm => by simp at hm))
          unfold strV at hst9 hstd
          rcases HS'.out with rfl | rfl
          · obtain ⟨fs, hDs, _⟩ := h9.dv
            have cp := opens11_true hDs HIN.out.calm.dead HIN.out.on s'.text ((s'.turn : Int)) rfl (rfl)
            rw [show (((s').first : Nat) : Int) = 0 by rw [HIN.out.first]; rfl] at cp
            clear hDs
            go_wp2_with fail
            refine (td_turn h9.at_).mono ?_
            rintro e w10 ⟨rfl, rfl⟩
            go_wp2_with fail
            refine (td_turn h9.at_).mono ?_
            rintro e w10 ⟨rfl, rfl⟩
            go_wp2_with fail
            refine cp.mono ?_
            rintro e w11 ⟨rfl, hk11⟩
            clear cp
            go_wp2_with fail
            go_roundw
            case rel => exact ⟨k + 1, s', D.boot, z9, F9, by go_num, by omega, rfl, rfl, rfl, h9.next hk11, HIN.out⟩
            case measure => simp [intOf]; omega
          · have hst9' : (convert 34 9 (.slice A9 txt.length c9)).run Try.prog w9 = .ok (.string ⟨txt.toArray⟩) w9 := hst9
            have htv : (((s.next txt).turn : Nat) : Int) = (s.turn : Int) + 1 := by show ((s.turn + 1 : Nat) : Int) = _; push_cast; rfl
            have ct := td_turn h9.at_
            rw [htv] at ct
            have hkv : IntKind.i64.wrap ((s.turn : Int) + 1) = (s.turn : Int) + 1 := by have := HI.out.turn; rw [IntKind.wrap_i64]; omega
            by_cases htx : txt = s.text
            · subst htx
              obtain ⟨fs, hDs, _⟩ := h9.dv
              have cp := opens11_true hDs HIN.out.calm.dead HIN.out.on s.text ((s.turn : Int) + 1) rfl htv
              rw [show (((s.next s.text).first : Nat) : Int) = 0 by rw [HIN.out.first]; rfl] at cp
              clear hDs
              go_wp2_with fail
              refine ct.mono ?_
              rintro e w10 ⟨rfl, rfl⟩
              go_wp2_with fail
              refine ct.mono ?_
              rintro e w10 ⟨rfl, rfl⟩
              go_wp2_with fail
              refine ct.mono ?_
              rintro e w10 ⟨rfl, rfl⟩
              clear ct
              go_wp2_with fail
              refine cp.mono ?_
              rintro e w11 ⟨rfl, hk11⟩
              clear cp
              go_wp2_with fail
              go_roundw
              case rel => exact ⟨k + 1, s.next s.text, D.boot, z9, F9, by go_num, by omega, rfl, rfl, by show _ = Value.int .i64 ((s.turn + 1 : Nat) : Int); go_num, h9.next hk11, HIN.out⟩
              case measure => simp [intOf]; omega
            · skip
              obtain ⟨fs, hDs, _⟩ := h9.dv
              have cp := opens11_true hDs HIN.out.calm.dead HIN.out.on txt ((s.turn : Int) + 1) rfl htv
              rw [show (((s.next txt).first : Nat) : Int) = 0 by rw [HIN.out.first]; rfl] at cp
              clear hDs
              go_wp2_with fail
              refine ct.mono ?_
              rintro e w10 ⟨rfl, rfl⟩
              go_wp2_with fail
              refine ct.mono ?_
              rintro e w10 ⟨rfl, rfl⟩
              go_wp2_with fail
              refine ct.mono ?_
              rintro e w10 ⟨rfl, rfl⟩
              clear ct
              go_wp2_with fail
              refine cp.mono ?_
              rintro e w11 ⟨rfl, hk11⟩
              clear cp
              go_wp2_with fail
              go_roundw
              case rel => exact ⟨k + 1, s.next txt, D.boot, z9, F9, by go_num, by omega, rfl, rfl, by show _ = Value.int .i64 ((s.turn + 1 : Nat) : Int); go_num, h9.next hk11, HIN.out⟩
              case measure => simp [intOf]; omega
    · have hcase : ¬ (k : Int) < (n : Int) ∨ ((k : Int) < (n : Int) ∧ ¬ (k : Int) < 30) := by omega
      rcases hcase with i1 | ⟨i1, i2⟩
      all_goals
        go_wp2_with fail
        refine (awake11_any _).mono ?_
        rintro e w3 ⟨rfl, hk3⟩
        go_wp2_with fail
        go_ret
        exact ⟨rfl, h3.kept.trans hk3⟩
end Go.Proofs.Ytbnflbkaogpnbaa
