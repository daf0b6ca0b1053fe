/- SlotsKnown: the walk. -/
import Derived.Test.YtbnflbkaogpnbaaGC
import Derived.Test.YtbnflbkaogpnbaaA6
import Derived.Test.YtbnflbkaogpnbaaG6
import Derived.Lib.SlBytesConst
namespace Go.Proofs.Ytbnflbkaogpnbaa
set_option linter.unusedVariables false
open Go.RowKit

def SlkA (w : World) (p i : Value) (wr : World) : Prop := ∃ (k : Nat) (q : Option Addr), k ≤ 2 ∧ i = .int .i64 k ∧ p = .pointer q ∧ NoStrip wr q ∧ (∀ z, q = some ⟨z, 0, none⟩ → wr.cell? ⟨z, 3, none⟩ = some (.int .i64 0)) ∧ Kept [] w wr
def SlkB (w : World) (i : Value) (wr : World) : Prop := ∃ n : Int, -2 ≤ n ∧ n ≤ 5 ∧ i = .int .i64 n ∧ Kept [] w wr
def SlkC (w : World) (i : Value) (wr : World) : Prop := ∃ n : Int, -1 ≤ n ∧ n ≤ 6 ∧ i = .int .i64 n ∧ Kept [] w wr

set_option maxHeartbeats 8000000 in
set_option maxRecDepth 100000 in
theorem slotsKnown_walk (w : World) : Calls Try.prog 17 #[] w (TruePost w) := by
  have kc := fun (w : World) (C : Array Value) (n c : Nat) => Lib.run_convert_bytes_const (P := Try.prog) w 34 5 C n c Try.underlying34 Try.underlying5
  go_enter Try.func17, Try.ntmps17
  go_wp2_with fail
  go_loopw [1, 2] (fun p i wr => SlkA w p i wr) (fun _ i _ => 2 - (intOf i).toNat)
  case atStart => exact ⟨0, none, by omega, rfl, rfl, .inl rfl, fun z h => (by cases h), Kept.refl _ _⟩
  case round =>
    obtain ⟨k, q, hk, rfl, rfl, hN, hN3, hkw⟩ := hrel
    by_cases hlt : k < 2
    · as_aux_lemma =>
        have i1 : (k : Int) < 2 := by omega
        have ca := slotsSave_none hN
        go_wp2_with fail
        refine ca.mono ?_
        rintro e w1 ⟨rfl, k1⟩
        have ct := slotsTurn_none (hN.kept k1) (fun z h => by
          have h1 := hN3 z h
          rcases hN with rfl | ⟨z', rfl, hl, _⟩
          · cases h
          · cases h
            exact (k1.cell (p := ⟨z, 3, none⟩) hl (by simp)).trans h1)
        clear ca
        go_wp2_with fail
        refine ct.mono ?_
        rintro e w2 ⟨rfl, rfl⟩
        clear ct
        go_wp2_with fail
        go_roundw
        case rel => exact ⟨k + 1, some ⟨w1.heap.size, 0, none⟩, by omega, by go_num, rfl, .inr ⟨_, rfl, by simp, by rw [blk_cell (heap_alloc_new _ _)]; rfl⟩, fun z h => by cases h; rw [blk_cell (heap_alloc_new _ _)]; rfl, (hkw.trans k1).trans (Kept.alloc [] _ _)⟩
        case measure => simp [intOf]; omega
    · have i1 : ¬ (k : Int) < 2 := by omega
      go_wp2_with fail
      refine (new_any 2 _ (by omega) (by omega)).mono ?_
      rintro e w1 ⟨a, f1, rfl, hD1, hA1, hN1⟩
      have cc := crash_dv hD1 none 0 0 [] (by simpa using SlAt.nil w1) (fun p e => by cases e)
      go_wp2_with fail
      refine cc.mono ?_
      rintro e w2 ⟨rfl, f2, hD2, hk2, hn2⟩
      have hdd : ((Dev.new 2).crash []).1.dead = true := rfl
      obtain ⟨d2, hd2⟩ : ∃ d2, ((Dev.new 2).crash []).1 = d2 := ⟨_, rfl⟩
      rw [hd2] at hD2 hdd
      have k02 : Kept [] w w2 := (hkw.trans hA1).trans' hk2 (fun j hj => .inr (Nat.le_trans hkw.size (hN1 j hj)))
      clear cc hd2 hD1 hA1 hN1 hk2 hn2 hN3
      have c1 := slotsOpen_none (w := w2) (p := none) (.inl rfl)
      go_wp2_with fail
      refine c1.mono ?_
      rintro e w3 ⟨rfl, k3⟩
      have hbn := heap_alloc_new w3 (.cells #[.slice none 0 0, .map none, .int .i64 0, .slice none 0 0, .int .i64 0, .int .i64 0, .bool false] 61)
      have kn := Kept.alloc [] w3 (.cells #[.slice none 0 0, .map none, .int .i64 0, .slice none 0 0, .int .i64 0, .int .i64 0, .bool false] 61)
      have c2 := slotsOpen_none (w := w3.alloc (.cells #[.slice none 0 0, .map none, .int .i64 0, .slice none 0 0, .int .i64 0, .int .i64 0, .bool false] 61)) (p := some ⟨w3.heap.size, 0, none⟩) (.inr ⟨_, rfl, World.lt_of_heap hbn, by rw [blk_cell hbn]; rfl⟩)
      clear c1
      go_wp2_with fail
      refine c2.mono ?_
      rintro e w4 ⟨rfl, k4⟩
      have k24 : Kept [] w2 w4 := (k3.trans kn).trans k4
      have c3 := slotsOpen_any (hD2.new_kept k24) 0 (by unfold I64; omega)
      have hat : d2.at_ 0 = 100 := by simp [Dev.at_, hdd]
      clear c2 hbn kn
      go_wp2_with fail
      refine c3.mono ?_
      rintro e w5 ⟨k5, ho⟩
      rw [hat] at ho
      have he : e = .returned (.tuple #[.pointer none, .slice none 0 0, .int .i64 100]) := by
        rcases ho with ⟨_, h⟩ | ⟨h, _⟩ | ⟨h, _⟩
        · exact h
        · exact absurd h (by decide)
        · exact absurd h (by decide)
      subst he
      have k05 : Kept [] w w5 := (k02.trans k24).trans k5
      clear c3 ho hat hdd hD2 k3 k4 k24 k5 k02 hkw hN
      go_wp2_with fail
      go_loopw [14] (fun i wr => SlkB w5 i wr) (fun i _ => (5 - intOf i).toNat)
      case atStart => exact ⟨-2, by omega, by omega, rfl, Kept.refl _ _⟩
      case round =>
        obtain ⟨f, hf1, hf2, rfl, hki⟩ := hrel
        by_cases hit : f < 5
        · skip
          · go_wp2_with fail
            go_loopw [15] (fun i wr => SlkC w5 i wr) (fun i _ => (6 - intOf i).toNat)
            case atStart => exact ⟨-1, by omega, by omega, rfl, hki⟩
            case round =>
              obtain ⟨n, hn1, hn2, rfl, hkk⟩ := hrel
              by_cases hkt : n < 6
              · obtain ⟨kA, hkA⟩ : ∃ kA : Nat, 98 + max n 0 = (kA : Int) := ⟨(98 + max n 0).toNat, by omega⟩
                have hkA1 : kA ≤ 103 := by omega
                obtain ⟨j0, hj0, ju0, ju1, ju2⟩ := info_parts info_u8
                have hmk := fun wx : World => run_make (P := Try.prog) wx 34 5 j0 _ Try.underlying34 hj0 ju0 .i64 .i64 (kA : Int) (kA : Int) (by omega) (Int.le_refl _) (by rw [ju2]; omega) (by omega)
                simp only [ju1, Int.toNat_natCast, Nat.mul_one, show (Value.int .u8 0).cells = #[.int .u8 0] from rfl] at hmk
                obtain ⟨W0, hW0⟩ : ∃ W0, wr = W0 := ⟨_, rfl⟩
                subst hW0
                obtain ⟨W1, h1⟩ : ∃ W, wr.alloc (.cells #[.int .u8 97] 5 (1, 2)) = W := ⟨_, rfl⟩
                have s1 : SlAt W1 (some ⟨wr.heap.size, 0, none⟩) 1 1 (u8vs [97]) := by rw [← h1]; exact SlAt.blk (heap_alloc_new _ _) rfl (by unfold maxLen; omega)
                have k1 : Kept [] wr W1 := by rw [← h1]; exact Kept.alloc [] _ _
                obtain ⟨W2, h2⟩ : ∃ W, W1.alloc (.cells (madeCells #[.int .u8 0] kA) 5) = W := ⟨_, rfl⟩
                have s2 : SlAt W2 (some ⟨W1.heap.size, 0, none⟩) kA kA (u8vs (List.replicate kA 0)) := by rw [← h2]; exact made_sl W1 kA (by unfold maxLen; omega)
                have k2 : Kept [] W1 W2 := by rw [← h2]; exact Kept.alloc [] _ _
                obtain ⟨W3, h3⟩ : ∃ W, W2.alloc (.cells #[.int .u8 98] 5 (1, 2)) = W := ⟨_, rfl⟩
                have s3 : SlAt W3 (some ⟨W2.heap.size, 0, none⟩) 1 1 (u8vs [98]) := by rw [← h3]; exact SlAt.blk (heap_alloc_new _ _) rfl (by unfold maxLen; omega)
                have k3 : Kept [] W2 W3 := by rw [← h3]; exact Kept.alloc [] _ _
                obtain ⟨W4, h4⟩ : ∃ W, W3.alloc (.cells #[.int .i64 n] 3) = W := ⟨_, rfl⟩
                have s4 : SlAt W4 (some ⟨W3.heap.size, 0, none⟩) 1 1 (([n] : List Int).map i64v) := by rw [← h4]; exact SlAt.blk (heap_alloc_new _ _) rfl (by unfold maxLen; omega)
                have k4 : Kept [] W3 W4 := by rw [← h4]; exact Kept.alloc [] _ _
                obtain ⟨W5, h5⟩ : ∃ W, W4.alloc (.cells #[.int .u8 99] 5 (1, 2)) = W := ⟨_, rfl⟩
                have s5 : SlAt W5 (some ⟨W4.heap.size, 0, none⟩) 1 1 (u8vs [99]) := by rw [← h5]; exact SlAt.blk (heap_alloc_new _ _) rfl (by unfold maxLen; omega)
                have k5 : Kept [] W4 W5 := by rw [← h5]; exact Kept.alloc [] _ _
                obtain ⟨W6, h6⟩ : ∃ W, W5.alloc (.cells #[.int .u8 100] 5 (1, 2)) = W := ⟨_, rfl⟩
                have s6 : SlAt W6 (some ⟨W5.heap.size, 0, none⟩) 1 1 (u8vs [100]) := by rw [← h6]; exact SlAt.blk (heap_alloc_new _ _) rfl (by unfold maxLen; omega)
                have k6 : Kept [] W5 W6 := by rw [← h6]; exact Kept.alloc [] _ _
                obtain ⟨W7, h7⟩ : ∃ W, W6.alloc (.cells #[.int .i64 1] 3) = W := ⟨_, rfl⟩
                have s7 : SlAt W7 (some ⟨W6.heap.size, 0, none⟩) 1 1 (([1] : List Int).map i64v) := by rw [← h7]; exact SlAt.blk (heap_alloc_new _ _) rfl (by unfold maxLen; omega)
                have k7 : Kept [] W6 W7 := by rw [← h7]; exact Kept.alloc [] _ _
                obtain ⟨W8, h8⟩ : ∃ W, W7.alloc (.cells #[.int .u8 101] 5 (1, 2)) = W := ⟨_, rfl⟩
                have s8 : SlAt W8 (some ⟨W7.heap.size, 0, none⟩) 1 1 (u8vs [101]) := by rw [← h8]; exact SlAt.blk (heap_alloc_new _ _) rfl (by unfold maxLen; omega)
                have k8 : Kept [] W7 W8 := by rw [← h8]; exact Kept.alloc [] _ _
                obtain ⟨W9, h9⟩ : ∃ W, W8.alloc (.cells #[.int .u8 0, .int .u8 0, .int .u8 0, .int .u8 0, .int .u8 0, .int .u8 0, .int .u8 0, .int .u8 9, .int .u8 101] 5) = W := ⟨_, rfl⟩
                have s9 : SlAt W9 (some ⟨W8.heap.size, 0, none⟩) 9 9 (u8vs [0, 0, 0, 0, 0, 0, 0, 9, 101]) := by rw [← h9]; exact SlAt.blk (heap_alloc_new _ _) rfl (by unfold maxLen; omega)
                have k9 : Kept [] W8 W9 := by rw [← h9]; exact Kept.alloc [] _ _
                obtain ⟨W10, h10⟩ : ∃ W, W9.alloc (.cells #[.int .u8 102] 5 (1, 2)) = W := ⟨_, rfl⟩
                have s10 : SlAt W10 (some ⟨W9.heap.size, 0, none⟩) 1 1 (u8vs [102]) := by rw [← h10]; exact SlAt.blk (heap_alloc_new _ _) rfl (by unfold maxLen; omega)
                have k10 : Kept [] W9 W10 := by rw [← h10]; exact Kept.alloc [] _ _
                have q10 := Kept.refl [] W10
                have q9 := k10.trans q10
                have q8 := k9.trans q9
                have q7 := k8.trans q8
                have q6 := k7.trans q7
                have q5 := k6.trans q6
                have q4 := k5.trans q5
                have q3 := k4.trans q4
                have q2 := k3.trans q3
                have q1 := k2.trans q2
                have q0 := k1.trans q1
                replace s1 := s1.kept q1 (by simp)
                replace s2 := s2.kept q2 (by simp)
                replace s3 := s3.kept q3 (by simp)
                replace s4 := s4.kept q4 (by simp)
                replace s5 := s5.kept q5 (by simp)
                replace s6 := s6.kept q6 (by simp)
                replace s7 := s7.kept q7 (by simp)
                replace s8 := s8.kept q8 (by simp)
                replace s9 := s9.kept q9 (by simp)
                obtain ⟨W, hW⟩ : ∃ W, W10.alloc (.cells #[.int .i64 0, .int .i64 0, .slice (some ⟨wr.heap.size, 0, none⟩) 1 1, .slice none 0 0, .int .i64 4, .int .i64 n, .slice none 0 0, .slice none 0 0, .int .i64 0, .int .i64 0, .slice (some ⟨W1.heap.size, 0, none⟩) kA kA, .slice none 0 0, .int .i64 4, .int .i64 (-1), .slice none 0 0, .slice none 0 0, .int .i64 0, .int .i64 0, .slice (some ⟨W2.heap.size, 0, none⟩) 1 1, .slice none 0 0, .int .i64 3, .int .i64 n, .slice none 0 0, .slice (some ⟨W3.heap.size, 0, none⟩) 1 1, .int .i64 0, .int .i64 0, .slice (some ⟨W4.heap.size, 0, none⟩) 1 1, .slice none 0 0, .int .i64 0, .int .i64 0, .slice (some ⟨W5.heap.size, 0, none⟩) 1 1, .slice none 0 0, .int .i64 2, .int .i64 0, .slice none 0 0, .slice (some ⟨W6.heap.size, 0, none⟩) 1 1, .int .i64 0, .int .i64 0, .slice (some ⟨W7.heap.size, 0, none⟩) 1 1, .slice none 0 0, .int .i64 5, .int .i64 n, .slice (some ⟨W8.heap.size, 0, none⟩) 9 9, .slice none 0 0, .int .i64 1, .int .i64 0, .slice none 0 0, .slice none 0 0, .int .i64 0, .int .i64 0, .slice (some ⟨W9.heap.size, 0, none⟩) 1 1, .slice none 0 0] 88) = W := ⟨_, rfl⟩
                have hb : W.heap[W10.heap.size]? = some (.cells #[.int .i64 0, .int .i64 0, .slice (some ⟨wr.heap.size, 0, none⟩) 1 1, .slice none 0 0, .int .i64 4, .int .i64 n, .slice none 0 0, .slice none 0 0, .int .i64 0, .int .i64 0, .slice (some ⟨W1.heap.size, 0, none⟩) kA kA, .slice none 0 0, .int .i64 4, .int .i64 (-1), .slice none 0 0, .slice none 0 0, .int .i64 0, .int .i64 0, .slice (some ⟨W2.heap.size, 0, none⟩) 1 1, .slice none 0 0, .int .i64 3, .int .i64 n, .slice none 0 0, .slice (some ⟨W3.heap.size, 0, none⟩) 1 1, .int .i64 0, .int .i64 0, .slice (some ⟨W4.heap.size, 0, none⟩) 1 1, .slice none 0 0, .int .i64 0, .int .i64 0, .slice (some ⟨W5.heap.size, 0, none⟩) 1 1, .slice none 0 0, .int .i64 2, .int .i64 0, .slice none 0 0, .slice (some ⟨W6.heap.size, 0, none⟩) 1 1, .int .i64 0, .int .i64 0, .slice (some ⟨W7.heap.size, 0, none⟩) 1 1, .slice none 0 0, .int .i64 5, .int .i64 n, .slice (some ⟨W8.heap.size, 0, none⟩) 9 9, .slice none 0 0, .int .i64 1, .int .i64 0, .slice none 0 0, .slice none 0 0, .int .i64 0, .int .i64 0, .slice (some ⟨W9.heap.size, 0, none⟩) 1 1, .slice none 0 0] 88 (0, 0)) := by rw [← hW]; exact heap_alloc_new _ _
                have hk : Kept [] W10 W := by rw [← hW]; exact Kept.alloc [] _ _
                have ok : ∀ d ∈ ([⟨0, 0, ⟨some ⟨wr.heap.size, 0, none⟩, 1, 1, [97]⟩, none, 0, 0, []⟩, ⟨4, n, ⟨none, 0, 0, []⟩, none, 0, 0, []⟩, ⟨0, 0, ⟨some ⟨W1.heap.size, 0, none⟩, kA, kA, List.replicate kA 0⟩, none, 0, 0, []⟩, ⟨4, (-1), ⟨none, 0, 0, []⟩, none, 0, 0, []⟩, ⟨0, 0, ⟨some ⟨W2.heap.size, 0, none⟩, 1, 1, [98]⟩, none, 0, 0, []⟩, ⟨3, n, ⟨none, 0, 0, []⟩, some ⟨W3.heap.size, 0, none⟩, 1, 1, [n]⟩, ⟨0, 0, ⟨some ⟨W4.heap.size, 0, none⟩, 1, 1, [99]⟩, none, 0, 0, []⟩, ⟨0, 0, ⟨some ⟨W5.heap.size, 0, none⟩, 1, 1, [100]⟩, none, 0, 0, []⟩, ⟨2, 0, ⟨none, 0, 0, []⟩, some ⟨W6.heap.size, 0, none⟩, 1, 1, [1]⟩, ⟨0, 0, ⟨some ⟨W7.heap.size, 0, none⟩, 1, 1, [101]⟩, none, 0, 0, []⟩, ⟨5, n, ⟨some ⟨W8.heap.size, 0, none⟩, 9, 9, [0, 0, 0, 0, 0, 0, 0, 9, 101]⟩, none, 0, 0, []⟩, ⟨1, 0, ⟨none, 0, 0, []⟩, none, 0, 0, []⟩, ⟨0, 0, ⟨some ⟨W9.heap.size, 0, none⟩, 1, 1, [102]⟩, none, 0, 0, []⟩] : List D11), d.Ok W ∧ d.data.n ≤ 900 := by
                  simp only [List.forall_mem_cons]
                  refine ⟨⟨?_, by (try dsimp only); omega⟩, ⟨?_, by (try dsimp only); omega⟩, ⟨?_, by (try dsimp only); omega⟩, ⟨?_, by (try dsimp only); omega⟩, ⟨?_, by (try dsimp only); omega⟩, ⟨?_, by (try dsimp only); omega⟩, ⟨?_, by (try dsimp only); omega⟩, ⟨?_, by (try dsimp only); omega⟩, ⟨?_, by (try dsimp only); omega⟩, ⟨?_, by (try dsimp only); omega⟩, ⟨?_, by (try dsimp only); omega⟩, ⟨?_, by (try dsimp only); omega⟩, ⟨?_, by (try dsimp only); omega⟩, fun d hd => by cases hd⟩
                  · exact ⟨by unfold I64; (try dsimp only); omega, by unfold I64; (try dsimp only); omega, ⟨s1.kept hk (by simp), fun e => by cases e⟩, SlAt.nil _, by (try dsimp only); omega, fun x hx => by cases hx⟩
                  · exact ⟨by unfold I64; (try dsimp only); omega, by unfold I64; (try dsimp only); omega, ⟨SlAt.nil _, fun _ => rfl⟩, SlAt.nil _, by (try dsimp only); omega, fun x hx => by cases hx⟩
                  · exact ⟨by unfold I64; (try dsimp only); omega, by unfold I64; (try dsimp only); omega, ⟨s2.kept hk (by simp), fun e => by cases e⟩, SlAt.nil _, by (try dsimp only); omega, fun x hx => by cases hx⟩
                  · exact ⟨by unfold I64; (try dsimp only); omega, by unfold I64; (try dsimp only); omega, ⟨SlAt.nil _, fun _ => rfl⟩, SlAt.nil _, by (try dsimp only); omega, fun x hx => by cases hx⟩
                  · exact ⟨by unfold I64; (try dsimp only); omega, by unfold I64; (try dsimp only); omega, ⟨s3.kept hk (by simp), fun e => by cases e⟩, SlAt.nil _, by (try dsimp only); omega, fun x hx => by cases hx⟩
                  · exact ⟨by unfold I64; (try dsimp only); omega, by unfold I64; (try dsimp only); omega, ⟨SlAt.nil _, fun _ => rfl⟩, s4.kept hk (by simp), by (try dsimp only); omega, fun x hx => by simp only [List.mem_cons, List.not_mem_nil, or_false] at hx; unfold I64; omega⟩
                  · exact ⟨by unfold I64; (try dsimp only); omega, by unfold I64; (try dsimp only); omega, ⟨s5.kept hk (by simp), fun e => by cases e⟩, SlAt.nil _, by (try dsimp only); omega, fun x hx => by cases hx⟩
                  · exact ⟨by unfold I64; (try dsimp only); omega, by unfold I64; (try dsimp only); omega, ⟨s6.kept hk (by simp), fun e => by cases e⟩, SlAt.nil _, by (try dsimp only); omega, fun x hx => by cases hx⟩
                  · exact ⟨by unfold I64; (try dsimp only); omega, by unfold I64; (try dsimp only); omega, ⟨SlAt.nil _, fun _ => rfl⟩, s7.kept hk (by simp), by (try dsimp only); omega, fun x hx => by simp only [List.mem_cons, List.not_mem_nil, or_false] at hx; unfold I64; omega⟩
                  · exact ⟨by unfold I64; (try dsimp only); omega, by unfold I64; (try dsimp only); omega, ⟨s8.kept hk (by simp), fun e => by cases e⟩, SlAt.nil _, by (try dsimp only); omega, fun x hx => by cases hx⟩
                  · exact ⟨by unfold I64; (try dsimp only); omega, by unfold I64; (try dsimp only); omega, ⟨s9.kept hk (by simp), fun e => by cases e⟩, SlAt.nil _, by (try dsimp only); omega, fun x hx => by cases hx⟩
                  · exact ⟨by unfold I64; (try dsimp only); omega, by unfold I64; (try dsimp only); omega, ⟨SlAt.nil _, fun _ => rfl⟩, SlAt.nil _, by (try dsimp only); omega, fun x hx => by cases hx⟩
                  · exact ⟨by unfold I64; (try dsimp only); omega, by unfold I64; (try dsimp only); omega, ⟨s10.kept hk (by simp), fun e => by cases e⟩, SlAt.nil _, by (try dsimp only); omega, fun x hx => by cases hx⟩
                have hl : D11s W (some ⟨W10.heap.size, 0, none⟩) 13 13 [⟨0, 0, ⟨some ⟨wr.heap.size, 0, none⟩, 1, 1, [97]⟩, none, 0, 0, []⟩, ⟨4, n, ⟨none, 0, 0, []⟩, none, 0, 0, []⟩, ⟨0, 0, ⟨some ⟨W1.heap.size, 0, none⟩, kA, kA, List.replicate kA 0⟩, none, 0, 0, []⟩, ⟨4, (-1), ⟨none, 0, 0, []⟩, none, 0, 0, []⟩, ⟨0, 0, ⟨some ⟨W2.heap.size, 0, none⟩, 1, 1, [98]⟩, none, 0, 0, []⟩, ⟨3, n, ⟨none, 0, 0, []⟩, some ⟨W3.heap.size, 0, none⟩, 1, 1, [n]⟩, ⟨0, 0, ⟨some ⟨W4.heap.size, 0, none⟩, 1, 1, [99]⟩, none, 0, 0, []⟩, ⟨0, 0, ⟨some ⟨W5.heap.size, 0, none⟩, 1, 1, [100]⟩, none, 0, 0, []⟩, ⟨2, 0, ⟨none, 0, 0, []⟩, some ⟨W6.heap.size, 0, none⟩, 1, 1, [1]⟩, ⟨0, 0, ⟨some ⟨W7.heap.size, 0, none⟩, 1, 1, [101]⟩, none, 0, 0, []⟩, ⟨5, n, ⟨some ⟨W8.heap.size, 0, none⟩, 9, 9, [0, 0, 0, 0, 0, 0, 0, 9, 101]⟩, none, 0, 0, []⟩, ⟨1, 0, ⟨none, 0, 0, []⟩, none, 0, 0, []⟩, ⟨0, 0, ⟨some ⟨W9.heap.size, 0, none⟩, 1, 1, [102]⟩, none, 0, 0, []⟩] := D11s.of_block hb rfl (by omega) (by unfold maxLen; omega) (by rfl) (fun d hd => (ok d hd).1)
                have cd := slotsDo_any W f (by unfold I64; omega) _ 13 13 _ hl (fun d hd => (ok d hd).2)
                have kW : Kept [] wr W := q0.trans hk
                clear s1 k1 s2 k2 s3 k3 s4 k4 s5 k5 s6 k6 s7 k7 s8 k8 s9 k9 s10 k10 q0 q1 q2 q3 q4 q5 q6 q7 q8 q9 q10 hb hk ok hl
                go_wp2_with fail
                refine cd.mono ?_
                rintro e w6 ⟨rfl, k6⟩
                clear cd hW h1 h2 h3 h4 h5 h6 h7 h8 h9 h10
                go_wp2_with fail
                go_roundw
                case rel => exact ⟨n + 1, by omega, by omega, by go_num, (hkk.trans kW).trans k6⟩
                case measure => simp [intOf]; omega
              · go_wp2_with fail
                go_roundw
                case rel => exact ⟨f + 1, by omega, by omega, by go_num, hkk⟩
                case measure => simp [intOf]; omega
        · have i2 : ¬ f < 5 := by omega
          have k05b := k05.trans hki
          clear k05 hki
          have hno : Sl.of 0 (slotB 1 [113]) (slotB 1 [113]) = none := by
            unfold Sl.of
            rw [readSlot_slotB (by omega) (by omega) (by decide)]
            simp
          go_wp2_with fail
          refine (new_any 2 _ (by omega) (by omega)).mono ?_
          rintro e wn ⟨a2, f2, rfl, hD2, hA2, hN2⟩
          go_wp2_with fail
          refine (slots_new (w0 := w) (n := 2) (f := 0) hD2 (k05b.trans hA2) (fun j hj => Nat.le_trans k05b.size (hN2 j hj)) (by omega)).mono ?_
          rintro e wo ⟨z, F, A, c, rfl, h2⟩
          clear hD2 hA2 hN2 k05b
          go_wp2_with fail
          refine ((h2.next (Kept.alloc [] wo (.cells #[.int .u8 113] 5 (1, 2)))).saveC (SlOn.new (n := 2) (f := 0) (by omega)) (new_calm 2) (Dev.Sure.new 2) (by decide) _ 1 1 [113] (SlAt.blk (heap_alloc_new _ _) rfl (by unfold maxLen; omega)) (by decide) (by decide)).mono ?_
          rintro e w3 ⟨rfl, d1, F1, h3, hs1, hc1, hq1, hS1, hW1, _⟩
          have hS1' : d1.secs = [slotB 1 [113], zeros] := by rw [hS1]; rfl
          have hwk1 : d1.works = 2 := hW1
          have HS1 := Lib.hid hS1'; have HW1 := Lib.hid hwk1
          clear h2 hS1 hW1 hS1' hwk1
          obtain ⟨fb, hDb, _⟩ := h3.dv
          go_wp2_with fail
          refine (read_dv hDb 0 (at_live hc1.dead (i := 0) (by rw [HS1.out]; decide)) (b := slotB 1 [113]) (by rw [HS1.out]; rfl)).mono ?_
          rintro e w6 ⟨A6, c6, rfl, hown6, hbel6⟩
          have h6 := h3.next (Kept.of_below (F := []) hbel6)
          obtain ⟨hs6, hb6⟩ := ClonePost.sl hown6
          have hlt3 := h3.at_.lt
          obtain ⟨d3, e3, hc3, hS3⟩ : ∃ d3, d1.write 1 (slotB 1 [113]) = (d3, 0) ∧ d3.Calm ∧ d3.secs = d1.secs.set 1 (slotB 1 [113]) := by
            obtain ⟨k1, k2, k3, k4, _⟩ := hc1.write (i := 1) (b := slotB 1 [113]) (by rw [HS1.out]; decide) (length_slotB (by decide))
            exact ⟨_, k1, k2, k3⟩
          have hcw := td_dv h6.at_ (f := 24) (args := #[.pointer (some ⟨a2, 0, none⟩), .int .i64 1, .slice A6 128 c6]) (r := d1.write 1 (slotB 1 [113])) (fun fp hD hF => write_dv hD 1 (slotB 1 [113]) _ 128 c6 hs6 (fun p e hm => by
            have h7 := hb6 p e
            have h8 := hlt3 _ (hF _ hm)
            omega) (by rw [HW1.out]; omega))
          rw [e3] at hcw
          have hS3' : d3.secs = [slotB 1 [113], slotB 1 [113]] := by rw [hS3, HS1.out]; rfl
          have HS3 := Lib.hid hS3'
          clear hDb h3 hown6 hbel6 e3 hS3 hS3'
          go_wp2_with fail
          refine hcw.mono ?_
          rintro e w8 ⟨rfl, F8, k8, st8⟩
          have h8 := h6.step k8 st8
          clear hcw h6 k8 st8
          obtain ⟨fd, hDd, _⟩ := h8.dv
          go_wp2_with fail
          refine (slots_no hDd hc3.dead (f := 0) (by rw [HS3.out]; simp) (x := slotB 1 [113]) (y := slotB 1 [113]) (by rw [HS3.out]; rfl) (by rw [HS3.out]; rfl) hno).mono ?_
          rintro e w9 ⟨rfl, hk9⟩
          have hk := (h8.next hk9).kept
          clear hDd hk9 h8 hno
          go_wp2_with fail
          refine (awake11_any _).mono ?_
          rintro e wa ⟨rfl, ka⟩
          go_wp2_with fail
          go_ret
          exact ⟨rfl, hk.trans ka⟩
end Go.Proofs.Ytbnflbkaogpnbaa
