/- The chapter's examples, on the plain model. -/
import Derived.Test.YtbnflbkaogpnbaaM0
namespace Go.Proofs.Ytbnflbkaogpnbaa

theorem keys_two (d : Dev) (b c : Blk) (h : d.sure = [(0, b), (2, c)]) : d.keys = [0, 2] := by
  unfold Dev.keys
  rw [h]
  exact List.mergeSort_of_pairwise (by simp)
theorem keys_one (d : Dev) (i : Nat) (b : Blk) (h : d.sure = [(i, b)]) : d.keys = [i] := by
  unfold Dev.keys
  rw [h]
  exact List.mergeSort_of_pairwise (by simp)

/-- A sector full of one byte. -/
def fullB (x : UInt8) : Blk := List.replicate 128 x
theorem length_fullB (x : UInt8) : (fullB x).length = 128 := by simp [fullB]

def e0 : Dev := Dev.new 3
def e1 : Dev := ⟨[fullB 97, zeros, zeros], [(0, zeros)], -1, [], -1, 1, false⟩
def e2 : Dev := ⟨[fullB 97, zeros, fullB 98], [(0, zeros), (2, zeros)], -1, [], -1, 2, false⟩
def e3 : Dev := ⟨[fullB 97, zeros, fullB 98], [], -1, [], -1, 3, false⟩
def e4 : Dev := ⟨[fullB 98, zeros, fullB 98], [(0, fullB 97)], -1, [], -1, 4, false⟩
def e5 : Dev := ⟨[fullB 98, zeros, fullB 97], [(0, fullB 97), (2, fullB 98)], -1, [], -1, 5, false⟩
def e6 : Dev := ⟨[fullB 97, zeros, fullB 97], [], -1, [], -1, 5, true⟩
def e7 : Dev := ⟨[fullB 97, zeros, fullB 97], [], -1, [], -1, 5, false⟩
def e8 : Dev := ⟨[fullB 97, zeros, fullB 97], [], 0, [1], -1, 5, false⟩
def e9 : Dev := ⟨[fullB 97, fullB 97, fullB 97], [], -1, [1], -1, 5, true⟩
def e10 : Dev := ⟨[fullB 97, fullB 97, fullB 97], [], -1, [1], -1, 5, false⟩
def e11 : Dev := ⟨[fullB 97, fullB 97, fullB 97], [], -1, [1], 1, 5, false⟩
def e12 : Dev := ⟨[fullB 97, fullB 98, fullB 97], [(1, fullB 97)], -1, [1], 0, 6, false⟩
def e13 : Dev := ⟨[fullB 97, fullB 98, fullB 97], [(1, fullB 97)], -1, [1], -1, 6, false⟩
def e14 : Dev := ⟨[fullB 97, fullB 98, fullB 97], [], -1, [1], -1, 7, false⟩

theorem write_ok {d : Dev} {i : Int} {b : Blk} (h1 : d.at_ i = 0) (h2 : b.length = 128) (h3 : d.till ≠ 0) (h4 : d.fail ≠ 0) : d.write i b = ((d.midst i.toNat b).counted, 0) := by
  simp [Dev.write, h1, h2, h3, h4]
theorem write_falls {d : Dev} {i : Int} {b : Blk} (h1 : d.at_ i = 0) (h2 : b.length = 128) (h3 : d.till ≠ 0) (h4 : d.fail = 0) : d.write i b = ((d.midst i.toNat b).gone d.keep, 100) := by
  simp [Dev.write, h1, h2, h3, h4]

theorem s1 : e0.write 0 (fullB 97) = (e1, 0) := by rw [write_ok rfl (length_fullB _) (by decide) (by decide)]; rfl
theorem s2 : e1.write 2 (fullB 98) = (e2, 0) := by rw [write_ok rfl (length_fullB _) (by decide) (by decide)]; rfl
theorem s3 : e2.flush = (e3, 0) := rfl
theorem s4 : e3.write 0 (fullB 98) = (e4, 0) := by rw [write_ok rfl (length_fullB _) (by decide) (by decide)]; rfl
theorem s5 : e4.write 2 (fullB 97) = (e5, 0) := by rw [write_ok rfl (length_fullB _) (by decide) (by decide)]; rfl
theorem s6 : e5.crash [0, 1] = (e6, 0) := by
  show (e5.gone [0, 1], (0 : Int)) = (e6, 0)
  unfold Dev.gone
  rw [keys_two e5 (fullB 97) (fullB 98) rfl]
  rfl
theorem s7 : e6.boot = e7 := rfl
theorem s8 : e7.write 3 (fullB 97) = (e7, 9) := rfl
theorem s9 : e7.write 0 [] = (e7, 2) := rfl
theorem s10 : e7.failAt 0 [1] = (e8, 0) := rfl
theorem s11 : e8.write 1 (fullB 97) = (e9, 100) := by
  rw [write_falls rfl (length_fullB _) (by decide) (by decide)]
  show ((e8.midst 1 (fullB 97)).gone [1], (100 : Int)) = (e9, 100)
  unfold Dev.gone
  rw [keys_one (e8.midst 1 (fullB 97)) 1 zeros rfl]
  rfl
theorem s12 : e9.boot = e10 := rfl
theorem s13 : e10.refuse 1 = (e11, 0) := rfl
theorem s14 : e11.write 1 (fullB 98) = (e12, 0) := by rw [write_ok rfl (length_fullB _) (by decide) (by decide)]; rfl
theorem s15 : e12.flush = (e12, 101) := rfl
theorem s16 : e12.refuse (-1) = (e13, 0) := rfl
theorem s17 : e13.flush = (e14, 0) := rfl
end Go.Proofs.Ytbnflbkaogpnbaa
