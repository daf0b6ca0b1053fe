/- bytes.Equal, slices.Concat. -/
import Derived.Test.YtbnflbkaogpnbaaU2
import Derived.Laws.BytesArg
import Derived.Lib.Bytes
namespace Go.Proofs.Ytbnflbkaogpnbaa
open Go.RowKit

def nums (xs : List UInt8) : List Int := xs.map fun b => (b.toNat : Int)

theorem SlAt.nums {w : World} {b o n c : Nat} {xs : List UInt8} (h : SlAt w (some ⟨b, o, none⟩) n c (u8vs xs)) : (nums xs).length = n ∧ ∀ i, i < n → w.cell? ⟨b, o + i, none⟩ = some (.int .u8 ((nums xs).getD i 0)) := by
  have hl : xs.length = n := by simpa [u8vs] using h.len
  refine ⟨by simp [Go.Proofs.Ytbnflbkaogpnbaa.nums, hl], fun i hi => ?_⟩
  obtain ⟨b2, o2, e, _, hc⟩ := h.cells (by omega)
  cases e
  rw [hc i hi]
  simp [u8vs, Go.Proofs.Ytbnflbkaogpnbaa.nums, List.getD, List.getElem?_eq_getElem (show i < xs.length by omega), u8v]

theorem nums_toList (xs : List UInt8) : (strOfNums (nums xs)).toList = xs := by
  rw [Lib.strOfNums_toList, Lib.bytesOf, nums, List.map_map]
  conv => rhs; rw [← List.map_id xs]
  exact List.map_congr_left fun b _ => by simp [UInt8.ofNat_toNat]

set_option maxHeartbeats 400000 in
theorem bytesEqual_any (w : World) (A B : Option Addr) (n c m d : Nat) (xs ys : List UInt8) (hx : SlAt w A n c (u8vs xs)) (hy : SlAt w B m d (u8vs ys)) (hn : 0 < n) (hm : 0 < m) :
    Calls Try.prog 110 #[.slice A n c, .slice B m d] w fun e w' => e = .returned (.bool (decide (xs = ys))) ∧ w = w' := by
  obtain ⟨b, o, rfl, _, _⟩ := hx.cells hn
  obtain ⟨b', o', rfl, _, _⟩ := hy.cells hm
  obtain ⟨x1, x2⟩ := hx.nums
  obtain ⟨y1, y2⟩ := hy.nums
  have k1 := run_convert_bytes_arg w 34 5 Try.underlying34 Try.underlying5 b o n c (nums xs) x1 x2 9 Try.underlying9
  have k2 := run_convert_bytes_arg w 34 5 Try.underlying34 Try.underlying5 b' o' m d (nums ys) y1 y2 9 Try.underlying9
  clear hx hy x1 x2 y1 y2
  go_enter Try.func110, Try.ntmps110
  go_wp2_with fail
  go_ret
  exact ⟨ret_bool (by rw [nums_toList, nums_toList]; by_cases e : xs = ys <;> simp [e]), rfl⟩
end Go.Proofs.Ytbnflbkaogpnbaa
