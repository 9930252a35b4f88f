/- Maps from strings to boards (pointers) in memory: look-ups and stores. No conditions. -/
import Derived.Test.YtpfichbhhpnioaaGreatDoorShop
import Derived.StringKeys
namespace Go.Proofs.YtpfichbhhpnioaaGreatDoor
open Go.RowKit Go.Sort Go.Maps

/-- a pointer to a whole block, as a number; nil. -/
def ptrE : Value → Option (DataW Unit × List MemPlace)
  | .pointer none => some (.nil, [])
  | .pointer (some ⟨g, 0, none⟩) => some (.lit (.int .i64 g), [])
  | _ => none
theorem ptrE_nil {v : Value} {ps : List MemPlace} (h : ptrE v = some (.nil, ps)) : v = .pointer none := by
  unfold ptrE at h
  split at h
  · rfl
  · simp at h
  · cases h
theorem ptrE_at {v : Value} {g : Nat} {ps : List MemPlace} (h : ptrE v = some (.lit (.int .i64 g), ps)) : v = .pointer (some ⟨g, 0, none⟩) := by
  unfold ptrE at h
  split at h
  · simp at h
  · simp at h
    obtain ⟨h, _⟩ := h
    have h2 := Int.ofNat.inj h
    subst h2; rfl
  · cases h
theorem strK : Keyed Tryz.prog 9 := string_keyed Tryz.underlying9
theorem zeroB (w : World) : (zeroValue 237).run Tryz.prog w = .ok (.pointer none) w := by kernel_rfl
abbrev Boards (w : World) (b n : Nat) (D : DataW Unit) : Prop := w.ownsMap Tryz.prog 9 ptrE b n D
set_option maxRecDepth 100000 in
theorem look_none {w : World} {b n : Nat} {D : DataW Unit} (h : Boards w b n D) (s : ByteArray) (hs : s.size ≤ maxLen) (hD : D.atKey (.string s.data.toList) .nil = .nil) : (Instr.lookup 238 (.map (some b)) (.string s) false).run Tryz.prog w = .ok (.pointer none) w := by
  obtain ⟨v, ps, hrun, hv⟩ := h.lookup strK Tryz.underlying238 (zeroB w) (zd := .nil) (zp := []) rfl (Go.WideMaps.keyOf_string_mk (s := s) Tryz.underlying9 hs)
  rw [hD] at hv
  rw [ptrE_nil hv] at hrun
  exact hrun
set_option maxRecDepth 100000 in
theorem look_some {w : World} {b n g : Nat} {D : DataW Unit} (h : Boards w b n D) (s : ByteArray) (hs : s.size ≤ maxLen) (hD : D.atKey (.string s.data.toList) .nil = .lit (.int .i64 g)) : (Instr.lookup 238 (.map (some b)) (.string s) false).run Tryz.prog w = .ok (.pointer (some ⟨g, 0, none⟩)) w := by
  obtain ⟨v, ps, hrun, hv⟩ := h.lookup strK Tryz.underlying238 (zeroB w) (zd := .nil) (zp := []) rfl (Go.WideMaps.keyOf_string_mk (s := s) Tryz.underlying9 hs)
  rw [hD] at hv
  rw [ptrE_at hv] at hrun
  exact hrun
set_option maxRecDepth 100000 in
theorem store_board {w : World} {b n : Nat} {D : DataW Unit} (h : Boards w b n D) (hn : n < maxLen) (s : ByteArray) (hs : s.size ≤ maxLen) (g : Nat) :
    ∃ w', (Instr.mapUpdate 238 (.map (some b)) (.string s) (.pointer (some ⟨g, 0, none⟩))).run Tryz.prog w = .ok () w' ∧ Boards w' b (n + 1) (D.put (.string s.data.toList) (.lit (.int .i64 g))) ∧ w.grownBy w' (some b) :=
  h.update strK Tryz.underlying238 hn (Go.WideMaps.keyOf_string_mk (s := s) Tryz.underlying9 hs) (show ptrE (.pointer (some ⟨g, 0, none⟩)) = some (.lit (.int .i64 g), []) from rfl)
end Go.Proofs.YtpfichbhhpnioaaGreatDoor
