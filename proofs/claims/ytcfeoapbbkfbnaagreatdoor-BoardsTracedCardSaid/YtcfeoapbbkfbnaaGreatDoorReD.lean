/- The maps of both stores: from names to strings, numbers, reels, and to rows (their headers). No conditions. -/
import Derived.Test.YtcfeoapbbkfbnaaGreatDoorRe2
import Derived.Test.YtcfeoapbbkfbnaaGreatDoorSm
namespace Go.Proofs.YtcfeoapbbkfbnaaGreatDoor
open Go.RowKit Go.Sort Go.Maps

def rstrE : Value → Option (DataW Unit × List MemPlace)
  | .string s => some (.lit (.string s.data.toList), [])
  | _ => none
def rintE : Value → Option (DataW Unit × List MemPlace)
  | .int .i64 n => some (.lit (.int .i64 n), [])
  | _ => none
def rrelE : Value → Option (DataW Unit × List MemPlace)
  | .agg cs => match cs.toList with
    | [.string k, .string p, .int .i64 n] => some (.agg [.lit (.string k.data.toList), .lit (.string p.data.toList), .lit (.int .i64 n)], [])
    | _ => none
  | _ => none
theorem ba_ext {a b : ByteArray} (h : a.data.toList = b.data.toList) : a = b := by
  cases a; cases b; simp only at h; rw [Array.ext' h]
/-- numbers, by names. -/
def TMi : Mty Int := { t := 128, e := 3, V := .int .i64, d := fun n => .lit (.int .i64 n), R := rintE, z := 0 }
theorem TMi.ok : TMi.Ok := ⟨Tryz.underlying128, fun w => by kernel_rfl, fun _ => rfl, fun v a ps h => by
  unfold TMi rintE at h
  simp only at h
  split at h
  · simp at h; obtain ⟨h, _⟩ := h; subst h; rfl
  · cases h⟩
/-- strings, by names. -/
def TMs : Mty ByteArray := { t := 125, e := 9, V := .string, d := fun s => .lit (.string s.data.toList), R := rstrE, z := ByteArray.empty }
theorem TMs.ok : TMs.Ok := ⟨Tryz.underlying125, fun w => by kernel_rfl, fun _ => rfl, fun v a ps h => by
  unfold TMs rstrE at h
  simp only at h
  split at h
  · simp only [Option.some.injEq, Prod.mk.injEq, DataW.lit.injEq, Lit.string.injEq] at h
    obtain ⟨h, _⟩ := h
    show _ = Value.string a
    rw [ba_ext h]
  · cases h⟩
/-- reels, by names. -/
def TMr : Mty Rel := { t := 124, e := 73, V := fun x => .agg #[.string x.1, .string x.2.1, .int .i64 x.2.2], d := fun x => .agg [.lit (.string x.1.data.toList), .lit (.string x.2.1.data.toList), .lit (.int .i64 x.2.2)], R := rrelE, z := (ByteArray.empty, ByteArray.empty, 0) }
theorem TMr.ok : TMr.Ok := ⟨Tryz.underlying124, fun w => by kernel_rfl, fun _ => rfl, fun v a ps h => by
  unfold TMr rrelE at h
  simp only at h
  split at h
  · rename_i cs
    split at h
    · rename_i k p n hl
      simp only [Option.some.injEq, Prod.mk.injEq, DataW.agg.injEq, List.cons.injEq, DataW.lit.injEq, Lit.string.injEq, Lit.int.injEq, true_and, and_true] at h
      obtain ⟨⟨h1, h2, h3⟩, _⟩ := h
      obtain ⟨x, y, z⟩ := a
      have hc : cs = #[.string k, .string p, .int .i64 n] := Array.ext' hl
      rw [hc, ba_ext h1, ba_ext h2, h3]; rfl
    · cases h
  · cases h⟩
/-- a row's header: where it begins (none: nowhere), how long it is, how far it may grow. -/
abbrev Hdr := Option (Nat × Nat) × Nat × Nat
def hdrV (h : Hdr) : Value := .slice (h.1.map fun p => ⟨p.1, p.2, none⟩) h.2.1 h.2.2
def hdrE : Value → Option (DataW Unit × List MemPlace)
  | .slice none n c => some (.agg [.nil, .lit (.int .i64 n), .lit (.int .i64 c)], [])
  | .slice (some ⟨b, o, none⟩) n c => some (.agg [.lit (.int .i64 b), .lit (.int .i64 o), .lit (.int .i64 n), .lit (.int .i64 c)], [])
  | _ => none
def hdrD (h : Hdr) : DataW Unit := match h.1 with
  | none => .agg [.nil, .lit (.int .i64 h.2.1), .lit (.int .i64 h.2.2)]
  | some p => .agg [.lit (.int .i64 p.1), .lit (.int .i64 p.2), .lit (.int .i64 h.2.1), .lit (.int .i64 h.2.2)]
theorem hdr_rd (h : Hdr) : hdrE (hdrV h) = some (hdrD h, []) := by
  obtain ⟨a, n, c⟩ := h
  cases a <;> rfl
theorem hdr_inv {v : Value} {a : Hdr} {ps : List MemPlace} (h : hdrE v = some (hdrD a, ps)) : v = hdrV a := by
  obtain ⟨a, n, c⟩ := a
  unfold hdrE at h
  split at h
  · cases a with
    | none =>
      simp only [hdrD, Option.some.injEq, Prod.mk.injEq, DataW.agg.injEq, List.cons.injEq, DataW.lit.injEq, Lit.int.injEq, true_and, and_true] at h
      obtain ⟨⟨h1, h2⟩, _⟩ := h
      rw [show _ = n from Int.ofNat.inj h1, show _ = c from Int.ofNat.inj h2]; rfl
    | some p => simp [hdrD] at h
  · cases a with
    | none => simp [hdrD] at h
    | some p =>
      simp only [hdrD, Option.some.injEq, Prod.mk.injEq, DataW.agg.injEq, List.cons.injEq, DataW.lit.injEq, Lit.int.injEq, true_and, and_true] at h
      obtain ⟨⟨h1, h2, h3, h4⟩, _⟩ := h
      obtain ⟨b, o⟩ := p
      rw [show _ = b from Int.ofNat.inj h1, show _ = o from Int.ofNat.inj h2, show _ = n from Int.ofNat.inj h3, show _ = c from Int.ofNat.inj h4]; rfl
  · cases h
/-- rows of strings, by names; rows of origins. -/
def TMh : Mty Hdr := { t := 126, e := 45, V := hdrV, d := hdrD, R := hdrE, z := (none, 0, 0) }
theorem TMh.ok : TMh.Ok := ⟨Tryz.underlying126, fun w => by kernel_rfl, hdr_rd, fun _ _ _ h => hdr_inv h⟩
def TMo : Mty Hdr := { t := 127, e := 77, V := hdrV, d := hdrD, R := hdrE, z := (none, 0, 0) }
theorem TMo.ok : TMo.Ok := ⟨Tryz.underlying127, fun w => by kernel_rfl, hdr_rd, fun _ _ _ h => hdr_inv h⟩
end Go.Proofs.YtcfeoapbbkfbnaaGreatDoor
