/- Texts of the proof of a law, put together, part 44 of 46. Conditions: none beyond those that each theorem names. -/
import Derived.Test.YtilhonppgedoiaaGreatDoorFz31
import Derived.Test.YtilhonppgedoiaaGreatDoorFz43
namespace Go.Proofs.YtilhonppgedoiaaGreatDoor
open Go.RowKit Go.Sort Go.Maps
theorem Kf.trans {B0 B : Nat} {a b c : World} (h : Kf B0 B a b) (k : Kf B0 B b c) : Kf B0 B a c :=
  ⟨k.os.trans h.os, k.tape.trans h.tape, k.output.trans h.output, Nat.le_trans h.size k.size, fun i hi hx =>
    (k.block i (Nat.lt_of_lt_of_le hi h.size) (hx.imp id fun hf => ⟨hf.1, fun h2 => hf.2 (h2.keep (h.block i hi hx).symm)⟩)).trans (h.block i hi hx)⟩
theorem Kf.of_own {α : Type} {T : Rty α} {B0 B : Nat} {w w' : World} {v : Value} {l : List α} (h : OwnR T w B v l) (hg : w.grownBy w' v.ownBlock) (hB : B0 ≤ B) (ht : T.e ≠ 9 ∧ T.e ≠ 219 ∧ T.e ≠ 188 ∧ T.e ≠ 223 ∧ T.e ≠ 183) : Kf B0 B w w' :=
  ⟨hg.os, hg.tape, hg.output, hg.size, fun i hi hx => hg.block i hi fun e => by
    obtain ⟨hb, cur, hc⟩ := (ownR_k T B).blk h e.symm
    rcases hx with hx | hx
    · omega
    · exact hx.2 ⟨cur, _, hc, ht⟩⟩
theorem Kf.of_set {B0 B X : Nat} {w : World} (h0 : B0 ≤ X) (hX : X < B) (v : Value) : Kf B0 B w (w.setCell ⟨X, 0, none⟩ v) :=
  ⟨rfl, rfl, rfl, by simp, fun i _ hx => Below.heap_setCell _ _ _ _ (by show i ≠ X; rcases hx with hx | hx <;> omega)⟩
/-- what the closure of Refused keeps: which events are refused so far. -/
structure RqJ (rs : List Rel) (l : List Fed) (X Y B : Nat) (k : Nat) (A : Mdl) (W : World) : Prop where
  ex : ∃ (acc : List (Int × Int)) (ov wv : Value), refsM 345686400000 (newM rs) 0 l = acc ++ refsM 345686400000 A k (l.drop k) ∧ acc.length ≤ k ∧ W.heap[X]? = some (.cells #[ov] 22 (0, 0)) ∧ W.heap[Y]? = some (.cells #[wv] 45 (0, 0)) ∧ OwnR TNq W B ov (acc.map (·.1)) ∧ OwnR TEq W B wv (acc.map (·.2))
/-! the closure's region: two rows that grow, each held in a box -/
section
variable {i R : Int} {X Y B G0 : Nat} {la lb : List Int} {ov wv : Value}
def RqV (i R : Int) (B G0 : Nat) (la lb : List Int) (ov wv : Value) : Nat → Value → World → Prop
  | 0 => fun v _ => v = ov
  | 1 => fun v _ => v = .int .i64 i
  | 2 => fun v W => ∃ g, G0 ≤ g ∧ v = .slice (some ⟨g, 0, none⟩) 1 1 ∧ W.heap[g]? = some (.cells #[.int .i64 i] 3 (0, 0))
  | 3 => fun v W => OwnR TNq W B v (la ++ [i])
  | 4 => fun v _ => v = wv
  | 5 => fun v _ => v = .int .i64 R
  | 6 => fun v W => ∃ g, G0 ≤ g ∧ v = .slice (some ⟨g, 0, none⟩) 1 1 ∧ W.heap[g]? = some (.cells #[.int .i64 R] 30 (0, 0))
  | 7 => fun v W => OwnR TEq W B v (lb ++ [R])
  | _ => fun _ _ => True
theorem RqV.below {j : Nat} {v : Value} {W W' : World} (h : RqV i R B G0 la lb ov wv j v W) (hb : Below W.heap.size W W') : RqV i R B G0 la lb ov wv j v W' :=
  match j, h with
  | 0, h => h
  | 1, h => h
  | 2, ⟨g, h1, h2, h3⟩ => ⟨g, h1, h2, blk_below h3 hb⟩
  | 3, h => OwnR.below h hb
  | 4, h => h
  | 5, h => h
  | 6, ⟨g, h1, h2, h3⟩ => ⟨g, h1, h2, blk_below h3 hb⟩
  | 7, h => OwnR.below h hb
  | (_ + 8), _ => trivial
theorem RqV.far {j : Nat} {v : Value} {W : World} (h : RqV i R B G0 la lb ov wv j v W) {Z : Nat} (hZ : Z < B) (hB : B ≤ G0) (u : Value) : RqV i R B G0 la lb ov wv j v (W.setCell ⟨Z, 0, none⟩ u) :=
  match j, h with
  | 0, h => h
  | 1, h => h
  | 2, ⟨g, h1, h2, h3⟩ => ⟨g, h1, h2, blk_far h3 Z 0 u (by omega)⟩
  | 3, h => OwnR.far h hZ 0 u
  | 4, h => h
  | 5, h => h
  | 6, ⟨g, h1, h2, h3⟩ => ⟨g, h1, h2, blk_far h3 Z 0 u (by omega)⟩
  | 7, h => OwnR.far h hZ 0 u
  | (_ + 8), _ => trivial
theorem RqV.appN {j : Nat} {v : Value} {W W' : World} (h : RqV i R B G0 la lb ov wv j v W) (hg : W.grownBy W' ov.ownBlock) (hlt : ∀ g, ov.ownBlock = some g → g < G0) (h3 : j ≠ 3) (h7 : j ≠ 7) : RqV i R B G0 la lb ov wv j v W' :=
  match j, h, h3, h7 with
  | 0, h, _, _ => h
  | 1, h, _, _ => h
  | 2, ⟨g, h1, h2, h3⟩, _, _ => ⟨g, h1, h2, (hg.block g (blk_lt h3) fun e => by have := hlt g e.symm; omega).trans h3⟩
  | 3, _, h, _ => absurd rfl h
  | 4, h, _, _ => h
  | 5, h, _, _ => h
  | 6, ⟨g, h1, h2, h3⟩, _, _ => ⟨g, h1, h2, (hg.block g (blk_lt h3) fun e => by have := hlt g e.symm; omega).trans h3⟩
  | 7, _, _, h => absurd rfl h
  | (_ + 8), _, _, _ => trivial
theorem RqV.appE {j : Nat} {v : Value} {W W' : World} (h : RqV i R B G0 la lb ov wv j v W) (hO : OwnR TEq W B wv lb) (hg : W.grownBy W' wv.ownBlock) (hlt : ∀ g, wv.ownBlock = some g → g < G0) (h7 : j ≠ 7) : RqV i R B G0 la lb ov wv j v W' :=
  match j, h, h7 with
  | 0, h, _ => h
  | 1, h, _ => h
  | 2, ⟨g, h1, h2, h3⟩, _ => ⟨g, h1, h2, (hg.block g (blk_lt h3) fun e => by have := hlt g e.symm; omega).trans h3⟩
  | 3, h, _ => own_apart h hO hg (by decide)
  | 4, h, _ => h
  | 5, h, _ => h
  | 6, ⟨g, h1, h2, h3⟩, _ => ⟨g, h1, h2, (hg.block g (blk_lt h3) fun e => by have := hlt g e.symm; omega).trans h3⟩
  | 7, _, h => absurd rfl h
  | (_ + 8), _, _ => trivial
structure RqB (X Y B Bb : Nat) (i R : Int) (la lb : List Int) (ov wv : Value) (w : World) (listed : Array Bool) (W : World) : Prop where
  bel : Below Bb w W
  x0 : listed.getD 8 false = false → W.heap[X]? = some (.cells #[ov] 22 (0, 0))
  x1 : listed.getD 8 false = true → ∃ v', W.heap[X]? = some (.cells #[v'] 22 (0, 0)) ∧ OwnR TNq W B v' (la ++ [i])
  y0 : listed.getD 9 false = false → W.heap[Y]? = some (.cells #[wv] 45 (0, 0))
  y1 : listed.getD 9 false = true → ∃ v', W.heap[Y]? = some (.cells #[v'] 45 (0, 0)) ∧ OwnR TEq W B v' (lb ++ [R])
  o0 : listed.getD 3 false = false → OwnR TNq W B ov la
  w0 : listed.getD 7 false = false → OwnR TEq W B wv lb
  kf : Kf Bb B w W
theorem RqB.below {Bb : Nat} {w : World} {listed l' : Array Bool} {W W' : World} (h : RqB X Y B Bb i R la lb ov wv w listed W) (hb : Below W.heap.size W W') (hBb : Bb ≤ w.heap.size) (hl : ∀ j, j = 3 ∨ j = 7 ∨ j = 8 ∨ j = 9 → l'.getD j false = listed.getD j false) : RqB X Y B Bb i R la lb ov wv w l' W' := by
  have hz := h.bel.size
  refine ⟨h.bel.trans (hb.mono (by omega)), fun e => ?_, fun e => ?_, fun e => ?_, fun e => ?_, fun e => ?_, fun e => ?_, h.kf.trans (Kf.of_below hb)⟩
  · rw [hl 8 (by simp)] at e; exact blk_below (h.x0 e) hb
  · rw [hl 8 (by simp)] at e; obtain ⟨v', a, b⟩ := h.x1 e; exact ⟨v', blk_below a hb, b.below hb⟩
  · rw [hl 9 (by simp)] at e; exact blk_below (h.y0 e) hb
  · rw [hl 9 (by simp)] at e; obtain ⟨v', a, b⟩ := h.y1 e; exact ⟨v', blk_below a hb, b.below hb⟩
  · rw [hl 3 (by simp)] at e; exact (h.o0 e).below hb
  · rw [hl 7 (by simp)] at e; exact (h.w0 e).below hb
end
theorem RefusedR1_no (i : Int) (X Y : Value) (W : World) : Calls Tryz.prog 57 #[.int .i64 i, .int .i64 0, X, Y] W fun e w' => e = .returned (.tuple #[]) ∧ W = w' := by
  go_enter Tryz.func57, Tryz.ntmps57
  go_wp2
  go_end0
  exact ⟨rfl, rfl⟩
set_option maxHeartbeats 4000000 in
set_option maxRecDepth 100000 in
theorem RefusedR1_yes (i R : Int) (X Y B Bb : Nat) (la lb : List Int) (ov wv : Value) (W : World) (hR : R ≠ 0) (hX : W.heap[X]? = some (.cells #[ov] 22 (0, 0))) (hY : W.heap[Y]? = some (.cells #[wv] 45 (0, 0)))
    (hO : OwnR TNq W B ov la) (hW : OwnR TEq W B wv lb) (hXB : X < B) (hYB : Y < B) (hXY : X ≠ Y) (hbX : Bb ≤ X) (hbY : Bb ≤ Y) (hB : B ≤ W.heap.size) (h1 : la.length ≤ 100000) (h2 : lb.length ≤ 100000) :
    Calls Tryz.prog 57 #[.int .i64 i, .int .i64 R, .pointer (some ⟨X, 0, none⟩), .pointer (some ⟨Y, 0, none⟩)] W fun e w' => e = .returned (.tuple #[]) ∧ ∃ ov' wv', w'.heap[X]? = some (.cells #[ov'] 22 (0, 0)) ∧ w'.heap[Y]? = some (.cells #[wv'] 45 (0, 0)) ∧ OwnR TNq w' B ov' (la ++ [i]) ∧ OwnR TEq w' B wv' (lb ++ [R]) ∧ Below Bb W w' ∧ Kf Bb B W w' := by
  have hr : (R == 0) = false := by simp [hR]
  have hoL : ∀ g, ov.ownBlock = some g → g < W.heap.size := fun g e => (World.ownsRow.lt hO g e).2
  have hwL : ∀ g, wv.ownBlock = some g → g < W.heap.size := fun g e => (World.ownsRow.lt hW g e).2
  have hB0 : RqB X Y B Bb i R la lb ov wv W (Array.replicate 10 false) { W with drawn := W.drawn + 1 } := ⟨Below.drew (Below.refl _ _), fun _ => hX, fun e => by simp at e, fun _ => hY, fun e => by simp at e, fun _ => hO, fun _ => hW, Kf.of_below (Below.drew (Below.refl _ _))⟩
  have HB0 := Lib.hid hB0
  have HL := Lib.hid (And.intro hoL hwL)
  obtain ⟨G0, hG0⟩ : ∃ G0, G0 = W.heap.size := ⟨_, rfl⟩
  rw [← hG0] at HL
  have HG := Lib.hid hG0
  have lX := blk_lt hX
  have lY := blk_lt hY
  clear hX hY hO hW hB0 hoL hwL hG0
  go_enter Tryz.func57, Tryz.ntmps57
  go_wp2_with fail
  refine wp_region_st (by kernel_rfl) [8, 9, 10, 11, 12, 13, 14, 15] (RqB X Y B Bb i R la lb ov wv W) (RqV i R B G0 la lb ov wv) (by kernel_rfl) (by kernel_rfl) HB0.out ?_ ?_ ?_
  · intro k o v W' ho hd
    match k, ho with
    | 0, ho => exact absurd hd (by obtain rfl := Option.some.inj ho; simp)
    | 1, ho => exact absurd hd (by obtain rfl := Option.some.inj ho; simp)
    | 2, ho => exact absurd hd (by obtain rfl := Option.some.inj ho; simp)
    | 3, ho => exact absurd hd (by obtain rfl := Option.some.inj ho; simp)
    | 4, ho => exact absurd hd (by obtain rfl := Option.some.inj ho; simp)
    | 5, ho => exact absurd hd (by obtain rfl := Option.some.inj ho; simp)
    | 6, ho => exact absurd hd (by obtain rfl := Option.some.inj ho; simp)
    | 7, ho => exact absurd hd (by obtain rfl := Option.some.inj ho; simp)
    | 8, ho => trivial
    | 9, ho => trivial
    | (_ + 10), _ => trivial
  · intro listed k o f W' ho hk hls hlk hcl hdep hBs hV
    have hk' : k = 0 ∨ k = 1 ∨ k = 2 ∨ k = 3 ∨ k = 4 ∨ k = 5 ∨ k = 6 ∨ k = 7 ∨ k = 8 ∨ k = 9 := by
      have : k < 10 := hk
      omega
    have hs10 : listed.size = 10 := hls
    have hBe := HG.out
    have hbz := hBs.bel.size
    have hset : ∀ j m : Nat, j < 10 → m ≠ j → (listed.setIfInBounds j true).getD m false = listed.getD m false := fun j m hj hm => by rw [getD_set (by omega), if_neg hm]
    have hsame : ∀ j : Nat, j < 10 → (listed.setIfInBounds j true).getD j false = true := fun j hj => by rw [getD_set (by omega), if_pos rfl]
    rcases hk' with rfl | rfl | rfl | rfl | rfl | rfl | rfl | rfl | rfl | rfl
    · have n3 : listed.getD 3 false = false := nl hcl hlk 3 ⟨0, .data⟩ rfl rfl (by simp) rfl
      have n7 := nl hcl n3 7 ⟨3, .chain⟩ rfl rfl (by simp) rfl
      have n8 := nl hcl n7 8 ⟨7, .chain⟩ rfl rfl (by simp) rfl
      have c0 : W'.cell? ⟨X, 0, none⟩ = some ov := blk_cell (hBs.x0 n8) 0
      refine iv_val ho (by obtain rfl := Option.some.inj ho; rfl) ov W' ?_ (hBs.below (Below.refl _ _) (by omega) fun m hm => hset 0 m (by decide) (by omega)) hV rfl
      intro q hq
      obtain rfl := Option.some.inj ho
      have e := hq.tmp 2
      simp at e
      simp [execOp, e, c0, go_sem]
    · refine iv_val ho (by obtain rfl := Option.some.inj ho; rfl) (.int .i64 i) W' ?_ (hBs.below (Below.refl _ _) (by omega) fun m hm => hset 1 m (by decide) (by omega)) hV rfl
      intro q hq
      obtain rfl := Option.some.inj ho
      have e := hq.tmp 0
      simp at e
      simp [execOp, e, go_sem]
    · have d1 : f 9 = .int .i64 i := hV 1 (by decide) (hdep ⟨1, .data⟩ (by obtain rfl := Option.some.inj ho; simp) rfl)
      have hbA := Bl.alloc (Below.refl W'.heap.size W') (.cells #[.int .i64 i] 3)
      refine iv_val ho (by obtain rfl := Option.some.inj ho; rfl) (.slice (some ⟨W'.heap.size, 0, none⟩) 1 1) (W'.alloc (.cells #[.int .i64 i] 3)) ?_ (hBs.below hbA (by omega) fun m hm => hset 2 m (by decide) (by omega)) (fun j hj hl => RqV.below (hV j hj hl) hbA) ⟨W'.heap.size, by omega, rfl, blk_new W' _⟩
      intro q hq
      obtain rfl := Option.some.inj ho
      have e := hq.tmp 9
      simp at e
      simp [execOp, e, d1, go_sem]
    · have d0 : f 8 = ov := hV 0 (by decide) (hdep ⟨0, .data⟩ (by obtain rfl := Option.some.inj ho; simp) rfl)
      obtain ⟨g, hg0, d2, hgb⟩ := hV 2 (by decide) (hdep ⟨2, .data⟩ (by obtain rfl := Option.some.inj ho; simp) rfl)
      have d2 : f 10 = .slice (some ⟨g, 0, none⟩) 1 1 := d2
      have hO := hBs.o0 hlk
      have n7 := nl hcl hlk 7 ⟨3, .chain⟩ rfl rfl (by simp) rfl
      have n8 := nl hcl n7 8 ⟨7, .chain⟩ rfl rfl (by simp) rfl
      have n9 := nl hcl n7 9 ⟨7, .data⟩ rfl rfl (by simp) rfl
      refine iv_app TNq.ok ho (by obtain rfl := Option.some.inj ho; rfl) (.tmp 8) (.tmp 10) (by obtain rfl := Option.some.inj ho; rfl) B ov la (fun q hq => by have e := hq.tmp 8; simp at e; rw [e, d0]) hO g 1 i (fun q hq => by have e := hq.tmp 10; simp at e; rw [e, d2]) hgb rfl (by omega) (by omega) ?_
      intro v' w' hO' hg' hb'
      refine ⟨⟨hBs.bel.trans (hb'.mono (by omega)), fun e => ?_, fun e => ?_, fun e => ?_, fun e => ?_, fun e => ?_, fun e => ?_, hBs.kf.trans (Kf.of_own hO hg' (by omega) (by decide))⟩, fun j hj hl => (hV j hj hl).appN hg' HL.out.1 (fun e => by rw [e, hlk] at hl; cases hl) (fun e => by rw [e, n7] at hl; cases hl), hO'⟩
      · exact (hb'.block X hXB).trans (hBs.x0 n8)
      · rw [hset 3 8 (by decide) (by decide), n8] at e; cases e
      · exact (hb'.block Y hYB).trans (hBs.y0 n9)
      · rw [hset 3 9 (by decide) (by decide), n9] at e; cases e
      · rw [hsame 3 (by decide)] at e; cases e
      · exact own_apart (hBs.w0 n7) hO hg' (by decide)
    · have n7 := nl hcl hlk 7 ⟨4, .data⟩ rfl rfl (by simp) rfl
      have n9 := nl hcl n7 9 ⟨7, .data⟩ rfl rfl (by simp) rfl
      have c0 : W'.cell? ⟨Y, 0, none⟩ = some wv := blk_cell (hBs.y0 n9) 0
      refine iv_val ho (by obtain rfl := Option.some.inj ho; rfl) wv W' ?_ (hBs.below (Below.refl _ _) (by omega) fun m hm => hset 4 m (by decide) (by omega)) hV rfl
      intro q hq
      obtain rfl := Option.some.inj ho
      have e := hq.tmp 3
      simp at e
      simp [execOp, e, c0, go_sem]
    · refine iv_val ho (by obtain rfl := Option.some.inj ho; rfl) (.int .i64 R) W' ?_ (hBs.below (Below.refl _ _) (by omega) fun m hm => hset 5 m (by decide) (by omega)) hV rfl
      intro q hq
      obtain rfl := Option.some.inj ho
      have e := hq.tmp 1
      simp at e
      simp [execOp, e, go_sem]
    · have d5 : f 13 = .int .i64 R := hV 5 (by decide) (hdep ⟨5, .data⟩ (by obtain rfl := Option.some.inj ho; simp) rfl)
      have hbA := Bl.alloc (Below.refl W'.heap.size W') (.cells #[.int .i64 R] 30)
      refine iv_val ho (by obtain rfl := Option.some.inj ho; rfl) (.slice (some ⟨W'.heap.size, 0, none⟩) 1 1) (W'.alloc (.cells #[.int .i64 R] 30)) ?_ (hBs.below hbA (by omega) fun m hm => hset 6 m (by decide) (by omega)) (fun j hj hl => RqV.below (hV j hj hl) hbA) ⟨W'.heap.size, by omega, rfl, blk_new W' _⟩
      intro q hq
      obtain rfl := Option.some.inj ho
      have e := hq.tmp 13
      simp at e
      simp [execOp, e, d5, go_sem]
    · have d0 : f 12 = wv := hV 4 (by decide) (hdep ⟨4, .data⟩ (by obtain rfl := Option.some.inj ho; simp) rfl)
      obtain ⟨g, hg0, d2, hgb⟩ := hV 6 (by decide) (hdep ⟨6, .data⟩ (by obtain rfl := Option.some.inj ho; simp) rfl)
      have d2 : f 14 = .slice (some ⟨g, 0, none⟩) 1 1 := d2
      have hO := hBs.w0 hlk
      have y3 : listed.getD 3 false = true := hdep ⟨3, .chain⟩ (by obtain rfl := Option.some.inj ho; simp) rfl
      have n8 := nl hcl hlk 8 ⟨7, .chain⟩ rfl rfl (by simp) rfl
      have n9 := nl hcl hlk 9 ⟨7, .data⟩ rfl rfl (by simp) rfl
      refine iv_app TEq.ok ho (by obtain rfl := Option.some.inj ho; rfl) (.tmp 12) (.tmp 14) (by obtain rfl := Option.some.inj ho; rfl) B wv lb (fun q hq => by have e := hq.tmp 12; simp at e; rw [e, d0]) hO g 1 R (fun q hq => by have e := hq.tmp 14; simp at e; rw [e, d2]) hgb rfl (by omega) (by omega) ?_
      intro v' w' hO' hg' hb'
      refine ⟨⟨hBs.bel.trans (hb'.mono (by omega)), fun e => ?_, fun e => ?_, fun e => ?_, fun e => ?_, fun e => ?_, fun e => ?_, hBs.kf.trans (Kf.of_own hO hg' (by omega) (by decide))⟩, fun j hj hl => (hV j hj hl).appE hO hg' HL.out.2 (fun e => by rw [e, hlk] at hl; cases hl), hO'⟩
      · exact (hb'.block X hXB).trans (hBs.x0 n8)
      · rw [hset 7 8 (by decide) (by decide), n8] at e; cases e
      · exact (hb'.block Y hYB).trans (hBs.y0 n9)
      · rw [hset 7 9 (by decide) (by decide), n9] at e; cases e
      · rw [hset 7 3 (by decide) (by decide), y3] at e; cases e
      · rw [hsame 7 (by decide)] at e; cases e
    · have y3 : listed.getD 3 false = true := hdep ⟨3, .data⟩ (by obtain rfl := Option.some.inj ho; simp) rfl
      have y7 : listed.getD 7 false = true := hdep ⟨7, .chain⟩ (by obtain rfl := Option.some.inj ho; simp) rfl
      have n9 := nl hcl hlk 9 ⟨8, .chain⟩ rfl rfl (by simp) rfl
      have d3 : OwnR TNq W' B (f 11) (la ++ [i]) := hV 3 (by decide) y3
      obtain ⟨a3, n3, c3, e3⟩ : ∃ a n c, f 11 = .slice a n c := (by obtain ⟨a, c, h, _, _⟩ := d3.form; exact ⟨a, _, c, h⟩)
      rw [e3] at d3
      have hx := hBs.x0 hlk
      have c0 : W'.cell? ⟨X, 0, none⟩ = some ov := blk_cell hx 0
      have f0 := blk_free hx 0
      refine iv_skip ho (by obtain rfl := Option.some.inj ho; rfl) (by obtain rfl := Option.some.inj ho; rfl) (W'.setCell ⟨X, 0, none⟩ (.slice a3 n3 c3)) ?_ ⟨Bl.set hBs.bel X 0 hbX _, fun e => ?_, fun e => ?_, fun e => ?_, fun e => ?_, fun e => ?_, fun e => ?_, hBs.kf.trans (Kf.of_set (by omega) hXB _)⟩ (fun j hj hl => (hV j hj hl).far hXB (by omega) _) trivial
      · intro q hq
        obtain rfl := Option.some.inj ho
        have e := hq.tmp 2
        have e' := hq.tmp 11
        simp at e e'
        simp [execOp, e, e', e3, c0, f0, go_sem]
      · rw [hsame 8 (by decide)] at e; cases e
      · exact ⟨_, blk_set hx 0 _, d3.far hXB 0 _⟩
      · exact blk_far (hBs.y0 n9) X 0 _ (Ne.symm hXY)
      · rw [hset 8 9 (by decide) (by decide), n9] at e; cases e
      · rw [hset 8 3 (by decide) (by decide), y3] at e; cases e
      · rw [hset 8 7 (by decide) (by decide), y7] at e; cases e
    · have y7 : listed.getD 7 false = true := hdep ⟨7, .data⟩ (by obtain rfl := Option.some.inj ho; simp) rfl
      have y8 : listed.getD 8 false = true := hdep ⟨8, .chain⟩ (by obtain rfl := Option.some.inj ho; simp) rfl
      have y3 : listed.getD 3 false = true := hcl 8 _ rfl y8 ⟨3, .data⟩ (by simp) rfl
      have d7 : OwnR TEq W' B (f 15) (lb ++ [R]) := hV 7 (by decide) y7
      obtain ⟨a3, n3, c3, e3⟩ : ∃ a n c, f 15 = .slice a n c := (by obtain ⟨a, c, h, _, _⟩ := d7.form; exact ⟨a, _, c, h⟩)
      rw [e3] at d7
      have hy := hBs.y0 hlk
      obtain ⟨vx, hx, hox⟩ := hBs.x1 y8
      have c0 : W'.cell? ⟨Y, 0, none⟩ = some wv := blk_cell hy 0
      have f0 := blk_free hy 0
      refine iv_skip ho (by obtain rfl := Option.some.inj ho; rfl) (by obtain rfl := Option.some.inj ho; rfl) (W'.setCell ⟨Y, 0, none⟩ (.slice a3 n3 c3)) ?_ ⟨Bl.set hBs.bel Y 0 hbY _, fun e => ?_, fun e => ?_, fun e => ?_, fun e => ?_, fun e => ?_, fun e => ?_, hBs.kf.trans (Kf.of_set (by omega) hYB _)⟩ (fun j hj hl => (hV j hj hl).far hYB (by omega) _) trivial
      · intro q hq
        obtain rfl := Option.some.inj ho
        have e := hq.tmp 3
        have e' := hq.tmp 15
        simp at e e'
        simp [execOp, e, e', e3, c0, f0, go_sem]
      · rw [hset 9 8 (by decide) (by decide), y8] at e; cases e
      · exact ⟨vx, blk_far hx Y 0 _ hXY, hox.far hYB 0 _⟩
      · rw [hsame 9 (by decide)] at e; cases e
      · exact ⟨_, blk_set hy 0 _, d7.far hYB 0 _⟩
      · rw [hset 9 3 (by decide) (by decide), y3] at e; cases e
      · rw [hset 9 7 (by decide) (by decide), y7] at e; cases e
  · intro listed f W' hall hBs hV
    obtain ⟨v1, e1, e2⟩ := hBs.x1 (hall 8 (by decide))
    obtain ⟨v2, e3, e4⟩ := hBs.y1 (hall 9 (by decide))
    have HF := Lib.hid (And.intro e1 (And.intro e3 (And.intro e2 (And.intro e4 (And.intro hBs.bel hBs.kf)))))
    clear e1 e2 e3 e4 hBs hV hall
    go_wp2
    go_end0
    exact ⟨rfl, v1, v2, HF.out⟩
/-- what ClD asks of the closure of Refused. -/
theorem refused_cl (rs : List Rel) (l : List Fed) (w0 : World) (X Y Bb : Nat) (hXY : X ≠ Y) (hX : X < w0.heap.size) (hY : Y < w0.heap.size) (hbX : Bb ≤ X) (hbY : Bb ≤ Y) (hl : l.length ≤ 100000) (hat : ∀ e ∈ l, e.at ≤ 345686399999) :
    ClD 57 (fun a b => #[a, b, .pointer (some ⟨X, 0, none⟩), .pointer (some ⟨Y, 0, none⟩)]) l Bb w0 (RqJ rs l X Y w0.heap.size) where
  st := fun k A W W' hW h hK => by
    obtain ⟨acc, ov, wv, h1, h2, h3, h4, h5, h6⟩ := h.ex
    exact ⟨acc, ov, wv, h1, h2, (hK.block X (by omega) (.inl hX)).trans h3, (hK.block Y (by omega) (.inl hY)).trans h4, h5.kt hK (by decide), h6.kt hK (by decide)⟩
  call := fun k A e W hs hW h => by
    obtain ⟨acc, ov, wv, h1, h2, h3, h4, h5, h6⟩ := h.ex
    have hkl := (List.getElem?_eq_some_iff.1 hs).1
    have ht : ¬ (345686400000 : Int) < e.at := by have := hat e (List.mem_of_getElem? hs); omega
    by_cases h0 : refM A e = 0
    · rw [h0]
      refine (RefusedR1_no _ _ _ W).mono ?_
      rintro r w' ⟨rfl, rfl⟩
      exact ⟨rfl, ⟨acc, ov, wv, by rw [h1, refsM_ok hs ht h0], by omega, h3, h4, h5, h6⟩, Kf.of_below (Below.refl _ _)⟩
    · refine (RefusedR1_yes _ _ X Y w0.heap.size Bb _ _ ov wv W h0 h3 h4 h5 h6 hX hY hXY hbX hbY hW (by rw [List.length_map]; omega) (by rw [List.length_map]; omega)).mono ?_
      rintro r w' ⟨rfl, ov', wv', a1, a2, a3, a4, a5, a6⟩
      exact ⟨rfl, ⟨acc ++ [((k : Int), refM A e)], ov', wv', by rw [h1, refsM_no hs ht h0]; simp, by simp; omega, a1, a2, by rw [List.map_append]; exact a3, by rw [List.map_append]; exact a4⟩, a6⟩
def refsF (rs : List Rel) (l : List Fed) : List (Int × Int) := if feedsF rs l = 0 then refsM 345686400000 (newM rs) 0 l else []
set_option maxHeartbeats 4000000 in
set_option maxRecDepth 100000 in
theorem RefusedR_any (rs : List Rel) (l : List Fed) (vr vl : Value) (w : World) (hlr : rs.length ≤ 1000000) (hl : l.length ≤ 900) (rr : RecR TRe w 0 vr rs) (rl : RecR TFe w 0 vl l) (hzr : RelZ rs) (hz : FedZ l) :
    Calls Tryz.prog 17 #[vr, vl] w fun e w' => ∃ ov wv, e = .returned (.tuple #[ov, wv, .int .i64 (feedsF rs l)]) ∧ OwnR TNq w' w.heap.size ov ((refsF rs l).map (·.1)) ∧ OwnR TEq w' w.heap.size wv ((refsF rs l).map (·.2)) ∧ Below w.heap.size w w' := by
  have HF := Lib.hid (CheckFeeds_any rs l vr vl w hlr (by omega) rr rl hzr hz)
  obtain ⟨F, hF⟩ : ∃ F, F = feedsF rs l := ⟨_, rfl⟩
  rw [← hF] at HF ⊢
  obtain ⟨R, hR⟩ : ∃ R, R = refsF rs l := ⟨_, rfl⟩
  have HR := Lib.hid (show R = if F = 0 then refsM 345686400000 (newM rs) 0 l else [] by rw [hR, hF]; rfl)
  rw [← hR]
  have HFE := Lib.hid hF
  have RR := Lib.hid rr
  have RL := Lib.hid rl
  have HLN := Lib.hid hl
  obtain ⟨ra, rc, rfl, _, _⟩ := rr.form
  obtain ⟨la, lc, rfl, _, _⟩ := rl.form
  clear hF hR rr rl hzr hz hl
  by_cases h0 : F = 0
  · have HRE : Hid (R = refsM 345686400000 (newM rs) 0 l) := Lib.hid (by rw [HR.out, if_pos h0])
    have HOK := Lib.hid (feedsF_right (HFE.out ▸ h0))
    subst h0
    go_enter Tryz.func17, Tryz.ntmps17
    go_wp2_with fail
    refine HF.out.mono ?_
    rintro e w1 ⟨rfl, hb1⟩
    obtain ⟨w2, hw2⟩ : ∃ w2, w2 = (w1.alloc (.cells #[.slice none 0 0] 22)).alloc (.cells #[.slice none 0 0] 45) := ⟨_, rfl⟩
    have hb2 : Below w1.heap.size w1 w2 := by rw [hw2]; exact Bl.alloc (Bl.alloc (Below.refl _ _) _) _
    have hX2 : w2.heap[w1.heap.size]? = some (.cells #[.slice none 0 0] 22 (0, 0)) := by rw [hw2]; exact blk_old (blk_new w1 _) _
    have hY2 : w2.heap[w1.heap.size + 1]? = some (.cells #[.slice none 0 0] 45 (0, 0)) := by rw [hw2]; exact blk_new' _ _ (by simp)
    have hz1 := hb1.size
    have HFO := Lib.hid (followR_any 57 #[.pointer (some ⟨w1.heap.size, 0, none⟩), .pointer (some ⟨w1.heap.size + 1, 0, none⟩)] (fun a b => #[a, b, .pointer (some ⟨w1.heap.size, 0, none⟩), .pointer (some ⟨w1.heap.size + 1, 0, none⟩)]) (.pointer (some ⟨w1.heap.size, 0, none⟩)) (.pointer (some ⟨w1.heap.size + 1, 0, none⟩))
      (by first | exact .inl ⟨rfl, rfl, rfl⟩ | exact .inr (.inl ⟨rfl, rfl, rfl⟩)) rs l 345686400000 (.slice ra rs.length rc) (.slice la l.length lc) w2 w1.heap.size (RqJ rs l w1.heap.size (w1.heap.size + 1) w2.heap.size) hb2.size (refused_cl rs l w2 _ _ _ (by omega) (blk_lt hX2) (blk_lt hY2) (Nat.le_refl _) (Nat.le_succ _) (by have := HLN.out; omega) HOK.out.t)
      (fun W hW => RR.out.below (Below.trans hb1 ((hb2.trans hW).mono hz1))) (fun W hW => RL.out.below (Below.trans hb1 ((hb2.trans hW).mono hz1))) HOK.out.rn HOK.out.rz HLN.out HOK.out.lz HOK.out.s
      (fun W hW => ⟨[], _, _, by rw [List.drop_zero]; rfl, Nat.le_refl _, blk_below hX2 hW, blk_below hY2 hW, OwnR.nil _ _, OwnR.nil _ _⟩))
    have HB2 := Lib.hid (Below.trans hb1 (hb2.mono hz1))
    have hz2 := HB2.out.size
    clear hb1 hb2 hX2 hY2
    go_wp2_with fail
    rw [← hw2]
    clear hw2
    refine HFO.out.mono ?_
    rintro e w3 ⟨L, rfl, hE⟩
    obtain ⟨k, hk, hlate, hJ⟩ := hE.j
    obtain ⟨acc, ov, wv, h1, h2, h3, h4, h5, h6⟩ := hJ.ex
    have hd : l.drop k = [] := by
      cases hc : l.drop k with
      | nil => rfl
      | cons x r =>
        have hx : x ∈ l.drop k := by rw [hc]; exact List.mem_cons_self ..
        have e1 := hlate x hx
        have e2 := HOK.out.t x (List.mem_of_mem_drop hx)
        omega
    have hacc : refsM 345686400000 (newM rs) 0 l = acc := by rw [h1, hd]; simp [refsM]
    have c0 : w3.cell? ⟨w1.heap.size, 0, none⟩ = some ov := blk_cell h3 0
    have c1 : w3.cell? ⟨w1.heap.size + 1, 0, none⟩ = some wv := blk_cell h4 0
    obtain ⟨oa, on, oc, rfl⟩ : ∃ a n c, ov = .slice a n c := (by obtain ⟨a, c, h, _, _⟩ := h5.form; exact ⟨a, _, c, h⟩)
    obtain ⟨ya, yn, yc, rfl⟩ : ∃ a n c, wv = .slice a n c := (by obtain ⟨a, c, h, _, _⟩ := h6.form; exact ⟨a, _, c, h⟩)
    have lX3 := blk_lt h3
    have lY3 := blk_lt h4
    have HO := Lib.hid (And.intro (h5.base hz2) (h6.base hz2))
    have HA := Lib.hid hacc
    have HB3 := Lib.hid (Below.trans HB2.out (hE.bel.mono hz1))
    clear h1 h2 h3 h4 h5 h6 hacc hJ hE hlate hd hk HFO
    go_wp2
    go_quiet (fail)
    have HO4 := Lib.hid (And.intro (HO.out.1.below (Bl.drewN (Below.refl w3.heap.size w3) nq)) (HO.out.2.below (Bl.drewN (Below.refl w3.heap.size w3) nq)))
    have HB4 := Lib.hid (Bl.drewN HB3.out nq)
    go_wp2
    go_ret3
    exact ⟨_, _, rfl, by rw [HRE.out, HA.out]; exact HO4.out.1, by rw [HRE.out, HA.out]; exact HO4.out.2, HB4.out⟩
  · have HRE : Hid (R = []) := Lib.hid (by rw [HR.out, if_neg h0])
    have hb0 : (F == 0) = false := by simp [h0]
    go_enter Tryz.func17, Tryz.ntmps17
    go_wp2_with fail
    refine HF.out.mono ?_
    rintro e w1 ⟨rfl, hb1⟩
    have hB1 := Lib.hid hb1
    clear hb1
    go_wp2
    go_ret3
    exact ⟨_, _, rfl, by rw [HRE.out]; exact OwnR.nil _ _, by rw [HRE.out]; exact OwnR.nil _ _, hB1.out⟩
end Go.Proofs.YtilhonppgedoiaaGreatDoor
