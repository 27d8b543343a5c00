/- flow: two flows made in one region: the region. -/
import Derived.Test.YtmgadeebncpaoaaTiFd
set_option autoImplicit false
set_option linter.unusedVariables false
set_option linter.unusedSimpArgs false
namespace Go.Proofs.Ytmgadeebncpaoaa
open Go.Abs Go.RowKit

def ents4 (A : AW) (w : Int) (b7 : Nat) (S0 : Slots) : List HEnt := [⟨(7, .pointer (some ⟨b7, 0, none⟩)) :: S0, some (.int .u64 w), false, none⟩,
  ⟨(35, .int .u64 w) :: (7, .pointer (some ⟨b7, 0, none⟩)) :: S0, some (.agg (cells1 w).toArray), false, none⟩,
  ⟨(36, .agg (cells1 w).toArray) :: (35, .int .u64 w) :: (7, .pointer (some ⟨b7, 0, none⟩)) :: S0, some (.agg (cells1 w).toArray), false, none⟩,
  ⟨(37, .agg (cells1 w).toArray) :: (36, .agg (cells1 w).toArray) :: (35, .int .u64 w) :: (7, .pointer (some ⟨b7, 0, none⟩)) :: S0, some (.pointer (some ⟨A.size + 0, 0, none⟩)), true, some (A.size + 0)⟩,
  ⟨(38, .pointer (some ⟨A.size + 0, 0, none⟩)) :: (37, .agg (cells1 w).toArray) :: (36, .agg (cells1 w).toArray) :: (35, .int .u64 w) :: (7, .pointer (some ⟨b7, 0, none⟩)) :: S0, some (.int .u64 w), false, none⟩,
  ⟨(39, .int .u64 w) :: (38, .pointer (some ⟨A.size + 0, 0, none⟩)) :: (37, .agg (cells1 w).toArray) :: (36, .agg (cells1 w).toArray) :: (35, .int .u64 w) :: (7, .pointer (some ⟨b7, 0, none⟩)) :: S0, some (.agg (cells2 w).toArray), false, none⟩,
  ⟨(40, .agg (cells2 w).toArray) :: (39, .int .u64 w) :: (38, .pointer (some ⟨A.size + 0, 0, none⟩)) :: (37, .agg (cells1 w).toArray) :: (36, .agg (cells1 w).toArray) :: (35, .int .u64 w) :: (7, .pointer (some ⟨b7, 0, none⟩)) :: S0, some (.agg (cells2 w).toArray), false, none⟩,
  ⟨(41, .agg (cells2 w).toArray) :: (40, .agg (cells2 w).toArray) :: (39, .int .u64 w) :: (38, .pointer (some ⟨A.size + 0, 0, none⟩)) :: (37, .agg (cells1 w).toArray) :: (36, .agg (cells1 w).toArray) :: (35, .int .u64 w) :: (7, .pointer (some ⟨b7, 0, none⟩)) :: S0, some (.pointer (some ⟨A.size + 1, 0, none⟩)), true, some (A.size + 1)⟩,
  ⟨(42, .pointer (some ⟨A.size + 1, 0, none⟩)) :: (41, .agg (cells2 w).toArray) :: (40, .agg (cells2 w).toArray) :: (39, .int .u64 w) :: (38, .pointer (some ⟨A.size + 0, 0, none⟩)) :: (37, .agg (cells1 w).toArray) :: (36, .agg (cells1 w).toArray) :: (35, .int .u64 w) :: (7, .pointer (some ⟨b7, 0, none⟩)) :: S0, some (.pointer (some ⟨A.size + 2, 0, none⟩)), true, some (A.size + 2)⟩,
  ⟨(8, .pointer (some ⟨A.size + 2, 0, none⟩)) :: (42, .pointer (some ⟨A.size + 1, 0, none⟩)) :: (41, .agg (cells2 w).toArray) :: (40, .agg (cells2 w).toArray) :: (39, .int .u64 w) :: (38, .pointer (some ⟨A.size + 0, 0, none⟩)) :: (37, .agg (cells1 w).toArray) :: (36, .agg (cells1 w).toArray) :: (35, .int .u64 w) :: (7, .pointer (some ⟨b7, 0, none⟩)) :: S0, some (.pointer (some ⟨A.size + 3, 0, none⟩)), true, some (A.size + 3)⟩,
  ⟨(9, .pointer (some ⟨A.size + 3, 0, none⟩)) :: (8, .pointer (some ⟨A.size + 2, 0, none⟩)) :: (42, .pointer (some ⟨A.size + 1, 0, none⟩)) :: (41, .agg (cells2 w).toArray) :: (40, .agg (cells2 w).toArray) :: (39, .int .u64 w) :: (38, .pointer (some ⟨A.size + 0, 0, none⟩)) :: (37, .agg (cells1 w).toArray) :: (36, .agg (cells1 w).toArray) :: (35, .int .u64 w) :: (7, .pointer (some ⟨b7, 0, none⟩)) :: S0, some (undef), true, none⟩,
  ⟨(9, .pointer (some ⟨A.size + 3, 0, none⟩)) :: (8, .pointer (some ⟨A.size + 2, 0, none⟩)) :: (42, .pointer (some ⟨A.size + 1, 0, none⟩)) :: (41, .agg (cells2 w).toArray) :: (40, .agg (cells2 w).toArray) :: (39, .int .u64 w) :: (38, .pointer (some ⟨A.size + 0, 0, none⟩)) :: (37, .agg (cells1 w).toArray) :: (36, .agg (cells1 w).toArray) :: (35, .int .u64 w) :: (7, .pointer (some ⟨b7, 0, none⟩)) :: S0, some (undef), true, none⟩]

section
variable {B : Nat} {w0 : World} {call : CallF} {A : AW}

theorem HF_x (w : Int) (m c d j : Nat) : True := trivial

theorem region4 (hm : Try.prog.follows .mixedOrders = true) (hcall : CallSound Try.prog B w0 call) {Q : X → Slots → AW → Prop} {w : Int} {b7 : Nat} {S0 : Slots} (hnx : A.nx = none) (h7 : b7 < A.size) (hg7 : A.get b7 = .cells [.int .u64 w] false false 1)
    (hq : Q .n ((9, .pointer (some ⟨A.size + 3, 0, none⟩)) :: (8, .pointer (some ⟨A.size + 2, 0, none⟩)) :: (42, .pointer (some ⟨A.size + 1, 0, none⟩)) :: (41, .agg (cells2 w).toArray) :: (40, .agg (cells2 w).toArray) :: (39, .int .u64 w) :: (38, .pointer (some ⟨A.size + 0, 0, none⟩)) :: (37, .agg (cells1 w).toArray) :: (36, .agg (cells1 w).toArray) :: (35, .int .u64 w) :: (7, .pointer (some ⟨b7, 0, none⟩)) :: S0) (HF A w 3976)) : (match Try.f3.body with | some (.seq _ (.seq _ (.seq _ (.seq r _)))) => JW Try.prog B w0 194 r ((7, .pointer (some ⟨b7, 0, none⟩)) :: S0) A Q | _ => True) := by
  show JW Try.prog B w0 _ (Code.region 4 _ true) _ A Q
  refine JW.regionH hm hcall (ents4 A w b7 S0) 4 (fun m => some (HF A w m)) (A1 := HF A w 3976) (by kernel_rfl) (by kernel_rfl) ?_ (by kernel_rfl) (by kernel_rfl) (by kernel_rfl) ?_ hq
  · exact ⟨by kernel_rfl, by kernel_rfl, by kernel_rfl, by kernel_rfl, by kernel_rfl, by kernel_rfl, by kernel_rfl, by kernel_rfl, by kernel_rfl, by kernel_rfl, by kernel_rfl, by kernel_rfl, by kernel_rfl, by kernel_rfl, by kernel_rfl, by kernel_rfl, by kernel_rfl, by kernel_rfl, by kernel_rfl, by kernel_rfl, by kernel_rfl, by kernel_rfl, by kernel_rfl, by kernel_rfl, rfl⟩
  intro m A' hA' j o x ho hx hmay
  obtain rfl := Option.some.inj hA'
  have hload : aload Try.prog (HF A w m) 25 ⟨b7, 0, none⟩ = some (.int .u64 w) := aload_one (by kernel_rfl) (by rw [HF_old A w m b7 h7]; exact hg7) rfl
  have hbit := mayE_self hmay
  rcases j with _ | _ | _ | _ | _ | _ | _ | _ | _ | _ | _ | _ | j
  · -- 0
    obtain rfl : x = ⟨(7, .pointer (some ⟨b7, 0, none⟩)) :: S0, some (.int .u64 w), false, none⟩ := (Option.some.inj hx).symm
    refine ⟨fun h => (by cases h), fun _ v hv => ?_⟩
    obtain rfl := Option.some.inj hv
    obtain rfl := Option.some.inj ho
    exact eop_load (t := 25) (x := .tmp 7) (ad := ⟨b7, 0, none⟩) (by kernel_rfl) (by kernel_rfl) (by kernel_rfl) hload
  · -- 1
    obtain rfl : x = ⟨(35, .int .u64 w) :: (7, .pointer (some ⟨b7, 0, none⟩)) :: S0, some (.agg (cells1 w).toArray), false, none⟩ := (Option.some.inj hx).symm
    refine ⟨fun h => (by cases h), fun _ v hv => ?_⟩
    obtain rfl := Option.some.inj hv
    obtain rfl := Option.some.inj ho
    kernel_rfl
  · -- 2
    obtain rfl : x = ⟨(36, .agg (cells1 w).toArray) :: (35, .int .u64 w) :: (7, .pointer (some ⟨b7, 0, none⟩)) :: S0, some (.agg (cells1 w).toArray), false, none⟩ := (Option.some.inj hx).symm
    refine ⟨fun h => (by cases h), fun _ v hv => ?_⟩
    obtain rfl := Option.some.inj hv
    obtain rfl := Option.some.inj ho
    kernel_rfl
  · -- 3
    obtain rfl : x = ⟨(37, .agg (cells1 w).toArray) :: (36, .agg (cells1 w).toArray) :: (35, .int .u64 w) :: (7, .pointer (some ⟨b7, 0, none⟩)) :: S0, some (.pointer (some ⟨A.size + 0, 0, none⟩)), true, some (A.size + 0)⟩ := (Option.some.inj hx).symm
    refine ⟨fun _ => ⟨fun h => (by cases h), fun v hv => ?_⟩, fun h => (by cases h)⟩
    obtain rfl := Option.some.inj hv
    obtain rfl := Option.some.inj ho
    obtain ⟨r1, r2, r3⟩ := HF_new (A := A) (w := w) (m := m) hnx (j := 3) (d := 0) (x := .cells (cells1 w) false false 1) (by decide) hbit (by rw [HF_get]; simp [hbit]) (by intro c; rw [HF_get, HF_get]; simp only [Nat.testBit_or, Nat.testBit_two_pow]; by_cases hc : c = A.size <;> simp [hc, hbit])
    exact ⟨_, _, stepH_at r1 r2 (A' := ((HF A w m).at (some (A.size + 0))).push (.cells (cells1 w) false false 1)) (by kernel_rfl), rfl, r3⟩
  · -- 4
    obtain rfl : x = ⟨(38, .pointer (some ⟨A.size + 0, 0, none⟩)) :: (37, .agg (cells1 w).toArray) :: (36, .agg (cells1 w).toArray) :: (35, .int .u64 w) :: (7, .pointer (some ⟨b7, 0, none⟩)) :: S0, some (.int .u64 w), false, none⟩ := (Option.some.inj hx).symm
    refine ⟨fun h => (by cases h), fun _ v hv => ?_⟩
    obtain rfl := Option.some.inj hv
    obtain rfl := Option.some.inj ho
    exact eop_load (t := 25) (x := .tmp 7) (ad := ⟨b7, 0, none⟩) (by kernel_rfl) (by kernel_rfl) (by kernel_rfl) hload
  · -- 5
    obtain rfl : x = ⟨(39, .int .u64 w) :: (38, .pointer (some ⟨A.size + 0, 0, none⟩)) :: (37, .agg (cells1 w).toArray) :: (36, .agg (cells1 w).toArray) :: (35, .int .u64 w) :: (7, .pointer (some ⟨b7, 0, none⟩)) :: S0, some (.agg (cells2 w).toArray), false, none⟩ := (Option.some.inj hx).symm
    refine ⟨fun h => (by cases h), fun _ v hv => ?_⟩
    obtain rfl := Option.some.inj hv
    obtain rfl := Option.some.inj ho
    kernel_rfl
  · -- 6
    obtain rfl : x = ⟨(40, .agg (cells2 w).toArray) :: (39, .int .u64 w) :: (38, .pointer (some ⟨A.size + 0, 0, none⟩)) :: (37, .agg (cells1 w).toArray) :: (36, .agg (cells1 w).toArray) :: (35, .int .u64 w) :: (7, .pointer (some ⟨b7, 0, none⟩)) :: S0, some (.agg (cells2 w).toArray), false, none⟩ := (Option.some.inj hx).symm
    refine ⟨fun h => (by cases h), fun _ v hv => ?_⟩
    obtain rfl := Option.some.inj hv
    obtain rfl := Option.some.inj ho
    kernel_rfl
  · -- 7
    obtain rfl : x = ⟨(41, .agg (cells2 w).toArray) :: (40, .agg (cells2 w).toArray) :: (39, .int .u64 w) :: (38, .pointer (some ⟨A.size + 0, 0, none⟩)) :: (37, .agg (cells1 w).toArray) :: (36, .agg (cells1 w).toArray) :: (35, .int .u64 w) :: (7, .pointer (some ⟨b7, 0, none⟩)) :: S0, some (.pointer (some ⟨A.size + 1, 0, none⟩)), true, some (A.size + 1)⟩ := (Option.some.inj hx).symm
    refine ⟨fun _ => ⟨fun h => (by cases h), fun v hv => ?_⟩, fun h => (by cases h)⟩
    obtain rfl := Option.some.inj hv
    obtain rfl := Option.some.inj ho
    obtain ⟨r1, r2, r3⟩ := HF_new (A := A) (w := w) (m := m) hnx (j := 7) (d := 1) (x := .cells (cells2 w) false false 1) (by decide) hbit (by rw [HF_get]; simp [hbit]) (by intro c; rw [HF_get, HF_get]; simp only [Nat.testBit_or, Nat.testBit_two_pow]; by_cases hc : c = A.size + 1 <;> simp [hc, hbit])
    exact ⟨_, _, stepH_at r1 r2 (A' := ((HF A w m).at (some (A.size + 1))).push (.cells (cells2 w) false false 1)) (by kernel_rfl), rfl, r3⟩
  · -- 8
    obtain rfl : x = ⟨(42, .pointer (some ⟨A.size + 1, 0, none⟩)) :: (41, .agg (cells2 w).toArray) :: (40, .agg (cells2 w).toArray) :: (39, .int .u64 w) :: (38, .pointer (some ⟨A.size + 0, 0, none⟩)) :: (37, .agg (cells1 w).toArray) :: (36, .agg (cells1 w).toArray) :: (35, .int .u64 w) :: (7, .pointer (some ⟨b7, 0, none⟩)) :: S0, some (.pointer (some ⟨A.size + 2, 0, none⟩)), true, some (A.size + 2)⟩ := (Option.some.inj hx).symm
    refine ⟨fun _ => ⟨fun h => (by cases h), fun v hv => ?_⟩, fun h => (by cases h)⟩
    obtain rfl := Option.some.inj hv
    obtain rfl := Option.some.inj ho
    have hb10 := mayE_succ hmay (e := 10) (by show 10 ∈ [3, 7, 8, 9, 10, 11]; decide) (by kernel_rfl)
    obtain ⟨r1, r2, r3⟩ := HF_new (A := A) (w := w) (m := m) hnx (j := 8) (d := 2) (x := .cells [.pointer none] false false 1) (by decide) hbit (by rw [HF_get]; simp [hbit]) (by intro c; rw [HF_get, HF_get]; simp only [Nat.testBit_or, Nat.testBit_two_pow]; by_cases hc : c = A.size + 2 <;> simp [hc, hbit, hb10])
    exact ⟨_, _, stepH_at r1 r2 (A' := ((HF A w m).at (some (A.size + 2))).push (.cells [.pointer none] false false 1)) (by kernel_rfl), rfl, r3⟩
  · -- 9
    obtain rfl : x = ⟨(8, .pointer (some ⟨A.size + 2, 0, none⟩)) :: (42, .pointer (some ⟨A.size + 1, 0, none⟩)) :: (41, .agg (cells2 w).toArray) :: (40, .agg (cells2 w).toArray) :: (39, .int .u64 w) :: (38, .pointer (some ⟨A.size + 0, 0, none⟩)) :: (37, .agg (cells1 w).toArray) :: (36, .agg (cells1 w).toArray) :: (35, .int .u64 w) :: (7, .pointer (some ⟨b7, 0, none⟩)) :: S0, some (.pointer (some ⟨A.size + 3, 0, none⟩)), true, some (A.size + 3)⟩ := (Option.some.inj hx).symm
    refine ⟨fun _ => ⟨fun h => (by cases h), fun v hv => ?_⟩, fun h => (by cases h)⟩
    obtain rfl := Option.some.inj hv
    obtain rfl := Option.some.inj ho
    have hb11 := mayE_succ hmay (e := 11) (by show 11 ∈ [3, 7, 8, 9, 10, 11]; decide) (by kernel_rfl)
    obtain ⟨r1, r2, r3⟩ := HF_new (A := A) (w := w) (m := m) hnx (j := 9) (d := 3) (x := .cells [.pointer none] false false 1) (by decide) hbit (by rw [HF_get]; simp [hbit]) (by intro c; rw [HF_get, HF_get]; simp only [Nat.testBit_or, Nat.testBit_two_pow]; by_cases hc : c = A.size + 3 <;> simp [hc, hbit, hb11])
    exact ⟨_, _, stepH_at r1 r2 (A' := ((HF A w m).at (some (A.size + 3))).push (.cells [.pointer none] false false 1)) (by kernel_rfl), rfl, r3⟩
  · -- 10
    obtain rfl : x = ⟨(9, .pointer (some ⟨A.size + 3, 0, none⟩)) :: (8, .pointer (some ⟨A.size + 2, 0, none⟩)) :: (42, .pointer (some ⟨A.size + 1, 0, none⟩)) :: (41, .agg (cells2 w).toArray) :: (40, .agg (cells2 w).toArray) :: (39, .int .u64 w) :: (38, .pointer (some ⟨A.size + 0, 0, none⟩)) :: (37, .agg (cells1 w).toArray) :: (36, .agg (cells1 w).toArray) :: (35, .int .u64 w) :: (7, .pointer (some ⟨b7, 0, none⟩)) :: S0, some (undef), true, none⟩ := (Option.some.inj hx).symm
    refine ⟨fun _ => ⟨fun h => (by cases h), fun v hv => ?_⟩, fun h => (by cases h)⟩
    obtain rfl := Option.some.inj hv
    obtain rfl := Option.some.inj ho
    have hd := mayE_pred hmay (e := 8) (by show 8 ∈ [3, 7, 8, 9, 10, 11]; decide) (by kernel_rfl)
    have hg : (HF A w m).get (A.size + 2) = .cells [.pointer none] false false 1 := by rw [HF_get]; simp [hd, hbit]
    have hst : astore Try.prog (HF A w m) 26 ⟨A.size + 2, 0, none⟩ (.pointer (some ⟨A.size + 0, 0, none⟩)) = some ((HF A w m).set (A.size + 2) (.cells [.pointer (some ⟨A.size + 0, 0, none⟩)] false false 1)) := by
      have hs : prun Try.prog (sizeOf 26) = some 1 := by kernel_rfl
      have hc : (Value.pointer (some (⟨A.size + 0, 0, none⟩ : Addr))).cells = #[.pointer (some ⟨A.size + 0, 0, none⟩)] := rfl
      unfold astore
      simp only [hs, hc, List.size_toArray, List.length_cons, List.length_nil]
      unfold AW.storeN
      simp only [hg]
      rfl
    refine ⟨_, _, eop_store (t := 26) (a := .tmp 8) (x := .tmp 38) (ad := ⟨A.size + 2, 0, none⟩) (u := .pointer (some ⟨A.size + 0, 0, none⟩)) (by kernel_rfl) (by kernel_rfl) (by kernel_rfl) (by kernel_rfl) hst, rfl, ⟨by rw [AW.size_set, HF_size, HF_size], by rw [AW.nx_set, HF_nx A hnx, HF_nx A hnx], fun c => ?_⟩⟩
    rw [AW.get_set, HF_get, HF_get]
    simp only [Nat.testBit_or, Nat.testBit_two_pow]
    by_cases hc : c = A.size + 2 <;> simp [hc, hd, hbit]
  · -- 11
    obtain rfl : x = ⟨(9, .pointer (some ⟨A.size + 3, 0, none⟩)) :: (8, .pointer (some ⟨A.size + 2, 0, none⟩)) :: (42, .pointer (some ⟨A.size + 1, 0, none⟩)) :: (41, .agg (cells2 w).toArray) :: (40, .agg (cells2 w).toArray) :: (39, .int .u64 w) :: (38, .pointer (some ⟨A.size + 0, 0, none⟩)) :: (37, .agg (cells1 w).toArray) :: (36, .agg (cells1 w).toArray) :: (35, .int .u64 w) :: (7, .pointer (some ⟨b7, 0, none⟩)) :: S0, some (undef), true, none⟩ := (Option.some.inj hx).symm
    refine ⟨fun _ => ⟨fun h => (by cases h), fun v hv => ?_⟩, fun h => (by cases h)⟩
    obtain rfl := Option.some.inj hv
    obtain rfl := Option.some.inj ho
    have hd := mayE_pred hmay (e := 9) (by show 9 ∈ [3, 7, 8, 9, 10, 11]; decide) (by kernel_rfl)
    have hg : (HF A w m).get (A.size + 3) = .cells [.pointer none] false false 1 := by rw [HF_get]; simp [hd, hbit]
    have hst : astore Try.prog (HF A w m) 26 ⟨A.size + 3, 0, none⟩ (.pointer (some ⟨A.size + 1, 0, none⟩)) = some ((HF A w m).set (A.size + 3) (.cells [.pointer (some ⟨A.size + 1, 0, none⟩)] false false 1)) := by
      have hs : prun Try.prog (sizeOf 26) = some 1 := by kernel_rfl
      have hc : (Value.pointer (some (⟨A.size + 1, 0, none⟩ : Addr))).cells = #[.pointer (some ⟨A.size + 1, 0, none⟩)] := rfl
      unfold astore
      simp only [hs, hc, List.size_toArray, List.length_cons, List.length_nil]
      unfold AW.storeN
      simp only [hg]
      rfl
    refine ⟨_, _, eop_store (t := 26) (a := .tmp 9) (x := .tmp 42) (ad := ⟨A.size + 3, 0, none⟩) (u := .pointer (some ⟨A.size + 1, 0, none⟩)) (by kernel_rfl) (by kernel_rfl) (by kernel_rfl) (by kernel_rfl) hst, rfl, ⟨by rw [AW.size_set, HF_size, HF_size], by rw [AW.nx_set, HF_nx A hnx, HF_nx A hnx], fun c => ?_⟩⟩
    rw [AW.get_set, HF_get, HF_get]
    simp only [Nat.testBit_or, Nat.testBit_two_pow]
    by_cases hc : c = A.size + 3 <;> simp [hc, hd, hbit]
  · exact absurd (Array.getElem?_eq_some_iff.1 ho).1 (Nat.not_lt.2 (Nat.le_add_left 12 j))
end
end Go.Proofs.Ytmgadeebncpaoaa
