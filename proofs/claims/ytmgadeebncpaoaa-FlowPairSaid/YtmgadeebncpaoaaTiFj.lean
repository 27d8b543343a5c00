/- flow: the pair's law. -/
import Derived.Test.YtmgadeebncpaoaaTiFi
set_option autoImplicit false
set_option linter.unusedVariables false
set_option linter.unusedSimpArgs false
namespace Go.Proofs.Ytmgadeebncpaoaa
open Go.Abs Go.RowKit

theorem st_one {A : AW} {b : Nat} {x : Int} (h : A.get b = .cells [.int .u64 x] false false 1) (y : Int) : astore Try.prog A 25 ⟨b, 0, none⟩ (.int .u64 y) = some (A.set b (.cells [.int .u64 y] false false 1)) := by
  have hs : prun Try.prog (sizeOf 25) = some 1 := by kernel_rfl
  have hc : (Value.int IntKind.u64 y).cells = #[.int .u64 y] := rfl
  unfold astore
  simp only [hs, hc, List.size_toArray, List.length_cons, List.length_nil]
  unfold AW.storeN
  simp only [h]
  rfl

theorem wrap_u64_u32 {x : Int} (h0 : 0 ≤ x) (h1 : x < 4294967296) : IntKind.wrap .u64 x = x := wrap_u64 h0 (by omega)

section
variable {B : Nat} {w0 : World} {call : CallF} {draws : Array Oper → Array Value → AW → Option (Array Value × AW)} {A : AW}

theorem early_spec (hk5 : ∀ A, call 5 [] A = some (.bool true, A)) {win : Int} {a1 a2 : Option Addr} {c1 c2 : Nat} {ns rs : List Int} (hbig : 300 < ns.length ∨ 300 < rs.length ∨ win < 1 ∨ 1048576 < win) :
    match Try.f3.body with
    | some c => J Try.prog call draws 100000 194 c [(0, .int .u32 win), (1, .slice a1 ns.length c1), (2, .slice a2 rs.length c2)] A (Go.Abs.Ends Try.prog [ResultVar.tmp 6] fun v _ => v = Value.bool true)
    | _ => True := by
  show J Try.prog _ _ _ _ (.seq _ _) _ _ _
  by_cases hc0 : 300 < ns.length
  ·
    refine J.sr ?_
    refine EO.run 1 [0, 1, 2, 6] (S2 := [(0, .int .u32 win), (1, .slice a1 ns.length c1), (2, .slice a2 rs.length c2), (6, .bool false)]) (A2 := A) rfl (by kernel_rfl) ?_
    refine EO.done rfl ?_
    refine J.seq ?_
    refine J.sr ?_
    refine EO.run 4 [0, 1, 2, 6, 19] (S2 := [(0, .int .u32 win), (1, .slice a1 ns.length c1), (2, .slice a2 rs.length c2), (6, .bool false), (19, .bool (decide (((ns.length : Nat) : Int) > 300)))]) (A2 := A) rfl (by kernel_rfl) ?_
    have d1 : (decide (((ns.length : Nat) : Int) > 300)) = true := decide_eq_true (by omega)
    rw [d1]
    refine EO.run 16 [0, 1, 2, 6, 31] (S2 := [(0, .int .u32 win), (1, .slice a1 ns.length c1), (2, .slice a2 rs.length c2), (6, .bool false), (31, .bool true)]) (A2 := A) rfl (by kernel_rfl) ?_
    refine EO.done rfl ?_
    refine J.cond true (by kernel_rfl) (fun _ => ?_) (fun h => Bool.noConfusion h)
    refine J.sr ?_
    refine EO.fcall (f := 5) (vs := []) (v := .bool true) (A1 := A) rfl rfl rfl rfl (by kernel_rfl) (by kernel_rfl) (hk5 _) ?_
    refine EO.run 2 [0, 1, 2, 6, 31] (S2 := [(0, .int .u32 win), (1, .slice a1 ns.length c1), (2, .slice a2 rs.length c2), (6, .bool true), (31, .bool true)]) (A2 := A) rfl (by kernel_rfl) ?_
    refine EO.done rfl ?_
    refine J.ret ?_
    refine thenJ_r ?_
    refine Ends_r (vs := [.bool true]) (by kernel_rfl) ?_
    exact rfl
  by_cases hc1 : 300 < rs.length
  ·
    refine J.sr ?_
    refine EO.run 1 [0, 1, 2, 6] (S2 := [(0, .int .u32 win), (1, .slice a1 ns.length c1), (2, .slice a2 rs.length c2), (6, .bool false)]) (A2 := A) rfl (by kernel_rfl) ?_
    refine EO.done rfl ?_
    refine J.seq ?_
    refine J.sr ?_
    refine EO.run 4 [0, 1, 2, 6, 19] (S2 := [(0, .int .u32 win), (1, .slice a1 ns.length c1), (2, .slice a2 rs.length c2), (6, .bool false), (19, .bool (decide (((ns.length : Nat) : Int) > 300)))]) (A2 := A) rfl (by kernel_rfl) ?_
    have d1 : (decide (((ns.length : Nat) : Int) > 300)) = false := decide_eq_false (by omega)
    rw [d1]
    refine EO.run 9 [0, 1, 2, 6, 24] (S2 := [(0, .int .u32 win), (1, .slice a1 ns.length c1), (2, .slice a2 rs.length c2), (6, .bool false), (24, .bool (decide (((rs.length : Nat) : Int) > 300)))]) (A2 := A) rfl (by kernel_rfl) ?_
    have d2 : (decide (((rs.length : Nat) : Int) > 300)) = true := decide_eq_true (by omega)
    rw [d2]
    refine EO.run 16 [0, 1, 2, 6, 31] (S2 := [(0, .int .u32 win), (1, .slice a1 ns.length c1), (2, .slice a2 rs.length c2), (6, .bool false), (31, .bool true)]) (A2 := A) rfl (by kernel_rfl) ?_
    refine EO.done rfl ?_
    refine J.cond true (by kernel_rfl) (fun _ => ?_) (fun h => Bool.noConfusion h)
    refine J.sr ?_
    refine EO.fcall (f := 5) (vs := []) (v := .bool true) (A1 := A) rfl rfl rfl rfl (by kernel_rfl) (by kernel_rfl) (hk5 _) ?_
    refine EO.run 2 [0, 1, 2, 6, 31] (S2 := [(0, .int .u32 win), (1, .slice a1 ns.length c1), (2, .slice a2 rs.length c2), (6, .bool true), (31, .bool true)]) (A2 := A) rfl (by kernel_rfl) ?_
    refine EO.done rfl ?_
    refine J.ret ?_
    refine thenJ_r ?_
    refine Ends_r (vs := [.bool true]) (by kernel_rfl) ?_
    exact rfl
  by_cases hc2 : win < 1
  ·
    refine J.sr ?_
    refine EO.run 1 [0, 1, 2, 6] (S2 := [(0, .int .u32 win), (1, .slice a1 ns.length c1), (2, .slice a2 rs.length c2), (6, .bool false)]) (A2 := A) rfl (by kernel_rfl) ?_
    refine EO.done rfl ?_
    refine J.seq ?_
    refine J.sr ?_
    refine EO.run 4 [0, 1, 2, 6, 19] (S2 := [(0, .int .u32 win), (1, .slice a1 ns.length c1), (2, .slice a2 rs.length c2), (6, .bool false), (19, .bool (decide (((ns.length : Nat) : Int) > 300)))]) (A2 := A) rfl (by kernel_rfl) ?_
    have d1 : (decide (((ns.length : Nat) : Int) > 300)) = false := decide_eq_false (by omega)
    rw [d1]
    refine EO.run 9 [0, 1, 2, 6, 24] (S2 := [(0, .int .u32 win), (1, .slice a1 ns.length c1), (2, .slice a2 rs.length c2), (6, .bool false), (24, .bool (decide (((rs.length : Nat) : Int) > 300)))]) (A2 := A) rfl (by kernel_rfl) ?_
    have d2 : (decide (((rs.length : Nat) : Int) > 300)) = false := decide_eq_false (by omega)
    rw [d2]
    refine EO.run 13 [0, 1, 2, 6, 28] (S2 := [(0, .int .u32 win), (1, .slice a1 ns.length c1), (2, .slice a2 rs.length c2), (6, .bool false), (28, .bool (decide (win < 1)))]) (A2 := A) rfl (by kernel_rfl) ?_
    have d3 : (decide (win < 1)) = true := decide_eq_true (by omega)
    rw [d3]
    refine EO.run 16 [0, 1, 2, 6, 31] (S2 := [(0, .int .u32 win), (1, .slice a1 ns.length c1), (2, .slice a2 rs.length c2), (6, .bool false), (31, .bool true)]) (A2 := A) rfl (by kernel_rfl) ?_
    refine EO.done rfl ?_
    refine J.cond true (by kernel_rfl) (fun _ => ?_) (fun h => Bool.noConfusion h)
    refine J.sr ?_
    refine EO.fcall (f := 5) (vs := []) (v := .bool true) (A1 := A) rfl rfl rfl rfl (by kernel_rfl) (by kernel_rfl) (hk5 _) ?_
    refine EO.run 2 [0, 1, 2, 6, 31] (S2 := [(0, .int .u32 win), (1, .slice a1 ns.length c1), (2, .slice a2 rs.length c2), (6, .bool true), (31, .bool true)]) (A2 := A) rfl (by kernel_rfl) ?_
    refine EO.done rfl ?_
    refine J.ret ?_
    refine thenJ_r ?_
    refine Ends_r (vs := [.bool true]) (by kernel_rfl) ?_
    exact rfl
  refine J.sr ?_
  refine EO.run 1 [0, 1, 2, 6] (S2 := [(0, .int .u32 win), (1, .slice a1 ns.length c1), (2, .slice a2 rs.length c2), (6, .bool false)]) (A2 := A) rfl (by kernel_rfl) ?_
  refine EO.done rfl ?_
  refine J.seq ?_
  refine J.sr ?_
  refine EO.run 4 [0, 1, 2, 6, 19] (S2 := [(0, .int .u32 win), (1, .slice a1 ns.length c1), (2, .slice a2 rs.length c2), (6, .bool false), (19, .bool (decide (((ns.length : Nat) : Int) > 300)))]) (A2 := A) rfl (by kernel_rfl) ?_
  have d1 : (decide (((ns.length : Nat) : Int) > 300)) = false := decide_eq_false (by omega)
  rw [d1]
  refine EO.run 9 [0, 1, 2, 6, 24] (S2 := [(0, .int .u32 win), (1, .slice a1 ns.length c1), (2, .slice a2 rs.length c2), (6, .bool false), (24, .bool (decide (((rs.length : Nat) : Int) > 300)))]) (A2 := A) rfl (by kernel_rfl) ?_
  have d2 : (decide (((rs.length : Nat) : Int) > 300)) = false := decide_eq_false (by omega)
  rw [d2]
  refine EO.run 13 [0, 1, 2, 6, 28] (S2 := [(0, .int .u32 win), (1, .slice a1 ns.length c1), (2, .slice a2 rs.length c2), (6, .bool false), (28, .bool (decide (win < 1)))]) (A2 := A) rfl (by kernel_rfl) ?_
  have d3 : (decide (win < 1)) = false := decide_eq_false (by omega)
  rw [d3]
  refine EO.run 16 [0, 1, 2, 6, 31] (S2 := [(0, .int .u32 win), (1, .slice a1 ns.length c1), (2, .slice a2 rs.length c2), (6, .bool false), (31, .bool (decide (win > 1048576)))]) (A2 := A) rfl (by kernel_rfl) ?_
  refine EO.done rfl ?_
  have d4 : (decide (win > 1048576)) = true := decide_eq_true (by omega)
  rw [d4]
  refine J.cond true (by kernel_rfl) (fun _ => ?_) (fun h => Bool.noConfusion h)
  refine J.sr ?_
  refine EO.fcall (f := 5) (vs := []) (v := .bool true) (A1 := A) rfl rfl rfl rfl (by kernel_rfl) (by kernel_rfl) (hk5 _) ?_
  refine EO.run 2 [0, 1, 2, 6, 31] (S2 := [(0, .int .u32 win), (1, .slice a1 ns.length c1), (2, .slice a2 rs.length c2), (6, .bool true), (31, .bool true)]) (A2 := A) rfl (by kernel_rfl) ?_
  refine EO.done rfl ?_
  refine J.ret ?_
  refine thenJ_r ?_
  refine Ends_r (vs := [.bool true]) (by kernel_rfl) ?_
  exact rfl

theorem normal_spec (hm : Try.prog.follows .mixedOrders = true) {m : Nat} {pre : FuncId → Option (List Value → AW → Option (Value × AW))} {dr : CallF → Array Oper → Array Value → AW → Option (Array Value × AW)}
    (hp6 : pre 6 = none) (hp7 : pre 7 = none) (hp8 : pre 8 = none) (hp9 : pre 9 = none) (hp10 : pre 10 = none) (hp11 : pre 11 = none) (hp12 : pre 12 = none) (hp18 : pre 18 = none) (hp19 : pre 19 = none) (hk5 : ∀ A, acall Try.prog pre dr 100000 (m + 3) 5 [] A = some (.bool true, A))
    (hdr : ∀ {call ops t A r}, adraw Try.prog call ops t A = some r → dr call ops t A = some r)
    (hcall : CallSound Try.prog B w0 (acall Try.prog pre dr 100000 (m + 3))) (hdraw : DrawSound Try.prog B w0 (dr (acall Try.prog pre dr 100000 (m + 3)))) (hnx : A.nx = none) {win : Int} (hw : 1 ≤ win ∧ win ≤ 1048576)
    {a1 a2 : Option Addr} {c1 c2 : Nat} {ns rs : List Int} (hl : RK .u16 A (.slice a1 ns.length c1) ns) (hr : RK .u16 A (.slice a2 rs.length c2) rs) (hlen : ns.length ≤ 300) (hlen2 : rs.length ≤ 300) :
    match Try.f3.body with
    | some c => JW Try.prog B w0 194 c [(0, .int .u32 win), (1, .slice a1 ns.length c1), (2, .slice a2 rs.length c2)] A (Go.Abs.Ends Try.prog [ResultVar.tmp 6] fun v _ => v = Value.bool true)
    | _ => True := by
  show JW Try.prog _ _ _ (.seq _ _) _ _ _
  refine JW.seq (JW.ofJ (R := 100000) hcall hdraw ?_)
  refine J.region ?_
  refine EO.run 1 [0, 1, 2] (S2 := [(0, .int .u32 win), (1, .slice a1 ns.length c1), (2, .slice a2 rs.length c2)]) (A2 := A) rfl (by kernel_rfl) ?_
  refine EO.done rfl ?_
  show JW Try.prog _ _ _ (.seq _ _) _ _ _
  refine JW.seq (JW.ofJ (R := 100000) hcall hdraw ?_)
  refine J.sr ?_
  refine EO.run 4 [0, 1, 2, 19] (S2 := [(0, .int .u32 win), (1, .slice a1 ns.length c1), (2, .slice a2 rs.length c2), (19, .bool (decide (((ns.length : Nat) : Int) > 300)))]) (A2 := A) rfl (by kernel_rfl) ?_
  have d1 : (decide (((ns.length : Nat) : Int) > 300)) = false := decide_eq_false (by omega)
  rw [d1]
  refine EO.run 9 [0, 1, 2, 24] (S2 := [(0, .int .u32 win), (1, .slice a1 ns.length c1), (2, .slice a2 rs.length c2), (24, .bool (decide (((rs.length : Nat) : Int) > 300)))]) (A2 := A) rfl (by kernel_rfl) ?_
  have d2 : (decide (((rs.length : Nat) : Int) > 300)) = false := decide_eq_false (by omega)
  rw [d2]
  refine EO.run 13 [0, 1, 2, 28] (S2 := [(0, .int .u32 win), (1, .slice a1 ns.length c1), (2, .slice a2 rs.length c2), (28, .bool (decide (win < 1)))]) (A2 := A) rfl (by kernel_rfl) ?_
  have d3 : (decide (win < 1)) = false := decide_eq_false (by omega)
  rw [d3]
  refine EO.run 16 [0, 1, 2, 31] (S2 := [(0, .int .u32 win), (1, .slice a1 ns.length c1), (2, .slice a2 rs.length c2), (31, .bool (decide (win > 1048576)))]) (A2 := A) rfl (by kernel_rfl) ?_
  refine EO.done rfl ?_
  have d4 : (decide (win > 1048576)) = false := decide_eq_false (by omega)
  rw [d4]
  refine J.cond false (by kernel_rfl) (fun h => Bool.noConfusion h) (fun _ => ?_)
  refine J.skip ?_
  show JW Try.prog _ _ _ (.seq _ _) _ _ _
  refine JW.seq (JW.ofJ (R := 100000) hcall hdraw ?_)
  refine J.region ?_
  refine EO.run 2 [0, 1, 2, 31, 34] (S2 := [(0, .int .u32 win), (1, .slice a1 ns.length c1), (2, .slice a2 rs.length c2), (31, .bool false), (34, .int .u64 (IntKind.wrap .u64 win))]) (A2 := A) rfl (by kernel_rfl) ?_
  refine EO.cast (S2 := [(0, .int .u32 win), (1, .slice a1 ns.length c1), (2, .slice a2 rs.length c2), (31, .bool false), (34, .int .u64 win)]) (by rw [show (IntKind.wrap .u64 win : Int) = win from wrap_u64 (by omega) (by omega)]) ?_
  refine EO.run 3 [1, 2, 7, 34] (S2 := [(1, .slice a1 ns.length c1), (2, .slice a2 rs.length c2), (7, .pointer (some ⟨A.nid, 0, none⟩)), (34, .int .u64 win)]) (A2 := A.push (.cells [.int .u64 0] false false 1)) rfl (by kernel_rfl) ?_
  have hg0 : (A.push (.cells [.int .u64 0] false false 1)).get A.nid = .cells [.int .u64 0] false false 1 := push_get_new _
  obtain ⟨A1, hA1, hx1, hn1⟩ : ∃ A1, A.push (.cells [.int .u64 0] false false 1) = A1 ∧ AExt A A1 ∧ A1.nx = none := ⟨_, rfl, AExt.push hnx _, AW.push_nx _ _⟩
  have hsz : A1.size = A.size + 1 := by rw [← hA1, A.size_push_none _ hnx]
  rw [hA1] at hg0 ⊢
  have hid : A.nid = A.size := nid_none hnx
  have hst := st_one hg0 win
  obtain ⟨A2, hA2, hM2⟩ : ∃ A2, A1.set A.nid (.cells [.int .u64 win] false false 1) = A2 ∧ AMod A1 A.nid A2 := ⟨_, rfl, AMod.set hn1 _⟩
  have hg2 : A2.get A.nid = .cells [.int .u64 win] false false 1 := by rw [← hA2, AW.get_set, if_pos rfl]
  rw [hA2] at hst
  refine EO.store (ad := ⟨A.nid, 0, none⟩) (u := .int .u64 win) (A1 := A2) rfl rfl rfl (by kernel_rfl) (by kernel_rfl) (by kernel_rfl) hst ?_
  refine EO.done rfl ?_
  show JW Try.prog _ _ _ (.seq _ _) _ _ _
  refine JW.weak [7, 1, 2] (S2 := [(7, .pointer (some ⟨A.nid, 0, none⟩)), (1, .slice a1 ns.length c1), (2, .slice a2 rs.length c2)]) (by kernel_rfl) ?_
  refine JW.seq (region4 (call := acall Try.prog pre dr 100000 (m + 3)) (w := win) (b7 := A.nid) (S0 := [(1, .slice a1 ns.length c1), (2, .slice a2 rs.length c2)]) hm hcall hM2.nx (by rw [hM2.size, hsz, hid]; omega) hg2 ?_)
  show JW Try.prog _ _ _ (.seq _ _) _ _ _
  refine JW.weak [1, 2, 7, 8, 9] (S2 := [(1, .slice a1 ns.length c1), (2, .slice a2 rs.length c2), (7, .pointer (some ⟨A.nid, 0, none⟩)), (8, .pointer (some ⟨A2.size + 2, 0, none⟩)), (9, .pointer (some ⟨A2.size + 3, 0, none⟩))]) (by kernel_rfl) ?_
  have hx2 : AExt A A2 := ⟨by rw [hM2.size]; exact hx1.size, fun c hc => by rw [hM2.get c (by omega)]; exact hx1.get c hc, fun _ => hM2.nx⟩
  exact JW.ofJ hcall hdraw (rest_spec (m := m) hp6 hp7 hp8 hp9 hp10 hp11 hp12 hp18 hp19 hk5 hdr (A0 := A) (hx2.trans (HF_ext hM2.nx win 3976)) hx2.size (Nat.le_trans hx2.size (Nat.le_succ _)) hw (two_made hM2.nx (by rw [hM2.size, hsz, hid]; omega) hg2) hl hr hlen)


theorem law_spec {ρ : Rho} {w' : World} (hm : Try.prog.follows .mixedOrders = true) (hn : namesOk Try.prog.funcs.toList = true) (hpre : PreSound Try.prog B w0 (preK 5)) (hI : Inv B w0 ρ A w') (hnx : A.nx = none) {win : Int} (hw0 : 0 ≤ win ∧ win < 4294967296) {v1 v2 : Value} {ns rs : List Int}
    (hl : RK .u16 A v1 ns) (hr : RK .u16 A v2 rs) {args' : List Value} (ha : VRL ρ [.int .u32 win, v1, v2] args') : Calls Try.prog 3 args'.toArray w' fun e w1 => e = .returned (.bool true) ∧ Below B w0 w1 := by
  obtain ⟨a1, c1, rfl⟩ := hl.form
  obtain ⟨a2, c2, rfl⟩ := hr.form
  have hcall : CallSound Try.prog B w0 (acall Try.prog (preK 5) (adraw2 Try.prog) 100000 (0 + 3)) := acall_sound hpre (fun call hc => adraw2_sound hm hc) (namesOk_spec hn) 100000 (0 + 3)
  have hdraw := adraw2_sound hm hcall
  have hk5 : ∀ A, acall Try.prog (preK 5) (adraw2 Try.prog) 100000 (0 + 3) 5 [] A = some (.bool true, A) := fun A => acall_preK
  refine Calls.mono (JW.fn (K := fun v _ => v = .bool true) Try.func3 rfl (Nat.le_of_ble_eq_true rfl) hI ha ?_) ?_
  · by_cases hbig : 300 < ns.length ∨ 300 < rs.length ∨ win < 1 ∨ 1048576 < win
    · exact JW.ofJ hcall hdraw (early_spec hk5 hbig)
    · exact normal_spec (m := 0) hm rfl rfl rfl rfl rfl rfl rfl rfl rfl hk5 (fun h => adraw2_of h) hcall hdraw hnx (by omega) hl hr (by omega) (by omega)
  · rintro e w1 ⟨v, A1, ρ1, v', rfl, rfl, h1, h2, h3⟩
    simp only [VR] at h3
    subst h3
    exact ⟨rfl, h2.below⟩
end
end Go.Proofs.Ytmgadeebncpaoaa
