/- New blocks, stores, blocks that move: what the abstract heap does, the world does. -/
import Derived.Test.YtioggedadamoaaaAbsHeap
set_option autoImplicit false
set_option linter.unusedVariables false
namespace Go.Abs
open Go.RowKit
theorem heap_alloc_lt (w : World) (o : Obj) {k : Nat} (h : k < w.heap.size) : (w.alloc o).heap[k]? = w.heap[k]? := Below.heap_alloc w o k h
theorem heap_alloc_new' (w : World) (o : Obj) : (w.alloc o).heap[w.heap.size]? = some o := by
  show (w.heap.push o)[w.heap.size]? = _
  simp
theorem size_alloc' (w : World) (o : Obj) : (w.alloc o).heap.size = w.heap.size + 1 := by
  show (w.heap.push o).size = _
  simp
def place (ρ : Rho) (b : Nat) (e : Ent) : Rho := fun c => if c = b then some e else ρ c
theorem place_ext {ρ : Rho} {b : Nat} (h : ρ b = none) (e : Ent) : Ext ρ (place ρ b e) := fun c f hc => by
  unfold place
  rw [if_neg (by rintro rfl; rw [h] at hc; cases hc)]
  exact hc
theorem place_same (ρ : Rho) (b : Nat) (e : Ent) : place ρ b e b = some e := by simp [place]
theorem place_ne (ρ : Rho) {b c : Nat} (e : Ent) (h : c ≠ b) : place ρ b e c = ρ c := by simp [place, h]
section
variable {B : Nat → Prop} {w0 : World} {ρ : Rho} {A : AW} {w : World}
theorem Inv.base_le (h : Inv B w0 ρ A w) : ∀ k, B k → k < w.heap.size := fun k hk => Nat.lt_of_lt_of_le (h.base k hk) h.below.size
theorem Inv.newK (h : Inv B w0 ρ A w) : ¬ B w.heap.size := fun k => Nat.lt_irrefl _ (h.base_le _ k)
theorem Inv.full_place (h : Inv B w0 ρ A w) (x : AObj) (e : Ent) : ∀ c, c < (A.push x).size → alive ((A.push x).get c) = true → ∃ f, place ρ A.nid e c = some f :=
  h.full_push x ⟨e, place_same _ _ _⟩ fun b hb => place_ne _ _ hb
theorem Inv.new (h : Inv B w0 ρ A w) (cs : List Value) (opn : Bool) (esz extra : Nat) (rc : Array Value) (t : TypeId) (fr : Nat × Nat)
    (hr : VRL ρ cs (rc.toList.take cs.length)) (hs : cs.length + extra * esz ≤ rc.size) (h1 : oneCells cs = true) (hx : opn = false → extra = 0)
    (hf : frOk fr rc.size) :
    Inv B w0 (place ρ A.nid ⟨w.heap.size, 0, cs.length, extra, esz⟩) (A.push (.cells cs false opn esz)) (w.alloc (.cells rc t fr)) := by
  have hext := place_ext h.free ⟨w.heap.size, 0, cs.length, extra, esz⟩
  refine ⟨h.below.alloc h.base_le _, h.base, ?_, ?_, ?_, h.push_nx_, h.full_place _ _⟩
  have hp1 := h.nid_lt (.cells cs false opn esz)
  have hp2 := A.size_push_le (.cells cs false opn esz)
  · intro b e hb
    rw [size_alloc', AW.get_push]
    by_cases hbs : b = A.nid
    · subst hbs
      rw [place_same] at hb
      obtain rfl := Option.some.inj hb
      refine ⟨hp1, by simp, ?_⟩
      rw [if_pos rfl]
      refine ⟨rfl, rfl, hx, by simp, h1, rc, t, fr, _, heap_alloc_new' _ _, ?_, rfl, ?_, fun _ => ⟨h.newK, hf⟩⟩
      · simpa using hs
      · simpa using VRL.ext hext _ _ hr
    · rw [place_ne _ _ hbs] at hb
      obtain ⟨h2, h3, h4⟩ := h.at_ b e hb
      rw [if_neg hbs]
      exact ⟨by omega, by omega, (h4.ext hext).block (heap_alloc_lt _ _ h3)⟩
  · intro b c e f hne hb hc hlb hlc
    rw [AW.get_push] at hlb hlc
    by_cases hbs : b = A.nid
    · subst hbs
      rw [place_same] at hb
      obtain rfl := Option.some.inj hb
      rw [place_ne _ _ (Ne.symm hne)] at hc
      have := (h.at_ c f hc).2.1
      simp only
      omega
    · rw [place_ne _ _ hbs] at hb
      by_cases hcs : c = A.nid
      · subst hcs
        rw [place_same] at hc
        obtain rfl := Option.some.inj hc
        have := (h.at_ b e hb).2.1
        simp only
        omega
      · rw [place_ne _ _ hcs] at hc
        rw [if_neg hbs] at hlb
        rw [if_neg hcs] at hlc
        exact h.sep b c e f hne hb hc hlb hlc
  · intro b hb
    obtain ⟨hb1, hb2⟩ := h.past _ hb
    rw [place_ne _ _ hb1]
    exact h.dead_ b hb2
theorem Inv.newMap (h : Inv B w0 ρ A w) : Inv B w0 (place ρ A.nid ⟨w.heap.size, 0, 0, 0, 1⟩) (A.push (.map [] 0)) (w.alloc (.map #[] 0)) := by
  have hext := place_ext h.free ⟨w.heap.size, 0, 0, 0, 1⟩
  refine ⟨h.below.alloc h.base_le _, h.base, ?_, ?_, ?_, h.push_nx_, h.full_place _ _⟩
  have hp1 := h.nid_lt (.map [] 0)
  have hp2 := A.size_push_le (.map [] 0)
  · intro b e hb
    rw [size_alloc', AW.get_push]
    by_cases hbs : b = A.nid
    · subst hbs
      rw [place_same] at hb
      obtain rfl := Option.some.inj hb
      refine ⟨hp1, by simp, ?_⟩
      rw [if_pos rfl]
      exact ⟨h.newK, #[], heap_alloc_new' _ _, rfl⟩
    · rw [place_ne _ _ hbs] at hb
      obtain ⟨h2, h3, h4⟩ := h.at_ b e hb
      rw [if_neg hbs]
      exact ⟨by omega, by omega, (h4.ext hext).block (heap_alloc_lt _ _ h3)⟩
  · intro b c e f hne hb hc hlb hlc
    rw [AW.get_push] at hlb hlc
    by_cases hbs : b = A.nid
    · subst hbs
      rw [place_same] at hb
      obtain rfl := Option.some.inj hb
      rw [place_ne _ _ (Ne.symm hne)] at hc
      have := (h.at_ c f hc).2.1
      simp only
      omega
    · rw [place_ne _ _ hbs] at hb
      by_cases hcs : c = A.nid
      · subst hcs
        rw [place_same] at hc
        obtain rfl := Option.some.inj hc
        have := (h.at_ b e hb).2.1
        simp only
        omega
      · rw [place_ne _ _ hcs] at hc
        rw [if_neg hbs] at hlb
        rw [if_neg hcs] at hlc
        exact h.sep b c e f hne hb hc hlb hlc
  · intro b hb
    obtain ⟨hb1, hb2⟩ := h.past _ hb
    rw [place_ne _ _ hb1]
    exact h.dead_ b hb2
theorem Inv.kill (h : Inv B w0 ρ A w) {b : Nat} {e : Ent} (hb : ρ b = some e) : Inv B w0 ρ (A.set b .dead) w := by
  refine ⟨h.below, h.base, ?_, ?_, h.dead_, h.nx_ne hb _, h.full_set hb _⟩
  · intro c e hc
    obtain ⟨h2, h3, h4⟩ := h.at_ c e hc
    rw [AW.get_set]
    refine ⟨h2, h3, ?_⟩
    split
    · trivial
    · exact h4
  · intro c d e f hne hc hd hlc hld
    rw [AW.get_set] at hlc hld
    by_cases h1 : c = b
    · rw [if_pos h1] at hlc; simp [live] at hlc
    · by_cases h2 : d = b
      · rw [if_pos h2] at hld; simp [live] at hld
      · rw [if_neg h1] at hlc
        rw [if_neg h2] at hld
        exact h.sep c d e f hne hc hd hlc hld
theorem Inv.alias (h : Inv B w0 ρ A w) (opn : Bool) (esz extra : Nat) {b : Nat} {e : Ent} (hb : ρ b = some e) {cs : List Value} {ro op : Bool} {es : Nat} (hg : A.get b = .cells cs ro op es)
    (off : Nat) (ho : off + extra * esz ≤ e.off + cs.length + e.extra * es) (hx : opn = false → extra = 0) :
    Inv B w0 (place ρ A.nid ⟨e.blk, off, 0, extra, esz⟩) (A.push (.cells [] true opn esz)) w := by
  have hext := place_ext h.free ⟨e.blk, off, 0, extra, esz⟩
  obtain ⟨hb1, hb2, hb3⟩ := h.at_ b e hb
  rw [hg] at hb3
  obtain ⟨g1, g2, g3, g4, g5, rc, t, fr, rs, g6, g7, g8, g9, g10⟩ := hb3
  refine ⟨h.below, h.base, ?_, ?_, ?_, h.push_nx_, h.full_place _ _⟩
  have hp1 := h.nid_lt (.cells [] true opn esz)
  have hp2 := A.size_push_le (.cells [] true opn esz)
  · intro c f hc
    rw [AW.get_push]
    by_cases hcs : c = A.nid
    · subst hcs
      rw [place_same] at hc
      obtain rfl := Option.some.inj hc
      refine ⟨hp1, hb2, ?_⟩
      rw [if_pos rfl]
      refine ⟨rfl, rfl, hx, fun _ => .inl rfl, rfl, rc, t, fr, [], g6, ?_, by simp, by simp [VRL], by simp⟩
      simp only [List.length_nil]
      omega
    · rw [place_ne _ _ hcs] at hc
      obtain ⟨h2, h3, h4⟩ := h.at_ c f hc
      rw [if_neg hcs]
      exact ⟨by omega, h3, h4.ext hext⟩
  · intro c d f g hne hc hd hlc hld
    rw [AW.get_push] at hlc hld
    by_cases hcs : c = A.nid
    · rw [if_pos hcs] at hlc; simp [live] at hlc
    · by_cases hds : d = A.nid
      · rw [if_pos hds] at hld; simp [live] at hld
      · rw [if_neg hcs] at hlc
        rw [if_neg hds] at hld
        rw [place_ne _ _ hcs] at hc
        rw [place_ne _ _ hds] at hd
        exact h.sep c d f g hne hc hd hlc hld
  · intro c hc
    obtain ⟨hb1, hb2⟩ := h.past _ hc
    rw [place_ne _ _ hb1]
    exact h.dead_ c hb2
end
theorem splice_cons (cs : List Value) (o : Nat) (v : Value) (vs : List Value) (h : o + (vs.length + 1) ≤ cs.length) : splice (cs.set o v) (o + 1) vs = splice cs o (v :: vs) := by
  unfold splice
  apply List.ext_getElem?
  intro i
  simp only [List.length_cons]
  have e1 : (cs.set o v).take (o + 1) = cs.take o ++ [v] := by
    rw [List.take_add_one, List.getElem?_set_self (by omega)]
    rw [List.take_set_of_le (Nat.le_refl _)]
    rfl
  have e2 : (cs.set o v).drop (o + 1 + vs.length) = cs.drop (o + 1 + vs.length) := List.drop_set_of_lt (by omega)
  rw [e1, e2]
  have e3 : o + (vs.length + 1) = o + 1 + vs.length := by omega
  rw [e3]
  simp
theorem run_storeCells' {P : Program} (g o : Nat) (t : TypeId) (fr : Nat × Nat) : ∀ (vs : List Value) (i : Nat) (cur : Array Value) (w : World), w.heap[g]? = some (.cells cur t fr) →
    (∀ k, k < cur.size → ¬ (fr.1 ≤ k ∧ k < fr.2)) → o + i + vs.length ≤ cur.size → (∀ v ∈ vs, v.oneCell' = true) →
    ∃ w' cur', (storeCells ⟨g, o, none⟩ vs i).run P w = .ok () w' ∧ w'.heap[g]? = some (.cells cur' t fr) ∧ cur'.toList = splice cur.toList (o + i) vs ∧ (∀ k, k ≠ g → w'.heap[k]? = w.heap[k]?) ∧
      w'.heap.size = w.heap.size ∧ w'.os = w.os ∧ w'.tape = w.tape ∧ w'.output = w.output
  | [], i, cur, w, h, _, _, _ => ⟨w, cur, rfl, h, by simp [splice], fun _ _ => rfl, rfl, rfl, rfl, rfl⟩
  | v :: vs, i, cur, w, h, hf, hl, h1 => by
    simp only [List.length_cons] at hl
    have hadd : (⟨g, o, none⟩ : Addr).add i = ⟨g, o + i, none⟩ := addr_add g o i
    have hc : w.cell? ⟨g, o + i, none⟩ = cur[o + i]? := cell_in h _
    have hlt : o + i < cur.size := by omega
    have hst : (store ((⟨g, o, none⟩ : Addr).add i) v).run P w = .ok () (w.setCell ⟨g, o + i, none⟩ v) := by
      rw [hadd, run_store P w _ v _ (h1 v (by simp)), hc, Array.getElem?_eq_getElem hlt]
      have hz : w.frozen? ⟨g, o + i, none⟩ = false := by
        have := hf _ hlt
        simp only [World.frozen?, h]
        simp only [Bool.and_eq_false_iff, decide_eq_false_iff_not]
        omega
      simp [hz]
    have hg : (w.setCell ⟨g, o + i, none⟩ v).heap[g]? = some (.cells (cur.setIfInBounds (o + i) v) t fr) := by
      simp [World.setCell, Array.getElem?_modify, h]
    obtain ⟨w', cur', e1, e2, e3, e4, e5, e6, e7, e8⟩ := run_storeCells' (P := P) g o t fr vs (i + 1) (cur.setIfInBounds (o + i) v) (w.setCell ⟨g, o + i, none⟩ v) hg (by simpa using hf) (by simp; omega) (fun u hu => h1 u (by simp [hu]))
    refine ⟨w', cur', ?_, e2, ?_, ?_, by rw [e5]; simp [World.setCell], by rw [e6]; rfl, by rw [e7]; rfl, by rw [e8]; rfl⟩
    · simp only [storeCells, Sem.run_bind, hst, Result.andThen_ok, e1]
    · rw [e3, Array.toList_setIfInBounds, show o + (i + 1) = o + i + 1 from by omega]
      exact splice_cons _ _ _ _ (by simp; omega)
    · intro k hk
      rw [e4 k hk]
      exact Below.heap_setCell w ⟨g, o + i, none⟩ v k hk
theorem splice_length {cs vs : List Value} {o : Nat} (h : o + vs.length ≤ cs.length) : (splice cs o vs).length = cs.length := by
  unfold splice; simp; omega
theorem window_splice (rc vs : List Value) (off n o : Nat) (h : o + vs.length ≤ n) (hn : off + n ≤ rc.length) :
    ((splice rc (off + o) vs).drop off).take n = splice ((rc.drop off).take n) o vs := by
  apply List.ext_getElem?
  intro i
  unfold splice
  by_cases hi : i < n
  · rw [List.getElem?_take_of_lt hi, List.getElem?_drop]
    by_cases h1 : i < o
    · rw [List.append_assoc, List.getElem?_append_left (by simp; omega), List.append_assoc, List.getElem?_append_left (by simp; omega)]
      rw [List.getElem?_take_of_lt (by omega), List.getElem?_take_of_lt h1, List.getElem?_take_of_lt hi, List.getElem?_drop]
    · by_cases h2 : i < o + vs.length
      · rw [List.getElem?_append_left (by simp; omega), List.getElem?_append_right (by simp; omega), List.getElem?_append_left (by simp; omega), List.getElem?_append_right (by simp; omega)]
        simp only [List.length_take, List.length_drop]
        congr 1
        omega
      · rw [List.getElem?_append_right (by simp; omega), List.getElem?_append_right (by simp; omega)]
        rw [List.getElem?_drop, List.getElem?_drop]
        simp only [List.length_append, List.length_take, List.length_drop]
        rw [List.getElem?_take_of_lt (by omega), List.getElem?_drop]
        congr 1
        omega
  · rw [List.getElem?_eq_none (by simp; omega), List.getElem?_eq_none (by simp; omega)]
section
variable {B : Nat → Prop} {w0 : World} {ρ : Rho} {A : AW} {w : World}
theorem Inv.storeN {P : Program} (h : Inv B w0 ρ A w) {a a' : Addr} (ha : AR ρ a a') {vs vs' : List Value} (hv : VRL ρ vs vs') {A' : AW} (hst : A.storeN a vs = some A') :
    ∃ w', (storeCells a' vs').run P w = .ok () w' ∧ Inv B w0 ρ A' w' := by
  obtain ⟨hs, e, he, rfl⟩ := ha
  obtain ⟨hlt, hw, ho⟩ := h.at_ _ _ he
  unfold AW.storeN at hst
  rw [hs] at hst
  simp only at hst
  cases hg : A.get a.block with
  | dead => simp [hg] at hst
  | resv => simp [hg] at hst
  | map es c => simp [hg] at hst
  | cells cs ro opn esz =>
    rw [hg] at hst ho
    cases ro with
    | true => simp at hst
    | false =>
      simp only at hst
      cases hb : (Nat.ble (a.off + vs.length) cs.length && oneCells vs) with
      | false => simp [hb] at hst
      | true =>
        simp only [hb, cond_true, Option.some.injEq] at hst
        simp only [Bool.and_eq_true] at hb
        have hble : a.off + vs.length ≤ cs.length := Nat.le_of_ble_eq_true hb.1
        obtain ⟨h1, h2, h3, h4, h5, rc, t, fr, rs, h6, h7, h8, h9, h10⟩ := ho
        obtain ⟨hB, hfr⟩ := h10 rfl
        have hlen : vs'.length = vs.length := hv.length
        obtain ⟨w', cur', e1, e2, e3, e4, e5, e6, e7, e8⟩ := run_storeCells' (P := P) e.blk (e.off + a.off) t fr vs' 0 rc w h6 hfr.no (by omega) (oneCells_all (hv.oneCells hb.2))
        refine ⟨w', e1, ?_⟩
        subst hst
        have hcsz : cur'.size = rc.size := by
          have := congrArg List.length e3
          rw [splice_length (by simp; omega)] at this
          simpa using this
        have hbelow : Kept B w0 w' := h.below.trans ⟨e6, e7, e8, by omega, fun k hk => e4 k (by rintro rfl; exact hB hk), shape_one h6 e2 hcsz e4⟩
        refine ⟨hbelow, h.base, ?_, ?_, h.dead_, h.nx_ne he _, h.full_set he _⟩
        · intro b f hbf
          obtain ⟨g1, g2, g3⟩ := h.at_ b f hbf
          rw [AW.get_set, AW.size_set]
          refine ⟨g1, by omega, ?_⟩
          by_cases hba : b = a.block
          · subst hba
            rw [he] at hbf
            obtain rfl := Option.some.inj hbf
            rw [if_pos rfl]
            have hspl : (splice cs a.off vs).length = cs.length := splice_length hble
            have key : (cur'.toList.drop e.off).take cs.length = splice rs a.off vs' := by
              rw [e3, Nat.add_zero, h8]
              exact window_splice rc.toList vs' e.off cs.length a.off (by omega) (by simp; omega)
            refine ⟨by rw [hspl]; exact h1, h2, h3, by simp, ?_, cur', t, fr, _, e2, by rw [hspl, hcsz]; exact h7, rfl, ?_, fun _ => ⟨hB, by rw [hcsz]; exact hfr⟩⟩
            · have all : ∀ v ∈ splice cs a.off vs, v.oneCell' = true := by
                intro v hvm
                unfold splice at hvm
                simp only [List.mem_append] at hvm
                rcases hvm with (hvm | hvm) | hvm
                · exact oneCells_all h5 v (List.mem_of_mem_take hvm)
                · exact oneCells_all hb.2 v hvm
                · exact oneCells_all h5 v (List.mem_of_mem_drop hvm)
              have mk : ∀ l : List Value, (∀ v ∈ l, v.oneCell' = true) → oneCells l = true := by
                intro l
                induction l with
                | nil => intro _; rfl
                | cons x l ih => intro hx; simp only [Abs.oneCells, Bool.and_eq_true]; exact ⟨hx x (by simp), ih fun v hv => hx v (by simp [hv])⟩
              exact mk _ all
            · rw [hspl, key]
              exact h9.splice hv a.off
          · rw [if_neg hba]
            cases hlb : live (A.get b) with
            | true =>
              have hne := h.sep b a.block f e hba hbf he hlb (by rw [hg]; rfl)
              exact g3.block (e4 _ hne)
            | false =>
              cases hgb : A.get b with
              | dead => trivial
              | resv => rw [hgb] at g3; exact g3.elim
              | map es c => rw [hgb] at hlb; simp [live] at hlb
              | cells cs2 ro2 opn2 esz2 =>
                rw [hgb] at hlb g3
                simp [live] at hlb
                subst hlb
                by_cases hfb : f.blk = e.blk
                · obtain ⟨k1, k2, k3, k4, k5, rc2, t2, fr2, rs2, k6, k7, k8, k9, k10⟩ := g3
                  rcases k4 rfl with hnil | hlow
                  · subst hnil
                    rw [hfb, h6] at k6
                    simp only [Option.some.injEq, Obj.cells.injEq] at k6
                    obtain ⟨rfl, rfl, rfl⟩ := k6
                    refine ⟨k1, k2, k3, fun _ => .inl rfl, rfl, cur', t, fr, [], by rw [hfb]; exact e2, by rw [hcsz]; exact k7, by simp, by simp [VRL], by simp⟩
                  · exact (hB (by rw [← hfb]; exact hlow)).elim
                · exact g3.block (e4 _ hfb)
        · intro b c f g hne hbf hcg hlb hlc
          have lv : ∀ x, live ((A.set a.block (.cells (splice cs a.off vs) false opn esz)).get x) = live (A.get x) := by
            intro x
            rw [AW.get_set]
            by_cases hx : x = a.block
            · rw [if_pos hx, hx, hg]; rfl
            · rw [if_neg hx]
          rw [lv] at hlb hlc
          exact h.sep b c f g hne hbf hcg hlb hlc
theorem Inv.move {P : Program} (h : Inv B w0 ρ A w) {a : Addr} (hs : a.spot = none) {e : Ent} (he : ρ a.block = some e) {cs : List Value} {esz : Nat}
    (hg : A.get a.block = .cells cs false true esz) (old new new' : List Value) (k : Nat) (hold : old = cs.drop a.off) (hoff : a.off ≤ cs.length)
    (hnew : VRL ρ new new') (hlen : new.length = k * esz) (hk : k ≤ e.extra) (h1 : oneCells new = true) :
    ∃ w', (storeCells ⟨e.blk, e.off + cs.length, none⟩ new').run P w = .ok () w' ∧
      Inv B w0 (place ρ A.nid ⟨e.blk, e.off + a.off, (old ++ new).length, e.extra - k, esz⟩) ((A.set a.block .dead).push (.cells (old ++ new) false true esz)) w' := by
  obtain ⟨hlt, hw, ho⟩ := h.at_ _ _ he
  rw [hg] at ho
  obtain ⟨g1, g2, g3, g4, g5, rc, t, fr, rs, g6, g7, g8, g9, g10⟩ := ho
  obtain ⟨hB, hfr⟩ := g10 rfl
  have hlen' : new'.length = new.length := hnew.length
  have hmul : k * esz ≤ e.extra * esz := Nat.mul_le_mul_right _ hk
  obtain ⟨w', cur', e1, e2, e3, e4, e5, e6, e7, e8⟩ := run_storeCells' (P := P) e.blk (e.off + cs.length) t fr new' 0 rc w g6 hfr.no (by omega) (oneCells_all (hnew.oneCells h1))
  refine ⟨w', e1, ?_⟩
  have hcsz : cur'.size = rc.size := by
    have := congrArg List.length e3
    rw [splice_length (by simp; omega)] at this
    simpa using this
  have hbelow : Kept B w0 w' := h.below.trans ⟨e6, e7, e8, by omega, fun k hk => e4 k (by rintro rfl; exact hB hk), shape_one g6 e2 hcsz e4⟩
  have hext := place_ext h.free ⟨e.blk, e.off + a.off, (old ++ new).length, e.extra - k, esz⟩
  have mk : ∀ l : List Value, (∀ v ∈ l, v.oneCell' = true) → oneCells l = true := by
    intro l
    induction l with
    | nil => intro _; rfl
    | cons x l ih => intro hx; simp only [Abs.oneCells, Bool.and_eq_true]; exact ⟨hx x (by simp), ih fun v hv => hx v (by simp [hv])⟩
  have holdlen : old.length = cs.length - a.off := by rw [hold]; simp
  have hp1 := (h.kill he).nid_lt (.cells (old ++ new) false true esz)
  have hp2 := (A.set a.block .dead).size_push_le (.cells (old ++ new) false true esz)
  rw [AW.size_set] at hp2
  rw [AW.nid_set] at hp1
  refine ⟨hbelow, h.base, ?_, ?_, ?_, (h.kill he).push_nx_, (h.kill he).full_place _ _⟩
  · intro b f hbf
    rw [AW.get_push, AW.nid_set, AW.get_set]
    by_cases hbs : b = A.nid
    · subst hbs
      rw [place_same] at hbf
      obtain rfl := Option.some.inj hbf
      refine ⟨hp1, by simp only; omega, ?_⟩
      rw [if_pos rfl]
      have hsum : (e.extra - k) * esz + k * esz = e.extra * esz := by rw [← Nat.add_mul]; congr 1; omega
      refine ⟨rfl, rfl, by simp, by simp, mk _ ?_, cur', t, fr, _, e2, ?_, rfl, ?_, fun _ => ⟨hB, by rw [hcsz]; exact hfr⟩⟩
      · intro v hv
        simp only [List.mem_append] at hv
        rcases hv with hv | hv
        · rw [hold] at hv; exact oneCells_all g5 v (List.mem_of_mem_drop hv)
        · exact oneCells_all h1 v hv
      · simp only [List.length_append]
        omega
      · have hw1 : (cur'.toList.drop (e.off + a.off)).take (old ++ new).length = rs.drop a.off ++ new' := by
          rw [e3, Nat.add_zero]
          have hrs : rs.length = cs.length := g9.length
          apply List.ext_getElem?
          intro i
          simp only [List.length_append]
          unfold splice
          by_cases hi : i < old.length + new.length
          · rw [List.getElem?_take_of_lt hi, List.getElem?_drop]
            by_cases hi2 : i < old.length
            · rw [List.append_assoc, List.getElem?_append_left (by simp; omega), List.getElem?_append_left (by simp; omega), List.getElem?_take_of_lt (by omega), List.getElem?_drop, g8,
                List.getElem?_take_of_lt (by omega), List.getElem?_drop]
              congr 1; omega
            · rw [List.getElem?_append_left (by simp; omega), List.getElem?_append_right (by simp; omega), List.getElem?_append_right (by simp; omega)]
              simp only [List.length_take, List.length_drop]
              congr 1
              simp only [Array.length_toList]
              omega
          · rw [List.getElem?_eq_none (by simp; omega), List.getElem?_eq_none (by simp; omega)]
        rw [hw1]
        refine VRL.append ?_ (VRL.ext hext _ _ hnew)
        have hd := VRL.ext hext _ _ (g9.drop a.off)
        rwa [← hold] at hd
    · rw [place_ne _ _ hbs] at hbf
      obtain ⟨f1, f2, f3⟩ := h.at_ b f hbf
      rw [if_neg hbs]
      refine ⟨by omega, by omega, ?_⟩
      by_cases hba : b = a.block
      · rw [if_pos hba]; trivial
      · rw [if_neg hba]
        cases hlb : live (A.get b) with
        | true =>
          have hne := h.sep b a.block f e hba hbf he hlb (by rw [hg]; rfl)
          exact (f3.ext hext).block (e4 _ hne)
        | false =>
          cases hgb : A.get b with
          | dead => trivial
          | resv => rw [hgb] at f3; exact f3.elim
          | map es c => rw [hgb] at hlb; simp [live] at hlb
          | cells cs2 ro2 opn2 esz2 =>
            rw [hgb] at hlb f3
            simp [live] at hlb
            subst hlb
            by_cases hfb : f.blk = e.blk
            · obtain ⟨k1, k2, k3, k4, k5, rc2, t2, fr2, rs2, k6, k7, k8, k9, k10⟩ := f3
              rcases k4 rfl with hnil | hlow
              · subst hnil
                rw [hfb, g6] at k6
                simp only [Option.some.injEq, Obj.cells.injEq] at k6
                obtain ⟨rfl, rfl, rfl⟩ := k6
                exact ⟨k1, k2, k3, fun _ => .inl rfl, rfl, cur', t, fr, [], by rw [hfb]; exact e2, by rw [hcsz]; exact k7, by simp, by simp [VRL], by simp⟩
              · exact (hB (by rw [← hfb]; exact hlow)).elim
            · exact (f3.ext hext).block (e4 _ hfb)
  · intro b c f g hne hbf hcg hlb hlc
    rw [AW.get_push, AW.nid_set, AW.get_set] at hlb hlc
    by_cases hbs : b = A.nid
    · subst hbs
      rw [place_same] at hbf
      obtain rfl := Option.some.inj hbf
      rw [if_neg (Ne.symm hne)] at hlc
      rw [place_ne _ _ (Ne.symm hne)] at hcg
      by_cases hca : c = a.block
      · rw [if_pos hca] at hlc; simp [live] at hlc
      · rw [if_neg hca] at hlc
        exact (h.sep c a.block g e hca hcg he hlc (by rw [hg]; rfl)).symm
    · rw [place_ne _ _ hbs] at hbf
      rw [if_neg hbs] at hlb
      by_cases hba : b = a.block
      · rw [if_pos hba] at hlb; simp [live] at hlb
      · rw [if_neg hba] at hlb
        by_cases hcs : c = A.nid
        · subst hcs
          rw [place_same] at hcg
          obtain rfl := Option.some.inj hcg
          exact h.sep b a.block f e hba hbf he hlb (by rw [hg]; rfl)
        · rw [place_ne _ _ hcs] at hcg
          rw [if_neg hcs] at hlc
          by_cases hca : c = a.block
          · rw [if_pos hca] at hlc; simp [live] at hlc
          · rw [if_neg hca] at hlc
            exact h.sep b c f g hne hbf hcg hlb hlc
  · intro b hb
    obtain ⟨hb1, hb2⟩ := (h.kill he).past _ hb
    rw [AW.nid_set] at hb1
    rw [place_ne _ _ hb1]
    exact h.dead_ b hb2
theorem Inv.shut (h : Inv B w0 ρ A w) {b0 : Nat} {e : Ent} (he : ρ b0 = some e) {cs : List Value} {esz : Nat} (hg : A.get b0 = .cells cs false true esz) :
    Inv B w0 (place ρ A.nid ⟨e.blk, e.off, cs.length, 0, esz⟩) ((A.set b0 .dead).push (.cells cs false false esz)) w := by
  obtain ⟨hlt, hw, ho⟩ := h.at_ _ _ he
  rw [hg] at ho
  obtain ⟨g1, g2, g3, g4, g5, rc, t, fr, rs, g6, g7, g8, g9, g10⟩ := ho
  have hext := place_ext h.free ⟨e.blk, e.off, cs.length, 0, esz⟩
  have hp1 := (h.kill he).nid_lt (.cells cs false false esz)
  have hp2 := (A.set b0 .dead).size_push_le (.cells cs false false esz)
  rw [AW.size_set] at hp2
  rw [AW.nid_set] at hp1
  refine ⟨h.below, h.base, ?_, ?_, ?_, (h.kill he).push_nx_, (h.kill he).full_place _ _⟩
  · intro b f hbf
    rw [AW.get_push, AW.nid_set, AW.get_set]
    by_cases hbs : b = A.nid
    · subst hbs
      rw [place_same] at hbf
      obtain rfl := Option.some.inj hbf
      refine ⟨hp1, hw, ?_⟩
      rw [if_pos rfl]
      refine ⟨rfl, rfl, fun _ => rfl, by simp, g5, rc, t, fr, rs, g6, ?_, g8, VRL.ext hext _ _ g9, fun _ => g10 rfl⟩
      simp only
      omega
    · rw [place_ne _ _ hbs] at hbf
      obtain ⟨f1, f2, f3⟩ := h.at_ b f hbf
      rw [if_neg hbs]
      refine ⟨by omega, f2, ?_⟩
      by_cases hba : b = b0
      · rw [if_pos hba]; trivial
      · rw [if_neg hba]; exact f3.ext hext
  · intro b c f g hne hbf hcg hlb hlc
    rw [AW.get_push, AW.nid_set, AW.get_set] at hlb hlc
    by_cases hbs : b = A.nid
    · subst hbs
      rw [place_same] at hbf
      obtain rfl := Option.some.inj hbf
      rw [if_neg (Ne.symm hne)] at hlc
      rw [place_ne _ _ (Ne.symm hne)] at hcg
      by_cases hca : c = b0
      · rw [if_pos hca] at hlc; simp [live] at hlc
      · rw [if_neg hca] at hlc
        exact (h.sep c b0 g e hca hcg he hlc (by rw [hg]; rfl)).symm
    · rw [place_ne _ _ hbs] at hbf
      rw [if_neg hbs] at hlb
      by_cases hba : b = b0
      · rw [if_pos hba] at hlb; simp [live] at hlb
      · rw [if_neg hba] at hlb
        by_cases hcs : c = A.nid
        · subst hcs
          rw [place_same] at hcg
          obtain rfl := Option.some.inj hcg
          exact h.sep b b0 f e hba hbf he hlb (by rw [hg]; rfl)
        · rw [place_ne _ _ hcs] at hcg
          rw [if_neg hcs] at hlc
          by_cases hca : c = b0
          · rw [if_pos hca] at hlc; simp [live] at hlc
          · rw [if_neg hca] at hlc
            exact h.sep b c f g hne hbf hcg hlb hlc
  · intro b hb
    obtain ⟨hb1, hb2⟩ := (h.kill he).past _ hb
    rw [AW.nid_set] at hb1
    rw [place_ne _ _ hb1]
    exact h.dead_ b hb2
end
end Go.Abs
