/- append, clear. -/
import Derived.Test.YtapmpenkceomdaaAb7
namespace Go.Ab
variable {P : Program} {F : Fm} {w0 w : World} {β : Inj} {g : AHeap} {lim : Nat}

def isInt : TypeDesc → Bool
  | .int _ => true
  | _ => false

section
variable {ats : Array TypeId} {t u e ty : TypeId} {i : TypeInfo} {du : TypeDesc} {x : Value} {n : Nat} {ys : List Value}

theorem run_append_in (h0 : ats[0]? = some t) (h1 : ats[1]? = some u) (hu : P.underlying t = some (.slice e)) (hi : P.info? e = some i) (hdu : P.underlying u = some du)
    (hni : ∀ k, du ≠ .int k) (hn : (Builtin.lenOf x).run P w = .ok n w) (hf : (Builtin.firstCells i.size n x).run P w = .ok ⟨ys⟩ w)
    {base : Option Addr} {sLen sCap : Nat} (hle : sLen + n ≤ sCap) {w1 : World}
    (hst : match base with | some a => (storeCells (a.add (sLen * i.size)) ys).run P w = .ok () w1 | none => w1 = w) :
    (Builtin.append_ ats ty #[.slice base sLen sCap, x]).run P w = .ok (.slice base (sLen + n) sCap) w1 := by
  have hm : isInt du = false := by
    cases du <;> first | rfl | exact absurd rfl (hni _)
  unfold Builtin.append_
  simp only [h0, h1, List.getElem?_toArray, List.getElem?_cons_zero, List.getElem?_cons_succ]
  rw [Sem.run_bind, run_under hu, Result.andThen_ok]
  simp only
  rw [Sem.run_bind, run_size hi, Result.andThen_ok]
  simp only [Sem.run_bind, run_under hdu, Result.andThen_ok, Sem.run_pure, Bool.false_eq_true, if_false, hn, if_pos hle, Bool.not_false, if_true, hf]
  cases base with
  | none => simp only at hst; subst hst; rfl
  | some a =>
    simp only at hst
    simp only
    rw [Sem.run_bind, hst, Result.andThen_ok, Sem.run_pure]

theorem run_append_grow (h0 : ats[0]? = some t) (h1 : ats[1]? = some u) (hu : P.underlying t = some (.slice e)) (hi : P.info? e = some i) (hdu : P.underlying u = some du)
    (hni : ∀ k, du ≠ .int k) (hn : (Builtin.lenOf x).run P w = .ok n w) (hf : ∀ w', w'.heap = w.heap → (Builtin.firstCells i.size n x).run P w' = .ok ⟨ys⟩ w')
    {z : Value} (hz : i.zero = some z) (hzs : z.cells.size = i.size)
    {base : Option Addr} {sLen sCap : Nat} (hgt : sCap < sLen + n) (hb : (sLen + n) * i.bytes ≤ 2 ^ 47) (_ : sLen + n ≤ 2 ^ 47) (hpos : 0 < i.bytes)
    {old : List Value} (ho : ∀ w', w'.heap = w.heap → (Builtin.firstCells i.size sLen (.slice base sLen sCap)).run P w' = .ok ⟨old⟩ w') :
    ∃ cap' r, sLen + n ≤ cap' ∧ r.length = (cap' - (sLen + n)) * i.size ∧
      (Builtin.append_ ats ty #[.slice base sLen sCap, x]).run P w = .ok (.slice (some ⟨w.heap.size, 0, none⟩) (sLen + n) cap') { w with drawn := w.drawn + 1, heap := w.heap.push (.cells ⟨old ++ ys ++ r⟩ e) } := by
  have hm : isInt du = false := by
    cases du <;> first | rfl | exact absurd rfl (hni _)
  have hnc : ¬ (Builtin.nextslicecap (sLen + n) sCap * i.bytes > 2 ^ 48) := by
    have h1 := nextslicecap_le hgt
    have h2 := Nat.mul_le_mul_right i.bytes h1
    rw [Nat.mul_assoc] at h2
    omega
  have hmax : ¬ (((sLen + n : Nat) : Int) > IntKind.i64.max ∧ (false = true ∨ i.bytes = 0)) := by
    intro h; rcases h.2 with h | h
    · cases h
    · omega
  generalize hcap : Question.cut (.appendCap (sLen + n) sCap e) (w.tape w.drawn (.appendCap (sLen + n) sCap e)) = cap'
  have hle : sLen + n ≤ cap' := by rw [← hcap]; simp only [Question.cut]; omega
  have hfo : (Question.appendCap (sLen + n) sCap e).forced = false := rfl
  refine ⟨cap', (Builtin.zeroCells z.cells (cap' - (sLen + n))).toList, hle, by simp [Builtin.zeroCells, hzs], ?_⟩
  unfold Builtin.append_
  simp only [h0, h1, List.getElem?_toArray, List.getElem?_cons_zero, List.getElem?_cons_succ]
  rw [Sem.run_bind, run_under hu, Result.andThen_ok]
  simp only
  rw [Sem.run_bind, run_size hi, Result.andThen_ok]
  have hn' : ¬ (sLen + n ≤ sCap) := by omega
  simp only [Sem.run_bind, run_under hdu, Result.andThen_ok, Sem.run_pure, Bool.false_eq_true, if_false, hn, if_neg hn', Bool.not_false, if_true, run_info hi]
  simp only [Bool.false_eq_true] at hmax
  rw [if_neg hmax]
  simp only [Sem.run_bind, run_info hi, Result.andThen_ok]
  rw [if_neg hnc]
  simp only [Sem.run_bind, run_choose, hfo, Bool.false_eq_true, if_false, Result.andThen_ok, hcap, run_info hi, run_askRoom]
  rw [ho { w with drawn := w.drawn + 1 } rfl]
  simp only [Result.andThen_ok]
  rw [hf { w with drawn := w.drawn + 1 } rfl]
  simp only [Result.andThen_ok, Sem.run_bind, run_zero hi hz, newRow, run_newObj, Sem.run_pure]
  congr 4
  apply Array.ext'
  simp
end

theorem kill_get (g : AHeap) (p : Option Nat) (m : Nat) : ((g.kill p).get m = g.get m ∧ p ≠ some m) ∨ ((g.kill p).get m).st = 2 := by
  cases p with
  | none => exact .inl ⟨rfl, by simp⟩
  | some q =>
    simp only [AHeap.kill, AHeap.get_upd]
    by_cases e : m = q
    · subst e
      by_cases l : m < g.next
      · right; rw [if_pos ⟨rfl, l⟩]
      · right; rw [if_neg (fun x => l x.2)]; simp [AHeap.get, l, deadBlk]
    · left
      rw [if_neg (fun x => e x.1)]
      exact ⟨rfl, by simpa using Ne.symm e⟩
theorem kill_next (g : AHeap) (p : Option Nat) : (g.kill p).next = g.next := by cases p <;> rfl
theorem get_lt {g : AHeap} {n : Nat} (h : (g.get n).st < 2) : n < g.next := by
  by_cases e : n < g.next
  · exact e
  · simp [AHeap.get, e, deadBlk] at h

theorem run_firstCells_zero {size sLen sCap : Nat} (hz : sLen * size = 0) (b : Option Addr) (w : World) : (Builtin.firstCells size sLen (.slice b sLen sCap)).run P w = .ok ⟨[]⟩ w := by
  cases b with
  | none => rfl
  | some a => simp [Builtin.firstCells, hz, loadCells, loadCellsFrom]

/-- the world but for what it has drawn -/
theorem HR.congr {w' : World} (H : HR F w0 w g.get β) (h : w'.heap = w.heap) (he : w'.os = w.os ∧ w'.output = w.output) : HR F w0 w' g.get β := by
  refine ⟨fun n hn => ?_, H.sep, H.shr, H.frF, H.frC, fun k hk => by rw [h]; exact H.keep k hk, fun k hk => by rw [h]; exact H.old k hk, by rw [he.1, he.2]; exact H.env⟩
  obtain ⟨bi, arr, ty, fz, hb, B⟩ := H.blk n hn
  exact ⟨bi, arr, ty, fz, hb, by rw [h]; exact B.here, B.size, B.esz, B.room, B.fits, B.cell, B.free⟩

theorem simAppend (H : HR F w0 w g.get β) (hfr : Fr lim g β) {ats : Array TypeId} {t u e ty : TypeId} {i : TypeInfo} {du : TypeDesc} {s s' x x' v : Value} {n : Nat} {vs : List Value} {g1 : AHeap}
    (h0 : ats[0]? = some t) (h1 : ats[1]? = some u) (hu : P.underlying t = some (.slice e)) (hi : P.info? e = some i) (hdu : P.underlying u = some du) (hni : ∀ k, du ≠ .int k)
    {z : Value} (hz : i.zero = some z) (hzs : z.cells.size = i.size)
    (hs : VR β s s') (hx : VR β x x') (hsrc : aSource i.size x g = some (n, vs)) (h : aAppend i.size i.bytes s n vs g = some (v, g1)) (hlim : g1.next ≤ lim) :
    ∃ v' w1 β1, (Builtin.append_ ats ty #[s', x']).run P w = .ok v' w1 ∧ β.le β1 ∧ HR F w0 w1 g1.get β1 ∧ VR β1 v v' ∧ Gr g.next g1.next β β1 ∧ g.next ≤ g1.next := by
  obtain ⟨hn, hvl, ys, hf', hys⟩ := simSource (w := w) (P := P) H hx hsrc
  have hf := hf' w rfl
  unfold aAppend at h
  split at h
  · rename_i base len cap
    split at h
    · rename_i hle
      split at h
      · cases h
        obtain ⟨rfl, rfl, rfl⟩ := hs.snil_inv
        refine ⟨_, w, β, run_append_in h0 h1 hu hi hdu hni hn hf (by omega) rfl, β.le_refl, H, ?_, .refl _ _, Nat.le_refl _⟩
        have : n = 0 := by omega
        subst this
        exact .closed _ rfl
      · rename_i b off
        split at h
        · rename_i hn0
          subst hn0
          cases h
          have : ys = [] := by
            have := hys.1; simp at hvl; subst hvl; exact hys.of_nil
          subst this
          obtain ⟨_, ⟨rfl, rfl, a', rfl⟩ | ⟨bi, cap', hb, hc, hr, he, rfl⟩⟩ := hs.sl_inv
          · exact ⟨_, w, β, run_append_in h0 h1 hu hi hdu hni hn hf (by omega) rfl, β.le_refl, H, .slz _ _ _, .refl _ _, Nat.le_refl _⟩
          · exact ⟨_, w, β, run_append_in h0 h1 hu hi hdu hni hn hf (by omega) rfl, β.le_refl, H, .sl b off bi _ cap cap' hb hc hr he, .refl _ _, Nat.le_refl _⟩
        · split at h
          · rename_i hn0 hes
            simp only [Option.map_eq_some_iff] at h
            obtain ⟨g2, hst, e2⟩ := h
            cases e2
            obtain ⟨_, ⟨rfl, rfl, a', rfl⟩ | ⟨bi, cap', hb, hc, hr, he, rfl⟩⟩ := hs.sl_inv
            · omega
            · obtain ⟨w1, r, H1, hnx⟩ := simStoreN (P := P) H hb hys hst
              refine ⟨_, w1, β, run_append_in h0 h1 hu hi hdu hni hn hf (by omega) ?_, β.le_refl, H1, .sl b off bi _ cap cap' hb hc hr he, ?_, by rw [hnx]; exact Nat.le_refl _⟩
              · simp only [addr_add]
                rw [Nat.add_assoc]; exact r
              · rw [hnx]; exact .refl _ _
          · cases h
      · cases h
    · rename_i hgt
      split at h
      · rename_i hcond
        obtain ⟨c1, c2, rfl, c4, c5, c6⟩ := hcond
        split at h
        · -- nil
          cases h
          obtain ⟨rfl, _, rfl⟩ := hs.snil_inv
          obtain ⟨cap', r, k1, k2, k3⟩ := run_append_grow (ty := ty) (base := none) (sLen := 0) (sCap := 0) h0 h1 hu hi hdu hni hn hf' hz hzs (by omega) c1 c2 c5 (old := []) (fun w' _ => rfl)
          have hl' : g.next < lim := hlim
          obtain ⟨β1, q1, q2, q3, q4⟩ := H.new (hfr g.next (Nat.le_refl _) hl') (b := ⟨vs, i.size, 0, none⟩) rfl (w1 := { w with drawn := w.drawn + 1, heap := w.heap.push (.cells ⟨[] ++ ys ++ r⟩ e) }) (arr := ⟨[] ++ ys ++ r⟩) (ty := e) (fz := (0, 0))
            (by simp) (by intro k hk; simp [Array.getElem?_push, Nat.ne_of_lt hk]) (by simp) ⟨rfl, rfl⟩ hys ⟨r, by simp⟩ (by intro k _; simp)
          refine ⟨_, _, β1, k3, q1, q3 _ (by rw [AHeap.get_alloc, if_pos rfl]) (fun m hm => by rw [AHeap.get_alloc, if_neg hm]), ?_, q4, Nat.le_succ _⟩
          simp only [Nat.zero_add] at k1 k2 ⊢
          refine .sl g.next 0 _ n n cap' q2 k1 ?_ (.inr ?_)
          · simp only [List.nil_append, List.size_toArray, List.length_append, Nat.zero_add]
            rw [← hys.1, hvl, k2, ← Nat.add_mul]
            have : n + (cap' - n) = cap' := by omega
            rw [this]; exact Nat.le_refl _
          · simp only [Nat.zero_add]; exact hvl.symm
        · rename_i b off
          split at h
          · cases h
          · rename_i old hold
            dsimp only at h
            split at h
            · cases h
            · rename_i hes
              simp only [Decidable.not_not] at hes
              unfold AHeap.loadN at hold
              simp only at hold
              split at hold
              · rename_i hlc
                obtain ⟨hst, hlen⟩ := hlc
                have hold := Option.some.inj hold
                have hlt := get_lt hst
                obtain ⟨bi, hb⟩ : ∃ bi, β b = some bi := by obtain ⟨bi, _, _, _, hb, _⟩ := H.blk b hst; exact ⟨bi, hb⟩
                obtain ⟨bi', arr, ty', fz, hb', B⟩ := H.blk b hst
                rw [hb] at hb'; cases hb'
                have hol : old.length = len * i.size := by rw [← hold]; simp; omega
                -- a new block in memory
                have fresh : ∀ (s'' : Value) (cap'' : Nat) (base' : Option Addr) (os : List Value), s' = .slice base' len cap'' → cap'' < len + n → LR β old os →
                    (∀ w', w'.heap = w.heap → (Builtin.firstCells i.size len (.slice base' len cap'')).run P w' = .ok ⟨os⟩ w') →
                    ∀ (g2 : AHeap) (pr : Option Nat), HR F w0 w g2.get β → Fr lim g2 β → g2.next = g.next → g1 = g2.alloc ⟨old ++ vs, i.size, 0, pr⟩ → v = .slice (some ⟨g.next, 0, none⟩) (len + n) (len + n) →
                    ∃ v' w1 β1, (Builtin.append_ ats ty #[s', x']).run P w = .ok v' w1 ∧ β.le β1 ∧ HR F w0 w1 g1.get β1 ∧ VR β1 v v' ∧ Gr g.next g1.next β β1 ∧ g.next ≤ g1.next := by
                  intro _ cap'' base' os es hcl hos hrd g2 pr H2 hfr2 hnx eg ev
                  subst es eg ev
                  obtain ⟨cap', r, k1, k2, k3⟩ := run_append_grow (ty := ty) h0 h1 hu hi hdu hni hn hf' hz hzs hcl c1 c2 c5 hrd
                  have hl' : g2.next < lim := hlim
                  have hoy := hos.append hys
                  obtain ⟨β1, q1, q2, q3, q4⟩ := H2.new (hfr2 g2.next (Nat.le_refl _) hl') (b := ⟨old ++ vs, i.size, 0, pr⟩) rfl (w1 := { w with drawn := w.drawn + 1, heap := w.heap.push (.cells ⟨os ++ ys ++ r⟩ e) }) (arr := ⟨os ++ ys ++ r⟩) (ty := e) (fz := (0, 0))
                    (by simp) (by intro k hk; simp [Array.getElem?_push, Nat.ne_of_lt hk]) (by simp) ⟨rfl, rfl⟩ hoy ⟨r, by simp⟩ (by intro k _; simp)
                  refine ⟨_, _, β1, k3, q1, q3 _ (by rw [AHeap.get_alloc, if_pos rfl]) (fun m hm => by rw [AHeap.get_alloc, if_neg hm]), ?_, by rw [← hnx]; exact q4, by rw [← hnx]; exact Nat.le_succ _⟩
                  rw [← hnx]
                  have hlen2 : (old ++ vs).length = (len + n) * i.size := by rw [List.length_append, hol, hvl, Nat.add_mul]
                  refine .sl g2.next 0 _ (len + n) (len + n) cap' q2 k1 ?_ (.inr ?_)
                  · simp only [List.size_toArray, List.length_append, Nat.zero_add]
                    have := hoy.1
                    rw [List.length_append] at this
                    rw [← List.length_append, hlen2] at this
                    rw [List.length_append] at this
                    rw [← this, k2, ← Nat.add_mul]
                    have : len + n + (cap' - (len + n)) = cap' := by omega
                    rw [this]; exact Nat.le_refl _
                  · simp only [Nat.zero_add]; exact hlen2.symm
                have readold : ∀ cap'', ∃ os : List Value, LR β old os ∧ ∀ w', w'.heap = w.heap → (Builtin.firstCells i.size len (.slice (some ⟨bi.cb, bi.co + off, none⟩) len cap'')).run P w' = .ok ⟨os⟩ w' := by
                  intro cap''
                  obtain ⟨os, y1, y2, y3⟩ := H.range hb hst hlen
                  rw [hold] at y1
                  refine ⟨os, y1, fun w' hw' => ?_⟩
                  have hrun := run_loadCells_list (P := P) w' ⟨bi.cb, bi.co + off, none⟩ os (fun j v hj => by
                    rw [addr_add]
                    have := y3 j v hj
                    rw [← this]; simp [World.cell?, hw'])
                  rw [y2] at hrun
                  exact hrun
                split at h
                · rename_i hopen
                  split at h
                  · rename_i hal
                    cases h
                    have hmark : HR F w0 w (((g.kill (g.get b).prev).upd b ⟨(g.get b).cells, (g.get b).esz, 1, none⟩).get) β := by
                      refine H.mark (n := b) hal ?_ (fun m hm => ?_)
                      · rw [AHeap.get_upd, if_pos ⟨rfl, by rw [kill_next]; exact hlt⟩]
                      · rw [AHeap.get_upd, if_neg (fun x => hm x.1)]
                        exact kill_get g _ m
                    have hnx : ((g.kill (g.get b).prev).upd b ⟨(g.get b).cells, (g.get b).esz, 1, none⟩).next = g.next := by
                      show (g.kill _).next = g.next; exact kill_next _ _
                    have hfr2 : Fr lim ((g.kill (g.get b).prev).upd b ⟨(g.get b).cells, (g.get b).esz, 1, none⟩) β := fun k hk hk' => hfr k (by rw [← hnx]; exact hk) hk'
                    obtain ⟨_, ⟨rfl, _, a', rfl⟩ | ⟨bi', cap', hb', hc, hr, he, rfl⟩⟩ := hs.sl_inv
                    · have hold0 : old = [] := List.eq_nil_of_length_eq_zero (by rw [hol]; simp)
                      exact fresh (.slice none 0 0) 0 _ [] rfl (by omega) (by rw [hold0]; exact .nil β) (fun w' _ => run_firstCells_zero (by simp) _ _) _ _ hmark hfr2 hnx rfl rfl
                    · rw [hb] at hb'; cases hb'
                      by_cases hin : len + n ≤ cap'
                      · -- it grows where it is
                        have hne : len ≠ cap' := by omega
                        have hcl : (g.get b).cells.length = off + len * i.size := hopen.symm
                        have hesz : bi.esz = i.size := by rw [B.esz, hes]
                        have hsz := B.size
                        rw [hesz] at hr
                        have hroom : bi.co + (g.get b).cells.length + vs.length ≤ bi.room := by
                          rw [hcl, hvl]
                          have := Nat.mul_le_mul_right i.size hin
                          rw [Nat.add_mul] at this
                          simp only at hr
                          omega
                        have hβ1 : β g.next = none := hfr g.next (Nat.le_refl _) (by have : _ + 1 ≤ lim := hlim; rw [hnx] at this; omega)
                        have hneb : b ≠ g.next := Nat.ne_of_lt hlt
                        obtain ⟨β1, q1, q2, q3, q4⟩ := H.grow (n := b) (n1 := g.next) (off := off) hb hal hβ1 hys (by omega) hroom
                          (g1 := (((g.kill (g.get b).prev).upd b ⟨(g.get b).cells, (g.get b).esz, 1, none⟩).alloc ⟨old ++ vs, i.size, 0, some b⟩).get)
                          (by rw [AHeap.get_alloc, if_neg (by rw [hnx]; exact hneb), AHeap.get_upd, if_pos ⟨rfl, by rw [kill_next]; exact hlt⟩])
                          (by
                            rw [AHeap.get_alloc, if_pos hnx.symm, hes]
                            congr 2
                            rw [← hold, List.take_of_length_le]
                            simp; omega)
                          (fun m hm hm1 => by
                            rw [AHeap.get_alloc, if_neg (by rw [hnx]; exact hm1), AHeap.get_upd, if_neg (fun x => hm x.1)]
                            exact kill_get g _ m)
                        have hstc : (storeCells (Addr.add ⟨bi.cb, bi.co + off, none⟩ (len * i.size)) ys).run P w = .ok () (w.setCells bi.cb (bi.co + (g.get b).cells.length) ys) := by
                          rw [addr_add, show bi.co + off + len * i.size = bi.co + (g.get b).cells.length by omega]
                          have hrm := B.room
                          have hyl := hys.1
                          refine run_storeCells_cells (P := P) bi.cb (bi.co + (g.get b).cells.length) ys 0 w (fun j hj => by
                            rw [cell?_mk B.here]; simp; omega) (fun j hj => by
                            rw [frozen?_mk B.here]
                            have := B.free hal (bi.co + (g.get b).cells.length + 0 + j) (by omega)
                            simp; omega) ?_
                          intro y hy
                          obtain ⟨k, hk, rfl⟩ := List.mem_iff_getElem.1 hy
                          rw [← (hys.2 k (by omega) hk).isCell]
                          exact List.all_eq_true.1 c6 _ (List.getElem_mem _)
                        refine ⟨_, _, β1, run_append_in h0 h1 hu hi hdu hni hn hf hin hstc, q1, q4, ?_, ?_, by show _ ≤ _ + 1; rw [hnx]; omega⟩
                        · refine .sl g.next 0 _ (len + n) (len + n) cap' q2 hin ?_ (.inr ?_)
                          · simp only [hes]; omega
                          · simp only [hes, Nat.zero_add, hvl, Nat.add_mul]; omega
                        · intro k hk
                          have e1 : (((g.kill (g.get b).prev).upd b ⟨(g.get b).cells, (g.get b).esz, 1, none⟩).alloc ⟨old ++ vs, i.size, 0, some b⟩).next = g.next + 1 := by
                            show _ + 1 = _; rw [hnx]
                          rw [e1] at hk
                          exact q3 k (by omega)
                      · obtain ⟨os, y1, y2⟩ := readold cap'
                        exact fresh (.slice none 0 0) cap' _ os rfl (by omega) y1 y2 _ _ hmark hfr2 hnx rfl rfl
                  · cases h
                · rename_i hclosed
                  cases h
                  obtain ⟨_, ⟨rfl, _, a', rfl⟩ | ⟨bi', cap', hb', hc, hr, he, rfl⟩⟩ := hs.sl_inv
                  · have hold0 : old = [] := List.eq_nil_of_length_eq_zero (by rw [hol]; simp)
                    exact fresh (.slice none 0 0) 0 _ [] rfl (by omega) (by rw [hold0]; exact .nil β) (fun w' _ => run_firstCells_zero (by simp) _ _) _ _ H hfr rfl rfl rfl
                  · rw [hb] at hb'; cases hb'
                    have hcc : cap' = len := by
                      rcases he with he | he
                      · exact he
                      · have hesz : bi.esz = i.size := by rw [B.esz, hes]
                        rw [hesz, B.size] at he
                        exact absurd he hclosed
                    obtain ⟨os, y1, y2⟩ := readold cap'
                    exact fresh (.slice none 0 0) cap' _ os rfl (by omega) y1 y2 _ _ H hfr rfl rfl rfl
              · cases hold
        · cases h
      · cases h
  · cases h

end Go.Ab
