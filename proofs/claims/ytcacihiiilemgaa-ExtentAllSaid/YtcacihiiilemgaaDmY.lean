/- The D-machine, part Y: append where arrays are boxes: it holds. -/
import Derived.Test.YtcacihiiilemgaaDmX
set_option linter.unusedVariables false
set_option linter.unusedSimpArgs false
namespace Go.Proofs.Dm
open Go Go.RowKit

theorem Rel.weak {C w0 h0 ow0 r0 n s a w h ow ρ} (r : Rel C w0 h0 ow0 r0 n s a w h ow ρ) (s' : St) (hhp : s'.hp = s.hp) (hw : ∀ i, Wk (s.tm i) (s'.tm i)) (hdom : ∀ i, n ≤ i → s'.tm i = .un) :
    Rel C w0 h0 ow0 r0 n s' a w h ow ρ :=
  ⟨r.glob, r.fr, by rw [hhp]; exact r.hr, r.defers, r.size, fun i => RepD.wk (hw i) (r.tm i), hdom, r.pre⟩

theorem own_vals {w h O e z v} (r : OwnRep w h O e z [] v) : w.ownsRow 0 e z v 0 [] ∧ ∀ g, v.ownBlock = some g → h g = 0 ∧ O g [] := by
  obtain ⟨vals, h0, ho, hx, hr, h1, hg⟩ := r
  have : vals = [] := List.eq_nil_of_length_eq_zero (by simpa using ho.1)
  subst this
  exact ⟨ho, fun g hgg => by have := hg g hgg; simpa using this⟩

theorem append_any {P : Program} {t e : TypeId} {z by_ : Nat} {zv : Value} {i : TypeInfo} (hu : P.underlying t = some (.slice e)) (hi : P.info? e = some i) (hi2 : i.size = z) (hi3 : i.bytes = by_) (hi4 : i.zero = some zv) (hzz : zv.cells.size = z)
    {w : World} (ty : TypeId) (b n c : Nat) (T : TypeId) (cs : Array Value) (hh : w.heap[b]? = some (.cells cs T (0, 0))) (hnc : n ≤ c) (hcs : c * z ≤ cs.size)
    (ad : Addr) (m c' : Nat) (news : List Value) (hl : news.length = m * z) (hnews : ∀ j u, news[j]? = some u → w.cell? (ad.add j) = some u) (h1 : ∀ u ∈ news, u.oneCell' = true)
    (hm : 0 < m) (hb : (n + m) * by_ ≤ 140737488355328) (hmx : n + m ≤ maxLen) :
    ∃ cap w' g cur T', (Builtin.append_ #[t, t] ty #[.slice (some ⟨b, 0, none⟩) n c, .slice (some ad) m c']).run P w = .ok (.slice (some ⟨g, 0, none⟩) (n + m) cap) w' ∧ n + m ≤ cap ∧
      w'.heap[g]? = some (.cells cur T' (0, 0)) ∧ cap * z ≤ cur.size ∧ cur.toList.take ((n + m) * z) = cs.toList.take (n * z) ++ news ∧ (g = w.heap.size ∨ g = b ∧ cur.size = cs.size) ∧
      (∀ k, k < w.heap.size → k ≠ g → w'.heap[k]? = w.heap[k]?) ∧ w.heap.size ≤ w'.heap.size ∧ w'.os = w.os ∧ w'.tape = w.tape ∧ w'.output = w.output := by
  have hz : tsz P e = some z := by simp [tsz, hi, hi2]
  have hnz : n * z ≤ cs.size := Nat.le_trans (Nat.mul_le_mul_right _ hnc) hcs
  by_cases hroom : n + m ≤ c
  · have hr := append_fit (P := P) hu hz ty w b n c T cs hh ad m c' news hl hnews h1 hroom hcs
    have hle : (n + m) * z ≤ c * z := Nat.mul_le_mul_right _ hroom
    rw [Nat.add_mul] at hle
    have hsz : (cs.toList.take (n * z) ++ news ++ cs.toList.drop (n * z + m * z)).toArray.size = cs.size := by simp; omega
    refine ⟨c, _, b, _, T, hr, hroom, setRow_heap w b cs _ T _ hh, by rw [hsz]; exact hcs, ?_, .inr ⟨rfl, hsz⟩, fun k _ hk => setRow_other w b k _ hk, by simp [World.setRow], rfl, rfl, rfl⟩
    rw [Nat.add_mul]
    show (cs.toList.take (n * z) ++ news ++ cs.toList.drop (n * z + m * z)).take (n * z + m * z) = _
    have : (cs.toList.take (n * z) ++ news).length = n * z + m * z := by simp; omega
    rw [← this]; exact List.take_left
  · obtain ⟨cap, w', cur, q1, q2, q3, q4, q5, q6, q7⟩ := append_new (P := P) hu hi hi2 hi3 hi4 hzz (w := w) ty (some ⟨b, 0, none⟩) n c (cs.toList.take (n * z)) (by simp; omega) (fun q => by cases q)
      (fun ad0 had j u hj => by
        injection had with had; subst had
        rw [addr_add]
        rw [List.getElem?_take] at hj
        split at hj
        · rw [Array.getElem?_toList] at hj
          simp [World.cell?, hh, hj]
        · cases hj) ad m c' news hl hnews (by omega) hm hb hmx
    exact ⟨cap, w', _, cur, e, q1, q2, q3, by rw [q4]; exact Nat.le_refl _, q5, .inl rfl, fun k hk _ => q6.block k hk (by simp), q6.size, q6.os, q6.tape, q6.output⟩

theorem appendA_ok {C w0 h0 ow0 r0 n o c s s'} (hop : o.op = .call c) (hcal : c.callee = .builtin .append) (hd : dstOk n o.dst = true) (e : appendA C.P o c s = some s') : StepOK C w0 h0 ow0 r0 n o s s' := by
  intro a w h ow ρ r K Q hK
  obtain ⟨callee, args, types⟩ := c
  dsimp only at hcal; subst hcal
  unfold appendA at e
  split at e
  · rename_i x y t t' d ha ht' hdst
    dsimp only at ha ht'
    obtain rfl : args = #[x, y] := by rw [← Array.toArray_toList (xs := args), ha]
    obtain rfl : types = #[t, t'] := by rw [← Array.toArray_toList (xs := types), ht']
    split at e
    · rename_i el hts
      split at e
      · rename_i z by_ zv hz hby hzv
        split at e
        · rename_i hc0
          obtain ⟨rfl, h0z, hzz⟩ := hc0
          have hu := tslice_spec hts
          obtain ⟨i, hi1, hi2⟩ := Option.map_eq_some_iff.1 hz
          obtain ⟨i', hi1', hi3⟩ := Option.map_eq_some_iff.1 hby
          obtain ⟨i'', hi1'', hi4⟩ := Option.bind_eq_some_iff.1 hzv
          rw [hi1] at hi1' hi1''
          injection hi1' with q; subst q
          injection hi1'' with q; subst q
          have go : ∀ v w', (Builtin.append_ #[t, t] o.type #[a.eval x, a.eval y]).run C.P w = .ok v w' → K (a.put (some d) v) w' → o.wp C.P a w K Q := by
            intro v w' q1 q2
            unfold Oper.wp
            have hrun : (execOp a.eval o).run C.P w = .ok (.value v) w' := by simp [execOp, hop, resolve, invoke, builtin, q1]
            rw [hrun]
            show K (a.put o.dst v) w'
            rw [hdst]; exact q2
          have hdd : d < n := by rw [hdst] at hd; simpa [dstOk] using hd
          -- a new block, of what is appended alone
          have fresh : ∀ (own? : Option Tmp) (ab : Option Addr) (c0 : Nat) (src : List DV) (m : Nat), a.eval x = .slice ab 0 c0 → (ab = none → c0 = 0) → c0 < m → srcC z s y = some (src, m) → 0 < m → m * by_ ≤ 140737488355328 → m ≤ maxLen →
              Good C w0 h0 ow0 r0 n ({ ((s.put own? .un).put (some d) (.arr s.hp.length 0 z m)) with hp := s.hp ++ [src] }) K → o.wp C.P a w K Q := by
            intro own? ab c0 src m hvx hab hcm hsrc h0m hb hmx hK
            obtain ⟨b2, c2, vs, hvy, hvl, hbn, hcell, hrep, hone⟩ := srcC_ok r hsrc
            obtain ⟨ad, rfl⟩ : ∃ ad, b2 = some ad := by
              cases b2 with
              | none => have := hbn rfl; omega
              | some ad => exact ⟨ad, rfl⟩
            obtain ⟨cap, w', cur, q1, q2, q3, q4, q5, q6, q7⟩ := append_new (P := C.P) hu hi1 hi2 hi3 hi4 hzz (w := w) o.type ab 0 c0 [] (by simp) (fun q => ⟨rfl, hab q⟩) (fun _ _ j u hj => by simp at hj) ad m c2 vs hvl (hcell ad rfl h0m) (by omega) h0m (by simpa using hb) (by omega)
            have hsl : src.length = vs.length := (hrep (fun _ _ => False) 0).length.symm
            refine go _ _ (by rw [hvx, hvy]; exact q1) (hK _ _ _ _ _ (r.arrived own? none d hdd w.heap.size (cs := cur) (T := el) (.inl (Nat.le_refl _)) (fun b hb _ => q6.block b hb (by simp)) q6.size (Array.getElem?_eq_some_iff.1 q3).1 q6.os q6.tape q6.output (fun id q => by cases q)
              (fun cs0 T0 f0 q => by have := (Array.getElem?_eq_some_iff.1 q).1; omega) q3 (by rw [q4, hsl, hvl]; exact Nat.mul_le_mul_right _ (by omega)) (fun O k => ?_) (r.hr.hz _ (Nat.le_refl _)) (.inr ⟨cap, by omega, by simp, by omega⟩)))
            have : src.length = (0 + m) * z := by rw [hsl, hvl]; simp
            rw [this, q5, List.nil_append]; exact hrep O k
          -- behind what a block holds
          have behind : ∀ (own? : Option Tmp) (old? : Option Nat) (b k c0 : Nat) (T : TypeId) (cs : Array Value) (box src : List DV) (m : Nat), a.eval x = .slice (some ⟨b, 0, none⟩) k c0 → w.heap[b]? = some (.cells cs T (0, 0)) → k ≤ c0 → c0 * z ≤ cs.size → srcC z s y = some (src, m) → 0 < m →
              (k + m) * by_ ≤ 140737488355328 → k + m ≤ maxLen → h b = 0 → ((∃ ts, own? = some ts ∧ ow b = some (.tmp [ts])) ∨ ∃ id, old? = some id ∧ ow b = some (.box id)) → (∀ id, old? = some id → id < s.hp.length) → box.length = k * z → (∀ O q, RepDs w h ρ box O q (cs.toList.take (k * z))) →
              Good C w0 h0 ow0 r0 n ({ ((s.put own? .un).put (some d) (.arr s.hp.length 0 z (k + m))) with hp := killB s.hp old? ++ [box ++ src] }) K → o.wp C.P a w K Q := by
            intro own? old? b k c0 T cs box src m hvx hh hkc hcs hsrc h0m hb hmx hmark hwho hold hbox hbrep hK
            obtain ⟨b2, c2, vs, hvy, hvl, hbn, hcell, hrep, hone⟩ := srcC_ok r hsrc
            obtain ⟨ad, rfl⟩ : ∃ ad, b2 = some ad := by
              cases b2 with
              | none => have := hbn rfl; omega
              | some ad => exact ⟨ad, rfl⟩
            obtain ⟨cap, w', g, cur, T', q1, q2, q3, q4, q5, q6, q7, q8, q9, q10, q11⟩ := append_any (P := C.P) hu hi1 hi2 hi3 hi4 hzz (w := w) o.type b k c0 T cs hh hkc hcs ad m c2 vs hvl (hcell ad rfl h0m) hone h0m hb hmx
            have hsl : src.length = vs.length := (hrep (fun _ _ => False) 0).length.symm
            have hle : (k + m) * z ≤ cap * z := Nat.mul_le_mul_right _ q2
            have hbl : (box ++ src).length = (k + m) * z := by rw [List.length_append, hbox, hsl, hvl, Nat.add_mul]
            have hmg : h g = 0 := by
              rcases q6 with e | ⟨e, _⟩
              · rw [e]; exact r.hr.hz _ (Nat.le_refl _)
              · rw [e]; exact hmark
            refine go _ _ (by rw [hvx, hvy]; exact q1) (hK _ _ _ _ _ (r.arrived own? old? d hdd g (cs := cur) (T := T') ?_ q7 q8 (Array.getElem?_eq_some_iff.1 q3).1 q9 q10 q11 hold
              (fun cs0 T0 f0 q => ?_) q3 (by rw [hbl]; omega) (fun O q => ?_) hmg (.inr ⟨cap, q2, rfl, q4⟩)))
            · rcases q6 with e | ⟨e, _⟩
              · exact .inl (by omega)
              · rw [e]; exact .inr hwho
            · rcases q6 with e | ⟨e, e2⟩
              · have := (Array.getElem?_eq_some_iff.1 q).1; omega
              · rw [e, hh] at q; injection q with q; injection q with q _ _; rw [← q]; exact e2.symm
            · rw [hbl, q5]
              exact RepDs.append (hbrep O q) (hrep O _)
          unfold appendB at e
          split at e
          · -- an empty one of the call's own
            rename_i e' z' src m hx hsrc
            split at e
            · rename_i ts
              split at e
              · rename_i hc
                obtain ⟨rfl, rfl, h0m, hb, hmx⟩ := hc
                injection e with e; subst e
                have hx' := evalD_rep r hx
                simp only [RepD] at hx'
                obtain ⟨ho, hg⟩ := own_vals hx'
                rcases ho.2 with ⟨hv, _⟩ | ⟨g, cap, cur, hv, _, hh, hnc, hcm, hcs, htake⟩
                · exact fresh (some ts) none 0 src m hv (fun _ => rfl) h0m hsrc h0m hb hmx hK
                · have hgb := hg g (by rw [hv]; rfl)
                  have := behind (some ts) none g 0 cap e' cur [] src m hv hh hnc (by omega) hsrc h0m (by simpa using hb) (by omega) hgb.1 (.inl ⟨ts, rfl, hgb.2⟩) (fun id q => by cases q) (by simp) (fun O q => by simp [RepDs])
                  simp only [Nat.zero_add, killB, List.nil_append] at this
                  exact this hK
              · cases e
            · cases e
          · -- the same
            rename_i e' z' src m hx hsrc
            split at e
            · rename_i ts
              split at e
              · rename_i hc
                obtain ⟨rfl, rfl, h0m, hb, hmx⟩ := hc
                injection e with e; subst e
                have hx' := evalD_rep r hx
                simp only [RepD] at hx'
                obtain ⟨ho, hg⟩ := own_vals hx'
                rcases ho.2 with ⟨hv, _⟩ | ⟨g, cap, cur, hv, _, hh, hnc, hcm, hcs, htake⟩
                · exact fresh (some ts) none 0 src m hv (fun _ => rfl) h0m hsrc h0m hb hmx hK
                · have hgb := hg g (by rw [hv]; rfl)
                  have := behind (some ts) none g 0 cap e' cur [] src m hv hh hnc (by omega) hsrc h0m (by simpa using hb) (by omega) hgb.1 (.inl ⟨ts, rfl, hgb.2⟩) (fun id q => by cases q) (by simp) (fun O q => by simp [RepDs])
                  simp only [Nat.zero_add, killB, List.nil_append] at this
                  exact this hK
              · cases e
            · cases e
          · -- a box's row
            rename_i id off z' k src m hx hsrc
            split at e
            · rename_i box hb
              split at e
              · rename_i hc
                obtain ⟨rfl, rfl, h0k, h0m, hbl, hne, hown, hown2, hbd, hmx⟩ := hc
                injection e with e; subst e
                have hx' := evalD_rep r hx
                simp only [RepD] at hx'
                obtain ⟨b, hρ, ⟨q, _⟩ | ⟨cap, cs0, T0, f0, q1, q2, q3, q4⟩⟩ := hx'
                · omega
                obtain ⟨p1, p2, cs, T, hh, hl0, hrr⟩ := r.hr.box id box b hb hρ hne
                rw [hh] at q3; injection q3 with q3; injection q3 with q3 _ _; subst q3
                refine behind none (some id) b k cap T cs box src m q2 hh q1 (by omega) hsrc h0m hbd hmx p2 (.inr ⟨id, rfl, p1⟩) (fun id' q => by injection q with q; subst q; exact (List.getElem?_eq_some_iff.1 hb).1) hbl (fun O q => ?_) hK
                rw [← hbl]; exact hrr.free_any hown O q
              · cases e
            · cases e
          · -- what has no room
            rename_i z' xs src m hx hsrc
            have hx' := evalD_rep r hx
            simp only [RepD] at hx'
            obtain ⟨hxr, ax, hvx⟩ := hx'
            split at e
            · rename_i hc
              obtain ⟨rfl, rfl, h0m, hb, hmx, _⟩ := hc
              injection e with e; subst e
              exact fresh none ax 0 src m (by simpa using hvx) (fun _ => rfl) h0m hsrc h0m hb hmx hK
            · split at e
              · rename_i ys hmore
                split at e
                · rename_i hc
                  obtain ⟨rfl, hb, hmx⟩ := hc
                  injection e with e; subst e
                  have hy : Rep w h (.sl z' ys) (a.eval y) := by
                    unfold appMore at hmore
                    split at hmore
                    · rename_i hy
                      injection hmore with hmore; subst hmore
                      have := evalD_rep r hy
                      simp only [RepD] at this
                      simp only [Rep]; exact .inl ⟨trivial, none, 0, this, fun _ => rfl⟩
                    · rename_i d' _ hy
                      split at hmore
                      · rename_i z2 ys' he
                        split at hmore
                        · rename_i hzz'
                          injection hmore with hmore; subst hmore; subst hzz'
                          exact elems_rep he (evalD_rep r hy)
                        · cases hmore
                      · cases hmore
                    · cases hmore
                  have hy0 := hy
                  simp only [Rep] at hy
                  have nothing : ys = [] → o.wp C.P a w K Q := by
                    intro q
                    subst q
                    obtain ⟨ay, cy, hvy, _, _⟩ := rep_slice hy0
                    refine go _ _ (by rw [hvx, hvy]; exact run_append_none hu hz o.type ax _ _ (Nat.le_refl _) ay cy w) (hK _ _ _ _ _ (r.put (some d) (by rw [← hdst]; exact hd) fun O => ?_))
                    simp only [RepD, List.append_nil]; rw [← hvx]; exact hxr
                  rcases hy with ⟨q, _⟩ | ⟨gy, offy, capy, hvy, hcy, hhy, hzy, hry⟩
                  · exact nothing q
                  by_cases hm0 : ys = []
                  · exact nothing hm0
                  have h0m : 0 < ys.length := by
                    rcases ys with _ | _
                    · exact absurd rfl hm0
                    · simp
                  obtain ⟨news, hnl, hnews, hnr, hn1⟩ := rows_vals hzy hry
                  -- what is there
                  have holds : ∃ olds : List Value, olds.length = xs.length * z' ∧ (ax = none → xs.length = 0 ∧ xs.length = 0) ∧ (∀ ad, ax = some ad → ∀ j u, olds[j]? = some u → w.cell? (ad.add j) = some u) ∧ RepRows w h xs (fun j => olds[j]?) ∧ (∀ u ∈ olds, u.oneCell' = true) ∧ (∀ q ∈ xs, q.length = z') := by
                    simp only [Rep] at hxr
                    rcases hxr with ⟨rfl, _⟩ | ⟨g, off, cap, hv, hcap, hh, hzx, rr⟩
                    · exact ⟨[], by simp, fun _ => ⟨rfl, rfl⟩, (fun _ _ j u hj => by simp at hj), by simp only [RepRows], by simp, by simp⟩
                    · obtain ⟨olds, k1, k2, k3, k4⟩ := rows_vals hzx rr
                      rw [hvx] at hv; injection hv with e1 e2 e3; subst e1
                      exact ⟨olds, k1, (fun q => by cases q), fun ad had j u hj => by injection had with had; subst had; rw [addr_add]; exact k2 j u hj, k3, k4, hzx⟩
                  obtain ⟨olds, k1, k2, k3, k4, k5, k6⟩ := holds
                  obtain ⟨cap, w', cur, q1, q2, q3, q4, q5, q6, q7⟩ := append_new (P := C.P) hu hi1 hi2 hi3 hi4 hzz (w := w) o.type ax xs.length xs.length olds k1 k2 k3 ⟨gy, offy, none⟩ ys.length capy news hnl
                    (fun j u hj => by rw [addr_add]; exact hnews j u hj) (by omega) h0m hb hmx
                  refine go _ _ (by rw [hvx, hvy]; exact q1) ?_
                  have happ := r.appended none d hdd (v := .slice none 0 0) (v' := .slice (some ⟨w.heap.size, 0, none⟩) (xs.length + ys.length) cap) (w' := w') (e := el) (z := z') (xs' := xs ++ ys) (vals' := olds ++ news)
                    (fun g hg => by simp [Value.ownBlock] at hg) q6 (fun b j hj => ?_) (fun b cs T f q => ⟨cs, T, f, by rw [q6.block b (Array.getElem?_eq_some_iff.1 q).1 (by simp)]; exact q, rfl⟩) h0z ?_ (fun q hq => ?_) (RepRows.append (by rw [rowsLen xs _ k6, k1]) k4 hnr) (fun u hu => ?_) (.inr (.inr rfl))
                    (fun g hg => by
                      have : w.heap.size = g := by simpa [Value.ownBlock] using hg
                      rw [r.hr.hz g (by omega)]; exact Nat.zero_le _)
                  · have hK' := hK
                    refine hK _ _ _ _ _ (happ.weak _ rfl (fun i => ?_) (fun i hi => ?_))
                    · simp only [St.put]
                      split
                      · exact .fr _ _ _
                      · exact .refl _
                    · simp only [St.put]
                      rw [if_neg (fun e => by rw [e] at hi; exact absurd hi (Nat.not_le_of_gt hdd))]
                      exact r.dom i hi
                  · have hlt : b < w.heap.size := by
                      rcases Nat.lt_or_ge b w.heap.size with q | q
                      · exact q
                      · rw [r.hr.hz b q] at hj; omega
                    simp only [World.cell?, q6.block b hlt (by simp)]
                  · refine ⟨by simp [k1, hnl, Nat.add_mul], .inr ⟨w.heap.size, cap, cur, by simp, by omega, q3, by simpa using q2, ?_, q4, ?_⟩⟩
                    · exact q7
                    · have : (olds ++ news).length = (xs.length + ys.length) * z' := by simp [k1, hnl, Nat.add_mul]
                      simpa using q5
                  · rcases List.mem_append.1 hq with q | q
                    · exact k6 _ q
                    · exact hzy _ q
                  · rcases List.mem_append.1 hu with q | q
                    · exact k5 u q
                    · exact hn1 u q
                · cases e
              · cases e
          · cases e
        · cases e
      · cases e
    · cases e
  · cases e
end Go.Proofs.Dm
