/- Appending, copying, clearing. -/
import Derived.Test.YtdfbfcohindpnaaAmPrim6
set_option linter.unusedVariables false
set_option linter.unusedSimpArgs false
namespace Go.AM
open Go
section
variable {P : Program} {N : Nat} {φ : Phi} {fr : Frame} {m : Mem} {A : Act} {w : World} {o : Oper} {ao : AOp} {v : V} {m' : Mem}

theorem over_flat {els ys : List (List V)} {i : Nat} : (over els i ys).flatten = (els.take i).flatten ++ (ys.flatten ++ (els.drop (i + ys.length)).flatten) := by
  simp [over]
theorem over_wf {z : Nat} {els ys : List (List V)} {i : Nat} (h : Wf z els) (h' : Wf z ys) : Wf z (over els i ys) := (h.take i).append (h'.append (h.drop _))
theorem pushSet (l : Mem) (x y : Blk) : (l ++ [x]).set l.length y = l ++ [y] := by
  rw [List.set_append_right _ _ (Nat.le_refl _)]
  simp
theorem Stp.writeAt {φ : Phi} {m : Mem} {w w' : World} (h : St φ m w) {b : Nat} {els ys : List (List V)} {p : PL} {i : Nat} (hb : m[b]? = some (.cells true els)) (hp : φ b = some p) (hwf : Wf p.esz ys)
    {c : Array Value} {e : TypeId} {u bb r y news : List Value} (hc : c.toList = u ++ (bb ++ r)) (hs : c.size = p.size) (hbl : news.length = bb.length) (hn : Rs φ ys.flatten news)
    (hx : ∃ x a1 a3, u = x ++ a1 ∧ r = a3 ++ y ∧ x.length = p.base ∧ Rs φ (els.take i).flatten a1 ∧ Rs φ (els.drop (i + ys.length)).flatten a3) (hB : w.heap[p.blk]? = some (.cells c e (0, 0)))
    (hw : w' = w.setRow p.blk (u ++ (news ++ r)).toArray) : Stp φ m w φ (m.set b (.cells true (over els i ys))) w' := by
  subst hw
  obtain ⟨x, a1, a3, rfl, rfl, hx, k1, k3⟩ := hx
  obtain ⟨q, hq, hr⟩ := h.blk b true els hb
  rw [hp] at hq; cases hq
  refine Stp.write h hb hp (over_wf hr.wf hwf) (c := (x ++ a1 ++ (news ++ (a3 ++ y))).toArray) (e := e) (x := x) (a := a1 ++ (news ++ a3)) (y := y) (by simp) hx ?_ ?_ (setRow_heap w p.blk c _ e (0, 0) hB) (setRow_other' w p.blk _) (setRow_size w p.blk _) rfl rfl rfl
  · have hcs : c.size = (x ++ a1 ++ (bb ++ (a3 ++ y))).length := by rw [← hc, Array.length_toList]
    rw [← hs, hcs]
    simp [hbl]
  · rw [over_flat]
    exact k1.append (hn.append k3)
theorem grown_size {news : List Value} {z : Array Value} {n cap : Nat} (hl : news.length = n * z.size) (h : n ≤ cap) : (news.toArray ++ Builtin.zeroCells z (cap - n)).size = cap * z.size := by
  simp only [Array.size_append, List.size_toArray, hl, size_zeroCells, ← Nat.add_mul]
  congr 1
  omega
theorem does_append (hst : St φ m w) (hA : RF φ N fr A) {t e : TypeId} {x y : Operand} {cc : Call} (ho : o.op = .call cc) (hcc : cc.callee = .builtin .append) (hca : cc.args.toList = [x, y]) (hct : cc.argTypes.toList = [t, t]) (he : elemT P t = some e) {z : List V} (hz : zeroT P e = some z) {b : Nat} (hb : bytesT P e = some b)
    {a1 a2 : Arg} (ha1 : argC N x = some a1) (ha2 : argC N y = some a2) {tgt : Option Nat} (hp : prim (.append z b a1 a2) tgt fr m = some (v, m')) : Does0 P o A w φ m v m' := by
  obtain ⟨callee, args, argTypes⟩ := cc
  simp only at hcc hca hct
  subst hcc
  obtain ⟨args⟩ := args
  obtain ⟨argTypes⟩ := argTypes
  simp only at hca hct
  subst hca; subst hct
  have rx := argC_sound hA ha1
  have ry := argC_sound hA ha2
  simp only [prim] at hp
  obtain ⟨ti, zv, hi, hzv, hr, hcell, hlen, hpos⟩ := zeroT_some hz
  have ht := elemT_some he
  have hzs : zv.cells.size = ti.size := by rw [← Array.length_toList, (hr φ).len, hlen]
  have hby : ti.bytes = b := by simp [bytesT, hi] at hb; exact hb
  have exec : ∀ {cv : Value} {w' : World}, (Builtin.append_ #[t, t] o.type #[A.eval x, A.eval y]).run P w = .ok cv w' → (execOp A.eval o).run P w = .ok (.value cv) w' := by
    intro cv w' h
    simp [execOp, ho, resolve, invoke, builtin, h]
  unfold appendV at hp
  split at hp
  · cases hp
  rename_i ys hys
  split at hp
  · cases hp
  rename_i hzok
  obtain ⟨news, n1, n2, n3, n4⟩ := elems_sound hst ry hys (z := z.length) (by simpa using hzok)
  have n5 := n1.cells_all n3.cells
  rw [hlen] at n2
  have hnil : ys = [] → A.eval y = .slice none 0 0 ∨ ∃ B a c, A.eval y = .slice (some ⟨B, a, none⟩) 0 c := by
    intro h
    rcases n4 with ⟨h1, _⟩ | ⟨B, a, c, h1, _⟩
    · exact .inl h1
    · subst h; exact .inr ⟨B, a, c, h1⟩
  have hsome : ys ≠ [] → ∃ B a c, A.eval y = .slice (some ⟨B, a, none⟩) ys.length c ∧ ∀ j u, news[j]? = some u → w.cell? ((⟨B, a, none⟩ : Addr).add j) = some u := by
    intro h
    rcases n4 with ⟨_, h1⟩ | h1
    · exact absurd h1 h
    · exact h1
  split at hp
  · -- onto nil
    rename_i hx
    rw [hx] at rx
    simp only [R] at rx
    split at hp
    · rename_i hemp
      cases hp
      have hy0 : ys = [] := by simpa using hemp
      refine Does.quiet hst (cv := .slice none 0 0) (exec ?_) (by simp [R])
      rw [rx]
      exact run_append_nothing' ht hi (Nat.le_refl _) (hnil hy0) w
    · rename_i hemp
      have hy0 : ys ≠ [] := by simpa using hemp
      have hk : 0 < ys.length := List.length_pos_iff.2 hy0
      split at hp
      · rename_i hroom
        cases hp
        simp only [roomy, Bool.and_eq_true, decide_eq_true_eq] at hroom
        obtain ⟨B, a, c, hy, hc⟩ := hsome hy0
        have hrun := run_append_nil (P := P) w t o.type e ti zv ht hi hzv ⟨B, a, none⟩ ys.length c news n2 hc hk (by omega) (by rw [hby]; omega)
        have hge := grownCap_ge w ys.length 0 e
        have hcm := grownCap_le_maxLen w ys.length 0 e (by unfold maxLen; omega)
        have hsz := grown_size (z := zv.cells) (news := news) (by rw [n2, hzs]) hge
        refine ⟨_, w.drew.alloc (.cells (news.toArray ++ Builtin.zeroCells zv.cells (grownCap w ys.length 0 e - ys.length)) e), _, .inl (exec (by rw [rx, hy]; exact hrun)), Stp.alloc hst (els := ys) (z := z.length) (a := news) (y := (Builtin.zeroCells zv.cells (grownCap w ys.length 0 e - ys.length)).toList) n3 (by simp) n1 rfl rfl rfl rfl, ?_⟩
        simp only [R]
        refine ⟨_, 0, grownCap w ys.length 0 e, Phi.set_same _ _ _, rfl, rfl, hge, (fun h => by cases h), hcm, hge, .inl (by simp), ?_⟩
        rw [hsz, hzs, hlen]
        simp
      · cases hp
  · rename_i b' i len cap ex z' hx
    rw [hx] at rx
    have rx0 := rx
    simp only [R] at rx
    obtain ⟨p, ad, cap', hp', hpz, hcv, hcc', hex, hml, hlc, had, hfit⟩ := rx
    split at hp
    · cases hp
    rename_i hz'
    have hz' : z' = z.length := by simpa using hz'
    split at hp
    · rename_i hemp
      cases hp
      have hy0 : ys = [] := by simpa using hemp
      refine Does.quiet hst (cv := .slice (some ⟨p.blk, ad, none⟩) len cap') (exec ?_) (by rw [← hcv]; exact rx0)
      rw [hcv]
      exact run_append_nothing' ht hi hlc (hnil hy0) w
    rename_i hemp
    have hy0 : ys ≠ [] := by simpa using hemp
    have hk : 0 < ys.length := List.length_pos_iff.2 hy0
    obtain ⟨B, a, c, hy, hc⟩ := hsome hy0
    have hpz' : p.esz = ti.size := by omega
    split at hp
    · rename_i own els hblk
      obtain ⟨q, hq, hbr⟩ := hst.blk b' own els hblk
      rw [hp'] at hq; cases hq
      split at hp
      · rename_i hin
        split at hp
        · -- there is room
          rename_i hroom
          split at hp
          · rename_i hown
            obtain ⟨hown, hin2⟩ := hown
            subst hown
            cases hp
            have had' : ad = p.base + i * z' := by
              rcases had with h | h
              · exact h
              · omega
            obtain ⟨cc, ce, frz, u, bb, r, yy, g1, g2, g3, g4, g5, g6, g7, g8⟩ := hbr.cut (i := i + len) (n := ys.length) (by omega)
            have hfr := g3 rfl
            subst hfr
            have hu : u.length = ad + len * ti.size := by rw [g5, had', hz', hpz', hlen, Nat.add_mul]; omega
            have hrun := run_append_room' (P := P) (ty := o.type) (c' := c) ht hi n2 hc n5 (sLen := len) (sCap := cap') (off := ad) (by omega) g1 g4 hu (by rw [n2, g6, hpz'])
            refine ⟨_, _, φ, .inl (exec (by rw [hcv, hy]; exact hrun)), Stp.writeAt hst hblk hp' (by rw [hpz', ← hlen]; exact n3) g4 g2 (by rw [n2, g6, hpz']) n1 g8 g1 rfl, ?_⟩
            simp only [R]
            exact ⟨p, ad, cap', hp', hpz, rfl, hcc', hex, hml, by omega, had, hfit⟩
          · cases hp
        rename_i hnroom
        split at hp
        · rename_i hroom
          simp only [roomy, Bool.and_eq_true, decide_eq_true_eq] at hroom
          have holds : ∃ olds : List Value, Rs φ ((els.drop i).take len).flatten olds ∧ olds.length = len * ti.size ∧ (∀ j u, olds[j]? = some u → w.cell? ((⟨p.blk, ad, none⟩ : Addr).add j) = some u) ∧ Wf z.length ((els.drop i).take len) := by
            obtain ⟨olds, o1, o2, o3, o4⟩ := elems_sound hst rx0 (ys := (els.drop i).take len) (by simp only [elems, hblk]; rw [if_pos hin]) (z := z.length) (by simp [zOk, hz'])
            have hll : ((els.drop i).take len).length = len := by simp; omega
            refine ⟨olds, o1, by rw [o2, hll, hlen], ?_, o3⟩
            rcases o4 with ⟨h1, _⟩ | ⟨B', a', c', h1, h2⟩
            · rw [hcv] at h1; cases h1
            · rw [hcv] at h1
              simp only [Value.slice.injEq, Option.some.injEq, Addr.mk.injEq] at h1
              obtain ⟨⟨rfl, rfl, _⟩, _, _⟩ := h1
              exact h2
          obtain ⟨olds, o1, o2, o3, o4⟩ := holds
          have grow : cap' < len + ys.length → ∃ w', (Builtin.append_ #[t, t] o.type #[A.eval x, A.eval y]).run P w = .ok (.slice (some ⟨w.heap.size, 0, none⟩) (len + ys.length) (grownCap w (len + ys.length) cap' e)) w' ∧
              w'.heap = w.heap.push (.cells (olds.toArray ++ news.toArray ++ Builtin.zeroCells zv.cells (grownCap w (len + ys.length) cap' e - (len + ys.length))) e) ∧ w'.os = w.os ∧ w'.tape = w.tape ∧ w'.output = w.output := by
            intro hlt
            have hrun := run_append_grow (P := P) w t o.type e ti zv ht hi hzv ⟨p.blk, ad, none⟩ len cap' olds o2 o3 ⟨B, a, none⟩ ys.length c news n2 hc hlt (by omega) (growslice_fits hlt (by rw [hby]; exact hroom.1))
            exact ⟨w.drew.alloc (.cells (olds.toArray ++ news.toArray ++ Builtin.zeroCells zv.cells (grownCap w (len + ys.length) cap' e - (len + ys.length))) e), by rw [hcv, hy]; exact hrun, rfl, rfl, rfl, rfl⟩
          have hge := grownCap_ge w (len + ys.length) cap' e
          have hcm := grownCap_le_maxLen w (len + ys.length) cap' e (by unfold maxLen; omega)
          have hsz : (olds.toArray ++ news.toArray ++ Builtin.zeroCells zv.cells (grownCap w (len + ys.length) cap' e - (len + ys.length))).size = grownCap w (len + ys.length) cap' e * ti.size := by
            have := grown_size (z := zv.cells) (news := olds ++ news) (n := len + ys.length) (by rw [List.length_append, o2, n2, hzs, Nat.add_mul]) hge
            rw [hzs] at this
            rw [← this]
            simp
          have hval : ∀ (ψ : Phi) (q : Nat), ψ q = some ⟨w.heap.size, 0, z.length, grownCap w (len + ys.length) cap' e * ti.size⟩ →
              R ψ (.slice q 0 (len + ys.length) (len + ys.length) false z') (.slice (some ⟨w.heap.size, 0, none⟩) (len + ys.length) (grownCap w (len + ys.length) cap' e)) := by
            intro ψ q hq
            simp only [R]
            exact ⟨_, 0, _, hq, hz'.symm, rfl, hge, fun h => (by cases h), hcm, hge, .inl (by simp), by rw [hz', hlen]; simp⟩
          split at hp
          · rename_i hexx
            cases hp
            have hc0 := hex hexx
            obtain ⟨w', hrun, hh, h1, h2, h3⟩ := grow (by omega)
            refine ⟨_, w', _, .inl (exec hrun), Stp.alloc hst (els := (els.drop i).take len ++ ys) (z := z.length) (a := olds ++ news) (y := (Builtin.zeroCells zv.cells (grownCap w (len + ys.length) cap' e - (len + ys.length))).toList) (o4.append n3) (by simp) (by rw [List.flatten_append]; exact o1.append n1) hh h1 h2 h3, ?_⟩
            apply hval
            rw [Phi.set_same, hsz]
          · rename_i hexx
            split at hp
            · rename_i hown
              obtain ⟨hown, hend⟩ := hown
              subst hown
              cases hp
              have htk : (els.drop i).take len = els.drop i := List.take_of_length_le (by simp; omega)
              rw [htk] at o1 o4
              by_cases hlt : cap' < len + ys.length
              · obtain ⟨w', hrun, hh, h1, h2, h3⟩ := grow hlt
                have s1 := Stp.kill hst b'
                have s2 := Stp.alloc s1.st (els := els.drop i ++ ys) (z := z.length) (a := olds ++ news) (y := (Builtin.zeroCells zv.cells (grownCap w (len + ys.length) cap' e - (len + ys.length))).toList) (o4.append n3) (by simp) (by rw [List.flatten_append]; exact o1.append n1) hh h1 h2 h3
                refine ⟨_, w', _, .inl (exec hrun), s1.trans s2, ?_⟩
                apply hval
                rw [List.length_set, Phi.set_same, hsz]
              · -- in place, under a new name
                have had' : ad = p.base + i * z' := by
                  rcases had with h | h
                  · exact h
                  · omega
                have s1 := Stp.rename hst hblk hp' i (by omega)
                have hb1 : (m.set b' .dead ++ [.cells true (els.drop i)])[m.length]? = some (.cells true (els.drop i)) := by
                  rw [List.getElem?_append_right (by simp)]; simp
                have hp1 : (φ.set m.length ⟨p.blk, p.base + i * p.esz, p.esz, p.size⟩) m.length = some ⟨p.blk, p.base + i * p.esz, p.esz, p.size⟩ := Phi.set_same _ _ _
                obtain ⟨q1, hq1, hbr1⟩ := s1.st.blk m.length true (els.drop i) hb1
                rw [hp1] at hq1; cases hq1
                obtain ⟨cc, ce, frz, xx, aa, yy, g1, g2, g3, g4, g5, g6⟩ := hbr1.lay
                simp only at g1 g2 g5
                have hfr := g3 rfl
                subst hfr
                have haa : aa.length = len * ti.size := by
                  rw [g6.len, hbr1.wf.len]
                  simp only [List.length_drop, hpz']
                  congr 1
                  omega
                have hcs : cc.size = xx.length + (aa.length + yy.length) := by rw [← Array.length_toList, g4]; simp
                have hyl : ys.length * ti.size ≤ yy.length := by
                  have h1 : (len + ys.length) * ti.size ≤ cap' * ti.size := Nat.mul_le_mul_right _ (by omega)
                  rw [Nat.add_mul] at h1
                  rw [hz', hlen] at hfit
                  have h2 : ad = xx.length := by rw [g5, had', hpz]
                  omega
                have hyy : yy = yy.take (ys.length * ti.size) ++ yy.drop (ys.length * ti.size) := (List.take_append_drop _ _).symm
                have hcl : cc.toList = (xx ++ aa) ++ (yy.take (ys.length * ti.size) ++ yy.drop (ys.length * ti.size)) := by
                  rw [← hyy, g4]; simp
                have hbl : news.length = (yy.take (ys.length * ti.size)).length := by
                  rw [List.length_take, Nat.min_eq_left hyl, n2]
                have hu : (xx ++ aa).length = ad + len * ti.size := by rw [List.length_append, g5, haa, had', hpz]
                have hrun := run_append_room' (P := P) (ty := o.type) (c' := c) ht hi n2 hc n5 (sLen := len) (sCap := cap') (off := ad) (by omega) g1 hcl hu hbl
                have s2 := Stp.write s1.st hb1 hp1 (els' := els.drop i ++ ys) (w' := w.setRow p.blk (xx ++ aa ++ (news ++ yy.drop (ys.length * ti.size))).toArray) (hbr1.wf.append (by simp only [hpz', ← hlen]; exact n3))
                  (c := (xx ++ aa ++ (news ++ yy.drop (ys.length * ti.size))).toArray) (e := ce) (x := xx) (a := aa ++ news) (y := yy.drop (ys.length * ti.size)) (by simp) g5 (by
                    have : cc.size = ((xx ++ aa) ++ (yy.take (ys.length * ti.size) ++ yy.drop (ys.length * ti.size))).length := by rw [← hcl, Array.length_toList]
                    rw [← g2, this]
                    simp only [List.size_toArray, List.length_append, hbl]) (by rw [List.flatten_append]; exact g6.append (n1.ext s1.ext)) (setRow_heap w p.blk cc _ ce (0, 0) g1) (setRow_other' w p.blk _) (setRow_size w p.blk _) rfl rfl rfl
                have hmm : (m.set b' Blk.dead ++ [Blk.cells true (els.drop i)]).set m.length (Blk.cells true (els.drop i ++ ys)) = m.set b' Blk.dead ++ [Blk.cells true (els.drop i ++ ys)] := by
                  have := pushSet (m.set b' .dead) (.cells true (els.drop i)) (.cells true (els.drop i ++ ys))
                  rwa [List.length_set] at this
                rw [hmm] at s2
                refine ⟨_, _, _, .inl (exec (by rw [hcv, hy]; exact hrun)), s1.trans s2, ?_⟩
                simp only [R]
                refine ⟨_, ad, cap', hp1, hpz, rfl, by omega, fun h => (by cases h), hml, by omega, .inl (by rw [had', hpz]; simp), hfit⟩
            · cases hp
        · cases hp
      · cases hp
    · cases hp
  · cases hp

theorem does_copy (hst : St φ m w) (hA : RF φ N fr A) {t e : TypeId} {ts : List TypeId} {x y : Operand} {cc : Call} (ho : o.op = .call cc) (hcc : cc.callee = .builtin .copy) (hca : cc.args.toList = [x, y]) (hct : cc.argTypes.toList = t :: ts) (he : elemT P t = some e) {z : Nat} (hz : sizeT P e = some z)
    {a1 a2 : Arg} (ha1 : argC N x = some a1) (ha2 : argC N y = some a2) {tgt : Option Nat} (hp : prim (.copy z a1 a2) tgt fr m = some (v, m')) : Does0 P o A w φ m v m' := by
  obtain ⟨callee, args, argTypes⟩ := cc
  simp only at hcc hca hct
  subst hcc
  obtain ⟨args⟩ := args
  obtain ⟨argTypes⟩ := argTypes
  simp only at hca hct
  subst hca; subst hct
  have rx := argC_sound hA ha1
  have ry := argC_sound hA ha2
  simp only [prim] at hp
  have ht := elemT_some he
  simp only [sizeT, Option.map_eq_some_iff] at hz
  obtain ⟨ti, hi, hsz⟩ := hz
  have exec : ∀ {cv : Value} {w' : World}, (Builtin.copy_ (t :: ts).toArray o.type #[A.eval x, A.eval y]).run P w = .ok cv w' → (execOp A.eval o).run P w = .ok (.value cv) w' := by
    intro cv w' h
    simp [execOp, ho, resolve, invoke, builtin, h]
  unfold copyV at hp
  split at hp
  · rename_i xs ys hxs hys
    simp only at hp
    split at hp
    · rename_i b i len cap ex z' hx
      split at hp
      · cases hp
      rename_i hzz
      have hzx : zOk (a1.get fr) z = true := by rw [hx]; cases h : zOk (.slice b i len cap ex z') z <;> simp_all
      have hzy : zOk (a2.get fr) z = true := by cases h : zOk (a2.get fr) z <;> simp_all
      split at hp
      · rename_i els hblk
        cases hp
        obtain ⟨news, n1, n2, n3, n4⟩ := elems_sound hst ry hys hzy
        rw [hx] at rx hxs hzx
        simp only [zOk, decide_eq_true_eq] at hzx
        subst hzx
        simp only [R] at rx
        obtain ⟨p, ad, cap', hp', hpz, hcv, hcc', hex, hml, hlc, had, hfit⟩ := rx
        simp only [elems, hblk] at hxs
        split at hxs
        · rename_i hin
          cases hxs
          have hxl : ((els.drop i).take len).length = len := by simp; omega
          rw [hxl]
          obtain ⟨q, hq, hbr⟩ := hst.blk b true els hblk
          rw [hp'] at hq; cases hq
          generalize hk : Nat.min ys.length len = k
          have hk1 : k ≤ len := by rw [← hk]; exact Nat.min_le_right _ _
          have hk2 : k ≤ ys.length := by rw [← hk]; exact Nat.min_le_left _ _
          have hlk : (ys.take k).length = k := by simp; omega
          obtain ⟨cc, ce, frz, u, bb, r, yy, g1, g2, g3, g4, g5, g6, g7, g8⟩ := hbr.cut (i := i) (n := k) (by omega)
          have hfr := g3 rfl
          subst hfr
          have hn : ∃ ns, (Builtin.firstCells ti.size k (A.eval y)).run P w = .ok (List.toArray ns) w ∧ Rs φ (ys.take k).flatten ns ∧ ns.length = k * ti.size ∧ (∀ x ∈ ns, x.oneCell' = true) := by
            have hsp : ys.flatten = (ys.take k).flatten ++ (ys.drop k).flatten := by rw [← List.flatten_append, List.take_append_drop]
            have n1' := n1
            rw [hsp] at n1'
            obtain ⟨ns, rest, e1, s1, s2⟩ := n1'.split
            have hns : ns.length = k * ti.size := by rw [s1.len, (n3.take k).len, hlk, hsz]
            refine ⟨ns, ?_, s1, hns, s1.cells_all (n3.take k).cells⟩
            rcases n4 with ⟨h1, h2⟩ | ⟨B, a, c, h1, h2⟩
            · have : k = 0 := by rw [h2] at hk2; simpa using hk2
              subst this
              have : ns = [] := List.eq_nil_of_length_eq_zero (by rw [hns]; simp)
              subst this
              rw [h1]
              simp [Builtin.firstCells]
            · rw [h1]
              exact run_firstCells_some (P := P) w ti.size k ⟨B, a, none⟩ ys.length c ns hns (fun j x hx => h2 j x (by rw [e1, List.getElem?_append_left (List.getElem?_eq_some_iff.1 hx).1]; exact hx))
          obtain ⟨ns, hf, s1, hns, s3⟩ := hn
          have hbn : ns.length = bb.length := by rw [hns, g6, hpz, hsz]
          have hst' := run_write (P := P) g1 g4 hbn s3
          have hlo : (Builtin.lenOf (A.eval y)).run P w = .ok ys.length w := by
            rcases n4 with ⟨h1, h2⟩ | ⟨B, a, c, h1, _⟩
            · rw [h1, h2]; simp [Builtin.lenOf]
            · rw [h1]; simp [Builtin.lenOf]
          have hw : Stp φ m w φ (m.set b (.cells true (over els i (ys.take k)))) (w.setRow p.blk (u ++ (ns ++ r)).toArray) :=
            Stp.writeAt hst hblk hp' (by rw [hpz]; exact n3.take k) g4 g2 hbn s1 (by rw [hlk]; exact g8) g1 rfl
          have hst2 : (storeCells ⟨p.blk, ad, none⟩ ns).run P w = .ok () (w.setRow p.blk (u ++ (ns ++ r)).toArray) := by
            by_cases h0 : cap' = 0
            · have hk0 : k = 0 := by omega
              have hns0 : ns = [] := List.eq_nil_of_length_eq_zero (by rw [hns, hk0]; simp)
              have hbb0 : bb = [] := List.eq_nil_of_length_eq_zero (by rw [← hbn, hns0]; simp)
              subst hns0
              have hself : w.setRow p.blk (u ++ ([] ++ r)).toArray = w := by
                have : (u ++ ([] ++ r)).toArray = cc := by
                  apply Array.ext'
                  rw [g4, hbb0]
                rw [this]
                exact setRow_self w p.blk cc ce (0, 0) g1
              rw [hself]
              simp [storeCells]
            · have had' : ad = u.length := by
                rw [g5]
                rcases had with h | h
                · rw [h, hpz]
                · exact absurd h h0
              rw [had']
              exact hst'
          refine ⟨.int .i64 k, _, φ, .inl (exec ?_), hw, by simp [R]⟩
          rw [hcv]
          have hminc : Nat.min ys.length len = k := hk
          simp [Builtin.copy_, run_underlying ht, hlo, hminc, sizeOf, typeInfo, hi, hf, hst2, goInt]
        · cases hxs
      · cases hp
    · rename_i hx
      cases hp
      have hx0 : A.eval x = .slice none 0 0 := by
        cases hv : a1.get fr with
        | nils => rw [hv] at rx; simpa [R] using rx
        | slice b i l c e z => exact absurd hv (hx b i l c e z)
        | _ => rw [hv] at hxs; simp [elems] at hxs
      have hy : ∃ base l c, A.eval y = .slice base l c := by
        cases hv : a2.get fr with
        | nils => rw [hv] at ry; simp only [R] at ry; exact ⟨_, _, _, ry⟩
        | slice b i l c e z => rw [hv] at ry; simp only [R] at ry; obtain ⟨p, a, c, _, _, h, _⟩ := ry; exact ⟨_, _, _, h⟩
        | _ => rw [hv] at hys; simp [elems] at hys
      obtain ⟨base, l, c, hy⟩ := hy
      refine Does.quiet hst (cv := .int .i64 0) (exec ?_) (by simp [R])
      rw [hx0, hy]
      cases base <;> simp [Builtin.copy_, run_underlying ht, Builtin.lenOf, Builtin.firstCells, sizeOf, typeInfo, hi, goInt, loadCells, loadCellsFrom]
  · cases hp
theorem does_clear (hst : St φ m w) (hA : RF φ N fr A) {t e : TypeId} {ts : List TypeId} {x : Operand} {cc : Call} (ho : o.op = .call cc) (hcc : cc.callee = .builtin .clear) (hca : cc.args.toList = [x]) (hct : cc.argTypes.toList = t :: ts) (he : elemT P t = some e) {z : List V} (hz : zeroT P e = some z)
    {a1 : Arg} (ha1 : argC N x = some a1) {tgt : Option Nat} (hp : prim (.clear z a1) tgt fr m = some (v, m')) : Does0 P o A w φ m v m' := by
  obtain ⟨callee, args, argTypes⟩ := cc
  simp only at hcc hca hct
  subst hcc
  obtain ⟨args⟩ := args
  obtain ⟨argTypes⟩ := argTypes
  simp only at hca hct
  subst hca; subst hct
  have rx := argC_sound hA ha1
  simp only [prim] at hp
  have ht := elemT_some he
  obtain ⟨ti, zv, hi, hzv, hr, hcell, hlen, hpos⟩ := zeroT_some hz
  have hzs : zv.cells.size = ti.size := by rw [← Array.length_toList, (hr φ).len, hlen]
  have exec : ∀ {cv : Value} {w' : World}, (Builtin.clear_ (t :: ts).toArray o.type #[A.eval x]).run P w = .ok cv w' → (execOp A.eval o).run P w = .ok (.value cv) w' := by
    intro cv w' h
    simp [execOp, ho, resolve, invoke, builtin, h]
  unfold clearV at hp
  split at hp
  · rename_i hx
    cases hp
    rw [hx] at rx
    simp only [R] at rx
    exact Does.quiet hst (cv := Go.undef) (exec (by rw [rx]; simp [Builtin.clear_, run_underlying ht]; rfl)) (R_undef φ)
  · rename_i b i len cap ex z' hx
    split at hp
    · cases hp
    rename_i hzz
    have hzz : z' = z.length := by simpa using hzz
    split at hp
    · rename_i els hblk
      split at hp
      · rename_i hin
        cases hp
        rw [hx] at rx
        simp only [R] at rx
        obtain ⟨p, ad, cap', hp', hpz, hcv, hcc', hex, hml, hlc, had, hfit⟩ := rx
        by_cases h0 : len = 0
        · subst h0
          have hself : m.set b (.cells true (over els i (List.replicate 0 z))) = m := by
            have h1 : over els i (List.replicate 0 z) = els := by simp [over]
            rw [h1]
            obtain ⟨hlt, hg⟩ := List.getElem?_eq_some_iff.1 hblk
            rw [← hg]
            exact List.set_getElem_self hlt
          rw [hself]
          exact Does.quiet hst (cv := Go.undef) (exec (by rw [hcv]; simp [Builtin.clear_, run_underlying ht]; rfl)) (R_undef φ)
        · obtain ⟨q, hq, hbr⟩ := hst.blk b true els hblk
          rw [hp'] at hq; cases hq
          have hrep : (List.replicate len z).length = len := by simp
          obtain ⟨cc, ce, frz, u, bb, r, yy, g1, g2, g3, g4, g5, g6, g7, g8⟩ := hbr.cut (i := i) (n := len) hin
          have hfr := g3 rfl
          subst hfr
          have had' : ad = u.length := by
            rw [g5]
            rcases had with h | h
            · rw [h, hpz]
            · omega
          have hzc : (Builtin.zeroCells zv.cells len).toList = (List.replicate len zv.cells.toList).flatten := by
            have := made_flat zv.cells (by omega) len
            simpa only [madeCells, Builtin.zeroCells] using this
          have hwz : Wf z.length (List.replicate len z) := fun el hel => by
            have := List.eq_of_mem_replicate hel; subst this; exact ⟨rfl, hcell⟩
          have hrs : Rs φ (List.replicate len z).flatten (Builtin.zeroCells zv.cells len).toList := by
            rw [hzc]; exact Rs_replicate (hr φ) len
          have hbn : (Builtin.zeroCells zv.cells len).toList.length = bb.length := by
            rw [hrs.len, hwz.len, hrep, g6, hpz, hzz]
          have hst' := run_write (P := P) g1 g4 hbn (hrs.cells_all hwz.cells)
          refine ⟨Go.undef, _, φ, .inl (exec ?_), Stp.writeAt hst hblk hp' (by rw [hpz, hzz]; exact hwz) g4 g2 hbn hrs (by rw [hrep]; exact g8) g1 rfl, R_undef φ⟩
          rw [hcv]
          have hne : ∀ (α : Type) (f : Nat → α), True := fun _ _ => trivial
          obtain ⟨l', rfl⟩ : ∃ k, len = k + 1 := ⟨len - 1, by omega⟩
          simp [Builtin.clear_, run_underlying ht, zeroValue, typeInfo, hi, hzv, had', hst']
          rfl
      · cases hp
    · cases hp
  · cases hp
end
end Go.AM
