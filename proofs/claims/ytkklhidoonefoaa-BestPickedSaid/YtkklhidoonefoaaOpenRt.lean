import Derived.Test.YtkklhidoonefoaaD
import Derived.Test.YtkklhidoonefoaaLaw
/- Routes and next hops, opened. -/
namespace Go.Proofs.Ytkklhidoonefoaa
open Go.RowKit
set_option linter.unusedSimpArgs false
set_option linter.unusedVariables false

theorem open_esi {w : World} {cs : List Value} (h : Opn Try.prog w 24 cs) : ∃ e0 e1 e2 e3 e4 e5 e6 e7 e8 e9 : Int, cs = [.int .u8 e0, .int .u8 e1, .int .u8 e2, .int .u8 e3, .int .u8 e4, .int .u8 e5, .int .u8 e6, .int .u8 e7, .int .u8 e8, .int .u8 e9] ∧ (Lit.int .u8 e0).wf = true ∧ (Lit.int .u8 e1).wf = true ∧ (Lit.int .u8 e2).wf = true ∧ (Lit.int .u8 e3).wf = true ∧ (Lit.int .u8 e4).wf = true ∧ (Lit.int .u8 e5).wf = true ∧ (Lit.int .u8 e6).wf = true ∧ (Lit.int .u8 e7).wf = true ∧ (Lit.int .u8 e8).wf = true ∧ (Lit.int .u8 e9).wf = true := by
  have h := h.array Try.underlying24 (by kernel_rfl)
  change Opns Try.prog w [5, 5, 5, 5, 5, 5, 5, 5, 5, 5] cs at h
  obtain ⟨e0, aq0, rfl, e0w, ar0⟩ := Opns.int Try.underlying5 h
  obtain ⟨e1, aq1, rfl, e1w, ar1⟩ := Opns.int Try.underlying5 ar0
  obtain ⟨e2, aq2, rfl, e2w, ar2⟩ := Opns.int Try.underlying5 ar1
  obtain ⟨e3, aq3, rfl, e3w, ar3⟩ := Opns.int Try.underlying5 ar2
  obtain ⟨e4, aq4, rfl, e4w, ar4⟩ := Opns.int Try.underlying5 ar3
  obtain ⟨e5, aq5, rfl, e5w, ar5⟩ := Opns.int Try.underlying5 ar4
  obtain ⟨e6, aq6, rfl, e6w, ar6⟩ := Opns.int Try.underlying5 ar5
  obtain ⟨e7, aq7, rfl, e7w, ar7⟩ := Opns.int Try.underlying5 ar6
  obtain ⟨e8, aq8, rfl, e8w, ar8⟩ := Opns.int Try.underlying5 ar7
  obtain ⟨e9, aq9, rfl, e9w, ar9⟩ := Opns.int Try.underlying5 ar8
  obtain rfl := Opns.nil ar9
  exact ⟨e0, e1, e2, e3, e4, e5, e6, e7, e8, e9, rfl, e0w, e1w, e2w, e3w, e4w, e5w, e6w, e7w, e8w, e9w⟩

theorem open_prefix {w : World} {cs : List Value} (h : Opn Try.prog w 29 cs) : ∃ i l : Int, cs = [.int .u32 i, .int .i64 l] ∧ (Lit.int .u32 i).wf = true ∧ (Lit.int .i64 l).wf = true := by
  have h := h.struct Try.underlying29 (by kernel_rfl) (by kernel_rfl)
  change Opns Try.prog w [27, 3] cs at h
  obtain ⟨i, aq0, rfl, iw, ar0⟩ := Opns.int Try.underlying27 h
  obtain ⟨l, aq1, rfl, lw, ar1⟩ := Opns.int Try.underlying3 ar0
  obtain rfl := Opns.nil ar1
  exact ⟨i, l, rfl, iw, lw⟩

structure NL.wf (n : NL) : Prop where
  kind : (Lit.int .i64 n.kind).wf = true
  rd : (Lit.int .u64 n.rd).wf = true
  e0 : (Lit.int .u8 n.e0).wf = true
  e1 : (Lit.int .u8 n.e1).wf = true
  e2 : (Lit.int .u8 n.e2).wf = true
  e3 : (Lit.int .u8 n.e3).wf = true
  e4 : (Lit.int .u8 n.e4).wf = true
  e5 : (Lit.int .u8 n.e5).wf = true
  e6 : (Lit.int .u8 n.e6).wf = true
  e7 : (Lit.int .u8 n.e7).wf = true
  e8 : (Lit.int .u8 n.e8).wf = true
  e9 : (Lit.int .u8 n.e9).wf = true
  tag : (Lit.int .u32 n.tag).wf = true
  mac : (Lit.int .u64 n.mac).wf = true
  ip : (Lit.int .u32 n.ip).wf = true
  pip : (Lit.int .u32 n.pip).wf = true
  plen : (Lit.int .i64 n.plen).wf = true
  gw : (Lit.int .u32 n.gw).wf = true
  lab : (Lit.int .u32 n.lab).wf = true
  lab2 : (Lit.int .u32 n.lab2).wf = true

theorem open_nlri {w : World} {cs : List Value} (h : Opn Try.prog w 31 cs) : ∃ n : NL, cs = n.cs.toList ∧ n.wf := by
  have h := h.struct Try.underlying31 (by kernel_rfl) (by kernel_rfl)
  change Opns Try.prog w [3, 22, 24, 25, 26, 27, 4, 29, 27, 25, 25] cs at h
  obtain ⟨kind, aq0, rfl, kindw, ar0⟩ := Opns.int Try.underlying3 h
  obtain ⟨rd, aq1, rfl, rdw, ar1⟩ := Opns.int Try.underlying22 ar0
  obtain ⟨esi, aq2, rfl, esih, ar2⟩ := Opns.cons ar1
  obtain ⟨tag, aq3, rfl, tagw, ar3⟩ := Opns.int Try.underlying25 ar2
  obtain ⟨mac, aq4, rfl, macw, ar4⟩ := Opns.int Try.underlying26 ar3
  obtain ⟨ip, aq5, rfl, ipw, ar5⟩ := Opns.int Try.underlying27 ar4
  obtain ⟨hasip, aq6, rfl, ar6⟩ := Opns.bool Try.underlying4 ar5
  obtain ⟨pre, aq7, rfl, preh, ar7⟩ := Opns.cons ar6
  obtain ⟨gw, aq8, rfl, gww, ar8⟩ := Opns.int Try.underlying27 ar7
  obtain ⟨lab, aq9, rfl, labw, ar9⟩ := Opns.int Try.underlying25 ar8
  obtain ⟨lab2, aq10, rfl, lab2w, ar10⟩ := Opns.int Try.underlying25 ar9
  obtain rfl := Opns.nil ar10
  obtain ⟨e0, e1, e2, e3, e4, e5, e6, e7, e8, e9, rfl, e0w, e1w, e2w, e3w, e4w, e5w, e6w, e7w, e8w, e9w⟩ := open_esi esih
  obtain ⟨pip, plen, rfl, pipw, plenw⟩ := open_prefix preh
  exact ⟨⟨kind, rd, e0, e1, e2, e3, e4, e5, e6, e7, e8, e9, tag, mac, ip, hasip, pip, plen, gw, lab, lab2⟩, by simp [NL.cs], ⟨kindw, rdw, e0w, e1w, e2w, e3w, e4w, e5w, e6w, e7w, e8w, e9w, tagw, macw, ipw, pipw, plenw, gww, labw, lab2w⟩⟩

theorem open_tunnel {w : World} {cs : List Value} (h : Opn Try.prog w 36 cs) : ∃ a b c d : Int, cs = [.int .i64 a, .int .u32 b, .int .u32 c, .int .u32 d] := by
  have h := h.struct Try.underlying36 (by kernel_rfl) (by kernel_rfl)
  change Opns Try.prog w [3, 25, 27, 27] cs at h
  obtain ⟨a, aq0, rfl, aw, ar0⟩ := Opns.int Try.underlying3 h
  obtain ⟨b, aq1, rfl, bw, ar1⟩ := Opns.int Try.underlying25 ar0
  obtain ⟨c, aq2, rfl, cw, ar2⟩ := Opns.int Try.underlying27 ar1
  obtain ⟨d, aq3, rfl, dw, ar3⟩ := Opns.int Try.underlying27 ar2
  obtain rfl := Opns.nil ar3
  exact ⟨a, b, c, d, rfl⟩

/-- Its slices read. -/
structure At.reads (w : World) (a : At) : Prop where
  origin : (Lit.int .i64 a.origin).wf = true
  next : (Lit.int .u32 a.next).wf = true
  med : (Lit.int .u32 a.med).wf = true
  pref : (Lit.int .u32 a.pref).wf = true
  orig : (Lit.int .u32 a.orig).wf = true
  path : Opn Try.prog w 32 [.slice a.path.a a.path.n a.path.c]
  clus : Opn Try.prog w 33 [.slice a.clus.a a.clus.n a.clus.c]
  comms : Opn Try.prog w 34 [.slice a.comms.a a.comms.n a.comms.c]
  tun : Opn Try.prog w 36 [.int .i64 a.tk, .int .u32 a.tl, .int .u32 a.tr, .int .u32 a.tg]

theorem open_attrs {w : World} {cs : List Value} (h : Opn Try.prog w 38 cs) : ∃ a : At, cs = a.cs.toList ∧ a.reads w := by
  have h := h.struct Try.underlying38 (by kernel_rfl) (by kernel_rfl)
  change Opns Try.prog w [3, 32, 27, 4, 25, 4, 25, 4, 27, 33, 34, 36] cs at h
  obtain ⟨origin, aq0, rfl, originw, ar0⟩ := Opns.int Try.underlying3 h
  obtain ⟨path, aq1, rfl, pathh, ar1⟩ := Opns.cons ar0
  obtain ⟨next, aq2, rfl, nextw, ar2⟩ := Opns.int Try.underlying27 ar1
  obtain ⟨hasMed, aq3, rfl, ar3⟩ := Opns.bool Try.underlying4 ar2
  obtain ⟨med, aq4, rfl, medw, ar4⟩ := Opns.int Try.underlying25 ar3
  obtain ⟨hasPref, aq5, rfl, ar5⟩ := Opns.bool Try.underlying4 ar4
  obtain ⟨pref, aq6, rfl, prefw, ar6⟩ := Opns.int Try.underlying25 ar5
  obtain ⟨hasOrig, aq7, rfl, ar7⟩ := Opns.bool Try.underlying4 ar6
  obtain ⟨orig, aq8, rfl, origw, ar8⟩ := Opns.int Try.underlying27 ar7
  obtain ⟨clus, aq9, rfl, clush, ar9⟩ := Opns.cons ar8
  obtain ⟨comms, aq10, rfl, commsh, ar10⟩ := Opns.cons ar9
  obtain ⟨tun, aq11, rfl, tunh, ar11⟩ := Opns.cons ar10
  obtain rfl := Opns.nil ar11
  have hp := pathh
  have hc := clush
  have hm := commsh
  have ht := tunh
  obtain ⟨pa, pn, pc, rfl, _⟩ := pathh.slice Try.underlying32 rfl (by decide +kernel)
  obtain ⟨ca, cn, cc, rfl, _⟩ := clush.slice Try.underlying33 rfl (by decide +kernel)
  obtain ⟨ma, mn, mc, rfl, _⟩ := commsh.slice Try.underlying34 rfl (by decide +kernel)
  obtain ⟨tk, tl, tr, tg, rfl⟩ := open_tunnel tunh
  exact ⟨⟨origin, ⟨pa, pn, pc⟩, next, hasMed, med, hasPref, pref, hasOrig, orig, ⟨ca, cn, cc⟩, ⟨ma, mn, mc⟩, tk, tl, tr, tg⟩, by simp [At.cs], ⟨originw, nextw, medw, prefw, origw, hp, hc, hm, ht⟩⟩

structure Rt.reads (w : World) (r : Rt) : Prop where
  n : r.n.wf
  a : r.a.reads w
  peer : (Lit.int .u32 r.peer).wf = true
  key : Opn Try.prog w 31 r.n.cs.toList

theorem open_route {w : World} {cs : List Value} (h : Opn Try.prog w 40 cs) : ∃ r : Rt, cs = r.cs.toList ∧ r.reads w := by
  have h := h.struct Try.underlying40 (by kernel_rfl) (by kernel_rfl)
  change Opns Try.prog w [31, 38, 27, 4] cs at h
  obtain ⟨n, aq0, rfl, nh, ar0⟩ := Opns.cons h
  obtain ⟨a, aq1, rfl, ah, ar1⟩ := Opns.cons ar0
  obtain ⟨peer, aq2, rfl, peerw, ar2⟩ := Opns.int Try.underlying27 ar1
  obtain ⟨stale, aq3, rfl, ar3⟩ := Opns.bool Try.underlying4 ar2
  obtain rfl := Opns.nil ar3
  have nh' := nh
  obtain ⟨n, rfl, hn⟩ := open_nlri nh
  obtain ⟨a, rfl, ha⟩ := open_attrs ah
  exact ⟨⟨n, a, peer, stale⟩, by simp [Rt.cs, NL.cs, At.cs], hn, ha, peerw, nh'⟩

theorem Rt.reads.ok {w : World} {r : Rt} (h : r.reads w) : r.ok := by
  have b1 := bounds_u32 h.peer
  have b2 := bounds_u32 h.a.med
  have b3 := bounds_u32 h.a.pref
  have b4 := bounds_u32 h.a.orig
  constructor <;> omega

theorem arg_route {w : World} {v : Value} (h : Arg Try.prog w 40 v) : ∃ r : Rt, v = .agg r.cs ∧ r.reads w := by
  have h2 := h.2
  obtain ⟨cs, rfl, _⟩ := h.struct Try.underlying40 (by kernel_rfl) (by kernel_rfl)
  obtain ⟨r, e, hr⟩ := open_route h2
  simp [Value.cells] at e
  have e : cs = r.cs := by apply Array.toList_inj.1; simpa using e
  exact ⟨r, by rw [e], hr⟩

theorem list_of {α : Type} (n : Nat) (p : Nat → α → Prop) (h : ∀ k, k < n → ∃ x, p k x) : ∃ l : List α, l.length = n ∧ ∀ k x, l[k]? = some x → p k x := by
  induction n with
  | zero => exact ⟨[], rfl, fun k x h => by simp at h⟩
  | succ n ih =>
    obtain ⟨l, hl, hp⟩ := ih fun k hk => h k (by omega)
    obtain ⟨x, hx⟩ := h n (by omega)
    refine ⟨l ++ [x], by simp [hl], fun k y hy => ?_⟩
    by_cases hk : k < n
    · rw [List.getElem?_append_left (by omega)] at hy; exact hp k y hy
    · have : k = n := by
        have := (List.getElem?_eq_some_iff.1 hy).1
        simp [hl] at this; omega
      subst this
      simp [← hl] at hy
      rw [← hy]; exact hx

theorem arg_routes {w : World} {v : Value} (h : Arg Try.prog w 44 v) : ∃ (A : Option Addr) (n cap : Nat) (rs : List Rt), v = .slice A n cap ∧ n ≤ cap ∧ cap ≤ maxLen ∧ Routes w A n rs ∧ ∀ r ∈ rs, r.reads w := by
  obtain ⟨A, n, cap, rfl, h1, h2, h3⟩ := h.slice Try.underlying44 (m := 38) (by kernel_rfl) (by omega)
  by_cases hn : 0 < n
  · obtain ⟨b, off, rfl, hlt, hk⟩ := h3 hn
    obtain ⟨rs, hl, hp⟩ := list_of n (fun k (r : Rt) => w.row? b (off + k * 38) 38 = some r.cs ∧ r.reads w) fun k hk' => by
      obtain ⟨es, e1, e2⟩ := hk k hk'
      obtain ⟨r, rfl, hr⟩ := open_route e2
      exact ⟨r, by simpa using e1, hr⟩
    refine ⟨_, n, cap, rs, rfl, h1, h2, ⟨hl, fun _ => ⟨b, off, rfl, hlt, fun k r hr => (hp k r hr).1⟩⟩, fun r hr => ?_⟩
    obtain ⟨k, hk, e⟩ := List.getElem_of_mem hr
    exact (hp k r (by rw [← e]; exact List.getElem?_eq_getElem hk)).2
  · refine ⟨A, n, cap, [], rfl, h1, h2, ⟨by simp; omega, fun h => absurd h hn⟩, by simp⟩

theorem arg_hops {w : World} {v : Value} (h : Arg Try.prog w 41 v) : ∃ (A : Option Addr) (n cap : Nat) (l : List (Int × Int)), v = .slice A n cap ∧ n ≤ cap ∧ cap ≤ maxLen ∧ (n ≤ 30 → Hops w A n l) := by
  obtain ⟨A, n, cap, rfl, h1, h2, h3⟩ := h.slice Try.underlying41 (m := 2) (by kernel_rfl) (by omega)
  by_cases hn : 0 < n
  · obtain ⟨b, off, rfl, hlt, hk⟩ := h3 hn
    obtain ⟨l, hl, hp⟩ := list_of n (fun k (p : Int × Int) => w.row? b (off + k * 2) 2 = some #[.int .u32 p.1, .int .i64 p.2] ∧ (Lit.int .u32 p.1).wf = true ∧ (Lit.int .i64 p.2).wf = true) fun k hk' => by
      obtain ⟨es, e1, e2⟩ := hk k hk'
      have h := e2.struct Try.underlying49 (by kernel_rfl) (by kernel_rfl)
      change Opns Try.prog w [27, 3] es at h

      obtain ⟨i, aq0, rfl, iw, ar0⟩ := Opns.int Try.underlying27 h
      obtain ⟨l, aq1, rfl, lw, ar1⟩ := Opns.int Try.underlying3 ar0
      obtain rfl := Opns.nil ar1
      exact ⟨(i, l), by simpa using e1, iw, lw⟩
    refine ⟨_, n, cap, l, rfl, h1, h2, fun h30 => ⟨hl, h30, fun p hp' => ?_, fun _ => ⟨b, off, rfl, hlt, fun k p hkp => ?_⟩⟩⟩
    · obtain ⟨k, hk, e⟩ := List.getElem_of_mem hp'
      have := hp k p (by rw [← e]; exact List.getElem?_eq_getElem hk)
      have b1 := bounds_u32 this.2.1
      have b2 := bounds_i64 this.2.2
      omega
    · have hr := (hp k p hkp).1
      unfold World.row? at hr
      split at hr
      · rename_i c ty f hb
        unfold sub? at hr
        split at hr
        · rename_i hle
          have he := Option.some.inj hr
          have g0 : (c.extract (off + k * 2) (off + k * 2 + 2))[0]? = some (.int .u32 p.1) := by rw [he]; rfl
          have g1 : (c.extract (off + k * 2) (off + k * 2 + 2))[1]? = some (.int .i64 p.2) := by rw [he]; rfl
          rw [Array.getElem?_extract, if_pos (by omega)] at g0 g1
          simp only [World.cell?, hb]
          exact ⟨by simpa using g0, by simpa using g1⟩
        · cases hr
      · cases hr
  · refine ⟨A, n, cap, [], rfl, h1, h2, fun h30 => ⟨by simp; omega, h30, by simp, fun h => absurd h hn⟩⟩
end Go.Proofs.Ytkklhidoonefoaa
