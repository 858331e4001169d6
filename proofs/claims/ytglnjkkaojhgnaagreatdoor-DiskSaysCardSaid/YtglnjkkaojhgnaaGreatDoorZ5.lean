/- What is proved here: the contract of the law DiskSays. -/
import Derived.Test.YtglnjkkaojhgnaaGreatDoorZ3
set_option linter.unusedSimpArgs false
set_option linter.unusedVariables false
set_option maxRecDepth 100000
namespace Go.Vg
open Go Go.Proofs
section
variable {H : Heap} (hL : Lb H)
include hL
set_option maxHeartbeats 1000000 in
theorem cDiskSays {sa wa ta ua ra : Option Addr} {sn sc wn wc tn tc un uc rl rc : Nat} {d x : Dsk} {r : Recd} {k : Int} (hd : DskAt H d sa sn sc wa wn wc) (hr : Pins H ra rl r.rel.lock) (hx : DskAt H x ta tn tc ua un uc) :
    Spec Tryz.prog 3 [dskArg sa sn sc wa wn wc, recArg r ra rl rc, .int .i64 k, dskArg ta tn tc ua un uc] H fun v _ => v = .bool true := by
  refine TryzvcJ Tryz.func3 (by kernel_rfl) (by kernel_rfl) _ rfl (fun base K => vz3 sa wa sn sc wn wc r.kind r.agent r.try_ r.num r.rel.id r.good ra rl rc k ta ua tn tc un uc base H K) fun base hb => fun b b1 b2 => ?_
  refine (cPut hL hd (r := r) (rc := rc) hr).dsk fun a1 n1 c1 a2 n2 c2 H1 e1 hN1 hD1 => fun b3 => ?_
  refine (cSync (hL.ext e1) (hd.ext e1)).dsk fun a3 n3 c3 a4 n4 c4 H2 e2 hN2 hD2 => fun b4 => ?_
  have e02 := Ext.trans e1 e2
  refine (cCrash (hL.ext e02) (n := k) (hd.ext e02)).dsk fun a5 n5 c5 a6 n6 c6 H3 e3 hN3 hD3 => fun b5 => ?_
  have e03 := Ext.trans e02 e3
  refine (cRecover (hL.ext e03) (hd.ext e03)).mono fun v H4 e4 hv => ?_
  obtain ⟨a7, n7, c7, a8, n8, c8, a9, n9, c9, G, rows, hv, hD4, hS⟩ := hv
  refine ⟨_, _, _, _, _, _, _, _, _, _, hv, fun hN4 => fun b6 => ?_⟩
  have hR4 : Recs H4 a9 n9 (if dskErr d = 0 then dskRecs d else []) := hS.sl RRec.mono (by omega) hN4
  have e04 := Ext.trans e03 e4
  refine (cRefDiskCheck (hL.ext e04) (hd.ext e04)).int1 fun H5 e5 hN5 => fun b7 => ?_
  have e05 := Ext.trans e04 e5
  refine (cFiled (hL.ext e05)).bool1 fun H6 e6 hN6 => ⟨fun h => (by cases h), fun _ => ?_⟩
  have e06 := Ext.trans e05 e6
  refine (cDiskCheck (hL.ext e06) (hd.ext e06)).int1 fun H7 e7 hN7 => ⟨fun h => absurd rfl h, fun _ => ?_⟩
  have e07 := Ext.trans e06 e7
  refine (cDiskSame (hd.ext e07) (hx.ext e07)).bool1 fun H8 e8 hN8 => ?_
  have e08 := Ext.trans e07 e8
  refine (cSameDisk (hd.ext e08) (hx.ext e08)).bool1 fun H9 e9 hN9 => ⟨_, neBool, fun h => by simp at h, fun _ => ?_⟩
  have e09 := Ext.trans e08 e9
  have eA : Ext H1 H9 := Ext.trans e2 (Ext.trans e3 (Ext.trans e4 (Ext.trans e5 (Ext.trans e6 (Ext.trans e7 (Ext.trans e8 e9))))))
  have eB : Ext H2 H9 := Ext.trans e3 (Ext.trans e4 (Ext.trans e5 (Ext.trans e6 (Ext.trans e7 (Ext.trans e8 e9)))))
  have eC : Ext H3 H9 := Ext.trans e4 (Ext.trans e5 (Ext.trans e6 (Ext.trans e7 (Ext.trans e8 e9))))
  have eD : Ext H4 H9 := Ext.trans e5 (Ext.trans e6 (Ext.trans e7 (Ext.trans e8 e9)))
  have q1 := (hD1.ext newOf_ext).ext eA
  have q2 := (hD2.ext newOf_ext).ext eB
  have q3 := (hD3.ext newOf_ext).ext eC
  have q4 := (hD4.ext newOf_ext).ext eD
  have q5 := hR4.ext' eD
  refine ⟨fun hbad => ?_, fun hgood => ?_⟩
  · have p1 : dskPut d r = .error (dskErr d) := by unfold dskPut; rw [if_neg hbad]
    have p2 : dskSync d = .error (dskErr d) := by unfold dskSync; rw [if_neg hbad]
    have p3 : dskCrash d k = .error (dskErr d) := by unfold dskCrash; rw [if_neg hbad]
    rw [p1] at q1 ⊢
    rw [p2] at q2 ⊢
    rw [p3] at q3 ⊢
    rw [if_neg hbad] at q4 q5
    have hn9 := q5.len
    obtain rfl : n9 = 0 := by simpa using hn9.symm
    refine ⟨True, ⟨fun _ => ⟨fun _ => ⟨fun _ => ⟨fun _ => ⟨fun _ => (cSameDisk q1 DskAt.zero).bool1 fun Ha ea _ => ⟨fun _ => (cSameDisk (q2.ext ea) DskAt.zero).bool1 fun Hb eb _ => ⟨fun _ => (cSameDisk ((q3.ext ea).ext eb) DskAt.zero).bool1 fun Hc ec _ => ⟨fun _ => (cSameDisk (((q4.ext ea).ext eb).ext ec) DskAt.zero).bool1 fun Hd ed _ => ⟨rfl, Ext.trans ea (Ext.trans eb (Ext.trans ec ed)), by simp⟩, fun h => ?_⟩, fun h => ?_⟩, fun h => ?_⟩, fun h => absurd rfl h⟩, fun h => absurd rfl h⟩, fun h => absurd rfl h⟩, fun h => absurd rfl h⟩, fun h => absurd rfl h⟩, by simp⟩
    all_goals simp [dskGet] at h
  · have hgood := Decidable.not_not.1 hgood
    rw [if_pos hgood] at q4 q5
    refine (cPutOn (hL.ext e09) (hd.ext e09) (r := r) (rc := rc) (hr.ext' e09) hgood).mono fun v Ha ea hv => ?_
    obtain ⟨y1, m1, d1, y2, m2, d2, hv, hQ1⟩ := hv
    refine ⟨_, _, _, _, _, _, _, hv, fun hNa => fun b12 => ?_⟩
    have e0a := Ext.trans e09 ea
    refine (cSynced (hL.ext e0a) (hd.ext e0a) hgood).mono fun v Hb eb hv => ?_
    obtain ⟨y3, m3, d3, y4, m4, d4, hv, hQ2⟩ := hv
    refine ⟨_, _, _, _, _, _, _, hv, fun hNb => fun b13 => ?_⟩
    have e0b := Ext.trans e0a eb
    refine (cRecovered (hL.ext e0b) (hd.ext e0b) hgood).mono fun v Hc ec hv => ?_
    obtain ⟨y5, m5, d5, y6, m6, d6, y7, m7, d7, hv, hQ3, _, hQ4⟩ := hv
    refine ⟨_, _, _, _, _, _, _, _, _, hv, fun hNc => fun b14 => ?_⟩
    have e9c : Ext H9 Hc := Ext.trans ea (Ext.trans eb ec)
    have e0c := Ext.trans e0b ec
    refine ⟨False, ⟨fun h => absurd rfl h, fun _ => (cSameDisk (q1.ext e9c) (hQ1.ext (Ext.trans eb ec))).bool1 fun Hd ed _ => ⟨fun h => by simp at h, fun _ => ⟨fun h => absurd rfl h, fun _ => (cSameDisk ((q2.ext e9c).ext ed) ((hQ2.ext ec).ext ed)).bool1 fun He ee _ => ⟨fun h => by simp at h, fun _ => ⟨fun h => absurd hgood h, fun _ =>
      (cSameDisk (((q4.ext e9c).ext ed).ext ee) ((hQ3.ext ed).ext ee)).bool1 fun Hf ef _ => ⟨fun h => by simp at h, fun _ => (cEqRecsR (((q5.ext' e9c).ext' ed).ext' ee |>.ext' ef) ((hQ4.ext' ed).ext' ee |>.ext' ef)).bool1 fun Hg eg _ => ⟨rfl, Ext.trans ed (Ext.trans ee (Ext.trans ef eg)), by simp⟩⟩⟩⟩⟩⟩⟩, fun h => h.elim, fun _ => ?_⟩
    have hw := hd.wait.len
    have hle := hd.wle
    refine ⟨k < 0 ∨ (wn : Int) < k, ⟨fun h1 => ⟨rfl, subH, .inl h1⟩, fun h1 => ⟨rfl, subH, ⟨fun h2 => h2.resolve_left h1, .inr⟩⟩⟩, fun h1 => ?_, fun h1 => ?_⟩
    · have p3 : dskCrash d k = .error 3 := by unfold dskCrash; rw [if_pos hgood, if_pos (by rw [hw]; exact h1)]
      rw [p3] at q3 ⊢
      exact ⟨True, ⟨fun _ => (cSameDisk (q3.ext e9c) DskAt.zero).bool1 fun Hd ed _ => ⟨rfl, ed, by simp [dskGet]⟩, fun h => absurd rfl h⟩, by simp⟩
    · have p3 : dskCrash d k = .ok ⟨d.safe, d.wait.take k.toNat⟩ := by unfold dskCrash; rw [if_pos hgood, if_neg (by rw [hw]; exact h1)]
      rw [p3] at q3 ⊢
      refine ⟨fun _ => ⟨by omega, by omega, ?_⟩, fun h => absurd rfl h⟩
      have hsub : Bytes Hc wa k.toNat (d.wait.take k.toNat) := by
        have := ((hd.ext e0c).wait).sub (l := 0) (m := k.toNat) (a' := wa) (by omega) (fun _ => by cases wa <;> simp [Addr.add])
        rwa [List.drop_zero] at this
      have q6 : DskAt Hc ⟨d.safe, d.wait.take k.toNat⟩ sa sn sc wa k.toNat wc := ⟨(hd.ext e0c).safe, hsub, hd.sle, by omega⟩
      exact (cSameDisk (q3.ext e9c) q6).bool1 fun Hd ed _ => by simp [dskGet]
end
end Go.Vg
